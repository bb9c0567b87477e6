/- op.Step where a helper is under way, and one who finishes within it; printed by gengo.py. -/
import Derived.Test.YtpkfimijnkkbjaaGreatJ15
set_option linter.unusedVariables false
namespace Go.Proofs.YtpkfimijnkkbjaaGreat
namespace Qk
open Ev Ct
open Go.IntKind (i64 u64)
open Go.Proofs.Tryz (prog)
section
variable {P:cv} {b t u ph:Nat} {M:Mm} {o:Op} {f:Fn} {fo:Fo}
theorem N7 (hP:PB P) (iN:P.n<=4) (hb:b<524288) (bi:BI P b M) {bM:Bool} (hc:m6 P b t o) (eF:o.st= .sub (.hp false u ph (.sub f bM)) fo) (tb:pL P M t o) (j j2 j3:Nat->Int) (ay:Nat->AV) (aA:Int) (inv af:Nat->AV) (c:Nat->Int) (hW:(wW aA inv af).aD (· ≠64)):eA P t (bp t 64 48 j o) o [(64,aY P 80 j2 false u ph (.sub f bM)),(80,bk P j3 f)] M ay aA inv af c:=by
 obtain ⟨n1,n2⟩:=hP.n
 obtain ⟨k1,k2⟩:=hP.k
 obtain ⟨take,v,tries,ref,i,ag,err,val,os⟩:=o
 obtain ⟨ht,hv,lf,nu,eY,hi,eX⟩:=hc
 simp only at ht hv lf nu eY hi eX
 cases eF
 have hT:i64.wrap ((tries:Int)+1)=((tries+1:Nat):Int):=gg (by omega)
 have hI:i64.wrap ((i:Int)+1)=((i+1:Nat):Int):=gg (by omega)
 obtain ⟨hu,O7,AT⟩:=tb
 obtain ⟨c',row',eZ,hp,ho⟩:=C7 (u:=u) (ph:=ph) hP hb bi O7 j2 j3 aA inv af c hW
 have ij:eu prog (dw [(286,AK P (aY P 80 j2 false u ph (.sub f bM)) row' (bk P j3 f) eZ aA inv af c c' M (ax P M false u ph (.sub f bM)).1 (ax P M false u ph (.sub f bM)).2.isNone)] bz):=gu dx (λx hx=>by
  simp only [List.mem_cons,List.not_mem_nil,or_false] at hx
  subst hx;exact hp)
 have hid:=ho.ids
 cases hs:(ax P M false u ph (.sub f bM)).2 with
 | none=>
  rw [hs] at ij ho
  cases ho with
  | fin h1 h2 fx=>
   rcases AT with rfl | ⟨rfl,F8⟩
   ·cases take
    ·have wy:=wA I6 P c M aA inv af ay 0 P.n P.k P.att t v i tries (j 0) ref (j 1) (j 2) (j 3) (j 4) ag (j 5) err val .au 0 (aY P 80 j2 false u ph (.sub f bM)) row' (c' 0) (c' 1) (c' 2) (c' 3) (c' 4) (aG P (ax P M false u ph (.sub f bM)).1) (bk P j3 f) eZ (j 7)
     exact gJ (M':=(ax P M false u ph (.sub f bM)).1) (o':=⟨false,v,tries,ref,0,ag,err,val,.mark⟩) (rj:=λq=>if q=6 then 0 else j q) (c':=c') (e:=by simp [aj,bF,hs,Op.gv,Op.cM]) (hv:=wy)
    ·by_cases bf:P.att<tries+1
     ·have uC:aq .gtr ((tries+1:Nat):Int) (P.att:Int)=true:=by rw [fU];exact decide_eq_true bf
      have wy:=wA I7 P c M aA inv af ay 0 P.n P.k P.att t v i tries (j 0) ref (j 1) (j 2) (j 3) (j 4) ag (j 5) err val .au 0 (aY P 80 j2 false u ph (.sub f bM)) row' (c' 0) (c' 1) (c' 2) (c' 3) (c' 4) (aG P (ax P M false u ph (.sub f bM)).1) (bk P j3 f) eZ (j 7)
      rw [hT] at wy
      exact gJ (M':=(ax P M false u ph (.sub f bM)).1) (o':=⟨true,v,tries+1,ref,0,ag,err,val,.ag⟩) (rj:=λq=>if q=6 then 0 else j q) (c':=c') (e:=by simp [aj,bF,hs,Op.gv,Op.cM,Op.aH,bf]) (hv:=wy)
     ·have uC:aq .gtr ((tries+1:Nat):Int) (P.att:Int)=false:=by rw [fU];exact decide_eq_false bf
      have wy:=wA I8 P c M aA inv af ay 0 P.n P.k P.att t v i tries (j 0) ref (j 1) (j 2) (j 3) (j 4) ag (j 5) err val .au 0 (aY P 80 j2 false u ph (.sub f bM)) row' (c' 0) (c' 1) (c' 2) (c' 3) (c' 4) (aG P (ax P M false u ph (.sub f bM)).1) (bk P j3 f) eZ (j 7)
      rw [hT] at wy
      exact gJ (M':=(ax P M false u ph (.sub f bM)).1) (o':=⟨true,v,tries+1,ref,i,ag,err,val,.head⟩) (rj:=λq=>if q=6 then 0 else j q) (c':=c') (e:=by simp [aj,bF,hs,Op.gv,Op.cM,Op.aH,bf]) (hv:=wy)
   ·by_cases cF:i+1<P.n
    ·have c9:aq .lss ((i+1:Nat):Int) (P.n:Int)=true:=by rw [jB];exact decide_eq_true cF
     have wy:=wA I9 P c M aA inv af ay 0 P.n P.k P.att t v i tries (j 0) ref (j 1) (j 2) (j 3) (j 4) ag (j 5) err val .au 0 (aY P 80 j2 false u ph (.sub f bM)) row' (c' 0) (c' 1) (c' 2) (c' 3) (c' 4) (aG P (ax P M false u ph (.sub f bM)).1) (bk P j3 f) take eZ (j 7)
     rw [hI] at wy
     exact gJ (M':=(ax P M false u ph (.sub f bM)).1) (o':=⟨take,v,tries,ref,i+1,ag,err,val,.b8⟩) (rj:=λq=>if q=6 then 2 else j q) (c':=c') (e:=by simp [aj,bF,hs,Op.gv,Op.cD,cF]) (hv:=wy)
    ·have c9:aq .lss ((i+1:Nat):Int) (P.n:Int)=false:=by rw [jB];exact decide_eq_false cF
     cases take
     ·have wy:=wA Ja P c M aA inv af ay 0 P.n P.k P.att t v i tries (j 0) ref (j 1) (j 2) (j 3) (j 4) ag (j 5) err val .au 0 (aY P 80 j2 false u ph (.sub f bM)) row' (c' 0) (c' 1) (c' 2) (c' 3) (c' 4) (aG P (ax P M false u ph (.sub f bM)).1) (bk P j3 f) eZ (j 7)
      rw [hI] at wy
      exact gJ (M':=(ax P M false u ph (.sub f bM)).1) (o':=⟨false,v,tries,ref,i+1,ag,err,val,.b8⟩) (done:=true) (rj:=j) (row':=gR t ⟨false,v,tries,ref,i+1,ag,err,val,.b8⟩ 17 2 (j 0) (j 1) (j 2) (j 3) (j 4) (j 5) .aX .au) (c':=c') (e:=by simp [aj,bF,hs,Op.gv,Op.cD,cF]) (hv:=wy)
     ·have wy:=wA Jb P c M aA inv af ay 0 P.n P.k P.att t v i tries (j 0) ref (j 1) (j 2) (j 3) (j 4) ag (j 5) err val .au 0 (aY P 80 j2 false u ph (.sub f bM)) row' (c' 0) (c' 1) (c' 2) (c' 3) (c' 4) (aG P (ax P M false u ph (.sub f bM)).1) (bk P j3 f) eZ (j 7)
      rw [hI] at wy
      exact gJ (M':=(ax P M false u ph (.sub f bM)).1) (o':=⟨true,v,tries,ref,i+1,ag,err,val,.result⟩) (rj:=λq=>if q=6 then 2 else j q) (c':=c') (e:=by simp [aj,bF,hs,Op.gv,Op.cD,cF]) (hv:=wy)
 | some s'=>
  rw [hs] at ij ho
  cases ho with
  | @look j' _ h=>
   have wy:=wA Dd P c M aA inv af ay 0 P.n P.k P.att t v i tries (j 0) ref (j 1) (j 2) (j 3) (j 4) ag (j 5) err val .au 0 (aY P 80 j2 false u ph (.sub f bM)) (aY P 80 j' false u ph .look) (c' 0) (c' 1) (c' 2) (c' 3) (c' 4) (aG P (ax P M false u ph (.sub f bM)).1) (bk P j3 f) take (ug fo) eZ (j 7)
   exact gJ (M':=(ax P M false u ph (.sub f bM)).1) (o':=⟨take,v,tries,ref,i,ag,err,val,.sub (.hp false u ph .look) fo⟩) (rj:=j) (c':=c') (e:=by simp [aj,bF,hs]) (hv:=wy)
  | @go j' j'' f' TR=>
   have wy:=wA Dd P c M aA inv af ay 0 P.n P.k P.att t v i tries (j 0) ref (j 1) (j 2) (j 3) (j 4) ag (j 5) err val .au 0 (aY P 80 j2 false u ph (.sub f bM)) (aY P 80 j' false u ph (.sub f' TR)) (c' 0) (c' 1) (c' 2) (c' 3) (c' 4) (aG P (ax P M false u ph (.sub f bM)).1) (bk P j3 f) take (ug fo) (bk P j'' f') (j 7)
   exact gJ (M':=(ax P M false u ph (.sub f bM)).1) (o':=⟨take,v,tries,ref,i,ag,err,val,.sub (.hp false u ph (.sub f' TR)) fo⟩) (rj:=j) (c':=c') (e:=by simp [aj,bF,hs]) (hv:=wy)
theorem N8 (hP:PB P) (iN:P.n<=4) (hb:b<524288) (bi:BI P b M) {bM:Bool} (hc:m6 P b t o) (eF:o.st= .sub (.hp true u ph (.sub f bM)) fo) (tb:pL P M t o) (j j2 j3:Nat->Int) (ay:Nat->AV) (aA:Int) (inv af:Nat->AV) (c:Nat->Int) (hW:(wW aA inv af).aD (· ≠64)):eA P t (bp t 64 48 j o) o [(64,aY P 80 j2 true u ph (.sub f bM)),(80,bk P j3 f)] M ay aA inv af c:=by
 obtain ⟨n1,n2⟩:=hP.n
 obtain ⟨k1,k2⟩:=hP.k
 obtain ⟨take,v,tries,ref,i,ag,err,val,os⟩:=o
 obtain ⟨ht,hv,lf,nu,eY,hi,eX⟩:=hc
 simp only at ht hv lf nu eY hi eX
 cases eF
 have hT:i64.wrap ((tries:Int)+1)=((tries+1:Nat):Int):=gg (by omega)
 have hI:i64.wrap ((i:Int)+1)=((i+1:Nat):Int):=gg (by omega)
 obtain ⟨hu,O7,AT⟩:=tb
 obtain ⟨c',row',eZ,hp,ho⟩:=C7 (u:=u) (ph:=ph) hP hb bi O7 j2 j3 aA inv af c hW
 have ij:eu prog (dw [(279,AK P (aY P 80 j2 true u ph (.sub f bM)) row' (bk P j3 f) eZ aA inv af c c' M (ax P M true u ph (.sub f bM)).1 (ax P M true u ph (.sub f bM)).2.isNone)] bz):=gu dx (λx hx=>by
  simp only [List.mem_cons,List.not_mem_nil,or_false] at hx
  subst hx;exact hp)
 have hid:=ho.ids
 cases hs:(ax P M true u ph (.sub f bM)).2 with
 | none=>
  rw [hs] at ij ho
  cases ho with
  | fin h1 h2 fx=>
   cases fx
 | some s'=>
  rw [hs] at ij ho
  cases ho with
  | @look j' _ h=>
   have wy:=wA De P c M aA inv af ay 0 P.n P.k P.att t v i tries (j 0) ref (j 1) (j 2) (j 3) (j 4) ag (j 5) err val .au 0 (aY P 80 j2 true u ph (.sub f bM)) (aY P 80 j' true u ph .look) (c' 0) (c' 1) (c' 2) (c' 3) (c' 4) (aG P (ax P M true u ph (.sub f bM)).1) (bk P j3 f) take (ug fo) eZ (j 7)
   exact gJ (M':=(ax P M true u ph (.sub f bM)).1) (o':=⟨take,v,tries,ref,i,ag,err,val,.sub (.hp true u ph .look) fo⟩) (rj:=j) (c':=c') (e:=by simp [aj,bF,hs]) (hv:=wy)
  | @go j' j'' f' TR=>
   have wy:=wA De P c M aA inv af ay 0 P.n P.k P.att t v i tries (j 0) ref (j 1) (j 2) (j 3) (j 4) ag (j 5) err val .au 0 (aY P 80 j2 true u ph (.sub f bM)) (aY P 80 j' true u ph (.sub f' TR)) (c' 0) (c' 1) (c' 2) (c' 3) (c' 4) (aG P (ax P M true u ph (.sub f bM)).1) (bk P j3 f) take (ug fo) (bk P j'' f') (j 7)
   exact gJ (M':=(ax P M true u ph (.sub f bM)).1) (o':=⟨take,v,tries,ref,i,ag,err,val,.sub (.hp true u ph (.sub f' TR)) fo⟩) (rj:=j) (c':=c') (e:=by simp [aj,bF,hs]) (hv:=wy)
end
def iX (P:cv) (j2 j3:Nat->Int):Os->List (Nat×ak)
 | .sub (.fn f) _=>[(64,bk P j2 f)]
 | .sub (.hp take u ph (.sub f bM)) _=>[(64,aY P 80 j2 take u ph (.sub f bM)),(80,bk P j3 f)]
 | .sub (.hp take u ph s) _=>[(64,aY P 80 j2 take u ph s)]
 | _=>[]
theorem Ji {P:cv} {b:Nat} {M:Mm} (hP:PB P) (iN:P.n<=4) (hb:b<524288) (bi:BI P b M) {t:Nat} {o:Op} (hc:m6 P b t o) (tb:pL P M t o) (j j2 j3:Nat->Int) (ay:Nat->AV) (aA:Int) (inv af:Nat->AV) (c:Nat->Int) (hW:(wW aA inv af).aD (· ≠64)):
  eA P t (bp t 64 48 j o) o (iX P j2 j3 o.st) M ay aA inv af c:=by
 obtain ⟨take,v,tries,ref,i,ag,err,val,os⟩:=o
 cases os with
 | check=>exact Jg hP iN hb bi hc rfl tb j ay aA inv af c
 | mark=>exact N1 hP iN hb bi hc rfl tb j ay aA inv af c
 | ia mark=>exact gV (by omega) rfl (λs f h=>by cases h) (λh=>by cases h) (Jd hP hb bi hc rfl tb j ay aA inv af c)
 | value=>exact gV (by omega) rfl (λs f h=>by cases h) (λh=>by cases h) (Je hP hb bi hc rfl tb j ay aA inv af c)
 | next=>exact gV (by omega) rfl (λs f h=>by cases h) (λh=>by cases h) (NY hP hb bi hc rfl tb j ay aA inv af c)
 | ib=>exact Jf hP iN hb bi hc rfl tb j ay aA inv af c
 | tail=>exact gV (by omega) rfl (λs f h=>by cases h) (λh=>by cases h) (NW hP hb bi hc rfl tb j ay aA inv af c)
 | behind last=>exact EZ hP iN hb bi hc rfl tb j ay aA inv af c
 | put last=>exact Rk hP iN hb bi hc rfl tb j ay aA inv af c
 | head=>exact gV (by omega) rfl (λs f h=>by cases h) (λh=>by cases h) (NX hP hb bi hc rfl tb j ay aA inv af c)
 | dX first=>exact gV (by omega) rfl (λs f h=>by cases h) (λh=>by cases h) (Bx hP hb bi hc rfl tb j ay aA inv af c)
 | first first last=>exact gV (by omega) rfl (λs f h=>by cases h) (λh=>by cases h) (Jc hP hb bi hc rfl tb j ay aA inv af c)
 | Jb6 first last w=>exact Bz hP iN hb bi hc rfl tb j ay aA inv af c
 | read first x=>exact N2 hP iN hb bi hc rfl tb j ay aA inv af c
 | take first y=>exact N3 hP iN hb bi hc rfl tb j ay aA inv af c
 | ag=>exact Jh hP iN hb bi hc rfl tb j ay aA inv af c
 | cO=>exact zE hP iN hb bi hc rfl tb j ay aA inv af c
 | b8=>exact N4 hP iN hb bi hc rfl tb j ay aA inv af c
 | result=>exact E1 hP iN hb bi hc rfl tb j ay aA inv af c
 | sub s fo=>
  cases s with
  | fn f=>exact Um hP iN hb bi hc rfl tb j j2 j3 ay aA inv af c
  | hp tk u ph s=>
   cases tk with
   | true=>
    cases s with
    | sub f bM=>exact N8 hP iN hb bi hc rfl tb j j2 j3 ay aA inv af c hW
    | _=>exact N6 hP iN hb bi hc rfl rfl tb j j2 j3 ay aA inv af c
   | false=>
    cases s with
    | sub f bM=>exact N7 hP iN hb bi hc rfl tb j j2 j3 ay aA inv af c hW
    | _=>exact N5 hP iN hb bi hc rfl rfl tb j j2 j3 ay aA inv af c
end Qk
end Go.Proofs.YtpkfimijnkkbjaaGreat
namespace Go.Proofs.YtpkfimijnkkbjaaGreat
namespace Ev
section
variable {κ:dE}
variable {P:Program}
variable {s s':St} {H:Nat->Option ak} {φ:bo} {w:World} {env:Env} {nt:Nat} {a:Act} {K:Act->World->Prop}
theorem vg {R W:Nat->Prop} {Xt Wh:(Nat->Prop)->Prop} (sp:Sp s s' R W) (ids:nG s s' R W Xt Wh) (aQ:s'.pre) {φ':bo} {w':World} (hm:dG s s' W φ φ' w w')
  (bx:cz κ H φ w) (hH: ∀ c o,H c=some o->c<s.next∧o.aD (· < s.next)) (hs: ∀ c o,s.get c=some o->o.aD (· < s.next)∧ ∃ o0,H c=some o0∧bW φ φ o0 o) (cF: ∀ D D':Nat->Prop,(∀ i,D i->D' i)->Xt D->Xt D') (et:Xt (· < s.next)):
  (∀ i,i<s.next->φ' i=φ i)∧cz κ (after H s') φ' w'∧(∀ c o,after H s' c=some o->c<s'.next∧o.aD (· < s'.next))∧Wh (· < s'.next):=by
 have tY:Fits s (λ_=>True) φ w:=⟨λb o _ hg=>by
   obtain ⟨_,o0,h2,h3⟩:=hs b o hg
   exact (bx.holds b o0 h2).same rfl h3,λb c _ _ ki gN he=>by
   obtain ⟨x,hx⟩:=aZ ki
   obtain ⟨_,x0,Jc4,_⟩:=hs b x hx
   obtain ⟨y,hy⟩:=aZ gN
   obtain ⟨_,y0,L9,_⟩:=hs c y hy
   exact bx.inj b c x0 y0 Jc4 L9 he⟩
 have Ql:l9 s (λ_=>True):=λb o _ hg=>by
  obtain ⟨h1,o0,h2,_⟩:=hs b o hg
  exact ⟨(hH b o0 h2).1,h1⟩
 have Qf:=tY.step sp hm Ql (λ_ _=>trivial)
 have nj: ∀ i,i<s.next->i<s'.next:=λi hi=>Nat.lt_of_lt_of_le hi sp.next
 have Zp:=Ql.step sp ids aQ (cF _ _ nj et) (λ_ _=>trivial)
 have nw: ∀ i,i<s.next->φ' i=φ i:=λi hi=>hm.eH i (by omega)
 have qL: ∀ c o,¬ s'.wr.testBit c=true->H c=some o->cf φ' c o w'∧φ' c=φ c∧(φ c).dp<w.heap.size∧(∀ b,W b->s.get b≠none->(φ b).dp≠(φ c).dp):=by
  intro c o hw hg
  have Z6:=bx.holds c o hg
  have bq: ∀ b,W b->s.get b≠none->(φ b).dp≠(φ c).dp:=by
   intro b hb ki he
   obtain ⟨x,hx⟩:=aZ ki
   obtain ⟨_,x0,Jc4,_⟩:=hs b x hx
   have:=bx.inj b c x0 o Jc4 hg he
   subst this
   exact hw (sp.wr b hb)
  exact ⟨Z6.bB (D:=(· < s.next)) (λi hi=>nw i hi) (hH c o hg).2 (nw c (hH c o hg).1) (hm.frame _ Z6.lt bq),nw c (hH c o hg).1,Z6.lt,bq⟩
 have apart: ∀ b c x y,s'.wr.testBit b=true->s'.get b=some x-> ¬ s'.wr.testBit c=true->H c=some y->(φ' b).dp≠(φ' c).dp:=by
  intro b c x y hb ki hc gN he
  obtain ⟨_,k2,k3,k4⟩:=qL c y hc gN
  rw [k2] at he
  by_cases hw:W b
  ·rcases hm.source b hw (by rw [ki];simp) with h | ⟨d,hd,pO,h⟩
   ·omega
   ·exact k4 d hd pO (h.symm.trans he)
  ·rw [sp.same b hw] at ki
   obtain ⟨_,x0,Jc4,_⟩:=hs b x ki
   rw [nw b (hH b x0 Jc4).1] at he
   have:=bx.inj b c x0 y Jc4 gN he
   subst this
   exact hc hb
 refine ⟨nw,⟨λc o hc=> ?_,λb c x y hb hc he=> ?_,λc o hc=> ?_,λr hr=> ?_,Nat.le_trans bx.size hm.size,hm.kept.1.trans bx.env.1,hm.kept.2.trans bx.env.2⟩,λc o hc=> ?_,ids _ aQ (λi _ hi=>hi) (cF _ _ nj et) (λb o _ hg=>((hs b o hg).1).mono nj) |>.1⟩
 ·unfold after at hc
  split at hc
  ·exact Qf.holds c o trivial hc
  ·rename_i hw;exact (qL c o hw hc).1
 ·unfold after at hb hc
  by_cases hwb:s'.wr.testBit b=true<;>by_cases Jc1:s'.wr.testBit c=true
  ·rw [if_pos hwb] at hb;rw [if_pos Jc1] at hc
   exact Qf.inj b c trivial trivial (by rw [hb];simp) (by rw [hc];simp) he
  ·rw [if_pos hwb] at hb;rw [if_neg Jc1] at hc
   exact absurd he (apart b c x y hwb hb Jc1 hc)
  ·rw [if_neg hwb] at hb;rw [if_pos Jc1] at hc
   exact absurd he.symm (apart c b y x Jc1 hc hwb hb)
  ·rw [if_neg hwb] at hb;rw [if_neg Jc1] at hc
   rw [(qL b x hwb hb).2.1,(qL c y Jc1 hc).2.1] at he
   exact bx.inj b c x y hb hc he
 ·unfold after at hc
  split at hc
  ·by_cases hW:W c
   ·rcases hm.source c hW (by rw [hc];simp) with h | ⟨d,hd,pO,h⟩
    ·exact Nat.le_trans bx.size h
    ·obtain ⟨x,hx⟩:=aZ pO
     obtain ⟨_,x0,Jc4,_⟩:=hs d x hx
     rw [h];exact bx.base d x0 Jc4
   ·rw [sp.same c hW] at hc
    obtain ⟨_,x0,Jc4,_⟩:=hs c o hc
    rw [nw c (hH c x0 Jc4).1];exact bx.base c x0 Jc4
  ·rw [nw c (hH c o hc).1];exact bx.base c o hc
 ·rw [hm.frame r (Nat.lt_of_lt_of_le hr bx.size) λc hc gN=> ?_]
  ·exact bx.old r hr
  ·obtain ⟨x,hx⟩:=aZ gN
   obtain ⟨_,x0,Jc4,_⟩:=hs c x hx
   have:=bx.base c x0 Jc4
   omega
 ·unfold after at hc
  split at hc
  ·exact Zp c o trivial hc
  ·have:=hH c o hc
   exact ⟨Nat.lt_of_lt_of_le this.1 sp.next,this.2.mono nj⟩
structure At (κ:dE) (H:Nat->Option ak) (nt nx:Nat) (env:Env) (φ:bo) (w:World) (a:Act):Prop where
 fit:cz κ H φ w
 ids: ∀ c o,H c=some o->c<nx∧o.aD (· < nx)
 fR:oO φ env a.tmps
 all:fc (· < nx) env
 size:a.tmps.size=nt
 defers:a.defers=[]
theorem cN {cm:Env} {T:(Act->World->Prop)->Act->World->Prop} (hd:fE s s' env cm nt T) (h:At κ H nt s.next env φ w a)
  (hs: ∀ c o,s.get c=some o->o.aD (· < s.next)∧ ∃ o0,H c=some o0∧bW φ φ o0 o) (hp:s'.pre) 
  (hK: ∀ φ' w' a',(∀ i,i<s.next->φ' i=φ i)->At κ (after H s') nt s'.next cm φ' w' a'->K a' w'):T K a w:=by
 obtain ⟨R,W,sp,ids,nX⟩:=hd
 have tY:Fits s R φ w:=⟨λb o _ hg=>by
   obtain ⟨_,o0,h2,h3⟩:=hs b o hg
   exact (h.fit.holds b o0 h2).same rfl h3,λb c _ _ ki gN he=>by
   obtain ⟨x,hx⟩:=aZ ki
   obtain ⟨_,x0,Jc4,_⟩:=hs b x hx
   obtain ⟨y,hy⟩:=aZ gN
   obtain ⟨_,y0,L9,_⟩:=hs c y hy
   exact h.fit.inj b c x0 y0 Jc4 L9 he⟩
 have K5:l9 s R:=λb o _ hg=>by
  obtain ⟨h1,o0,h2,_⟩:=hs b o hg
  exact ⟨(h.ids b o0 h2).1,h1⟩
 refine nX φ w a K hp h.size h.fR tY K5 h.all λφ' w' a' hm fy YE he=> ?_
 obtain ⟨k1,k2,k3,k4⟩:=vg sp ids hp hm h.fit h.ids hs (λD D' hD he t u hu=>(he t u hu).mono hD) h.all
 exact hK φ' w' a' k1 ⟨k2,k3,he,k4,fy,by rw [YE];exact h.defers⟩
theorem Jj {h:Tr} {n r:Nat} {p:Prop} {o:List CL}:after H ⟨h,n,r,0,p,o⟩=H:=by
 funext c;unfold after;simp
theorem Jk {ops:Array Oper} {i:Nat} {r:Oper} {f:FuncId} {z99:Array Operand} {ats:Array TypeId} {avs:List AV} {nx:Nat} {Q:Exit->Act->World->Prop}
  (hn:gF P) (hf: ∃ fn,P.funcs[f]?=some fn∧fn.body.isSome=true) (hi:ops[i]?=some r) (hr:r.op= .call { callee:= .value (.func f),args:=z99,argTypes:=ats }) (hg:r.guard=none) (O0:nm env z99.toList=some avs)
  (h:At κ H nt nx env φ w a) {post:Ending->World->Prop} (hc:Calls P f (az φ avs).toArray w post)
  (hK: ∀ e w',post e w'-> ∃ (φ':bo) (H':Nat->Option ak) (nx':Nat) (v:AV) (cm:Env),e= .returned (Jb1 φ' v)∧nx<=nx'∧(∀ t u,env.look t=some u->Jb1 φ' u=Jb1 φ u)∧cz κ H' φ' w'∧(∀ c o,H' c=some o->c<nx'∧o.aD (· < nx'))∧v.aD (· < nx')∧jE nt r.dst v env=some cm∧
   ∀ a',At κ H' nt nx' cm φ' w' a'->K a' w'):wpOp P ops Q i K a w:=by
 unfold wpOp
 have hw:Region.wanted r (yielded ops a.tmps)=true:=by simp [Region.wanted,hg]
 simp only [hi,hw,if_true]
 refine .inl ?_
 have h2:=kA (φ:=φ) (ρ:=a.eval) O0 (λx _ u hu=>oP (λt _ u hu=>h.fR t u hu) hu)
 have h3:z99.map a.eval=(az φ avs).toArray:=by rw [<- h2];simp [<- Array.toList_map]
 have jJ:=jH hn hf (az φ avs).toArray w
 unfold Oper.wp
 have he:(execOp a.eval r).run P w= .ok (.enter f (az φ avs).toArray) w:=by
  obtain ⟨dst,op,ty,pos,aft,gd⟩:=r
  simp only at hr
  subst hr
  rw [<- jJ]
  simp only [execOp,resolve,h3]
  simp [Act.eval,Deferred.ofValue,invoke]
 rw [he,Oper.upon_enter]
 refine hc.mono λe w' hp=> ?_
 obtain ⟨φ',H',nx',v,cm,rfl,k1,k2,k3,k4,k5,k6,k7⟩:=hK e w' hp
 have nw: ∀ t u,env.look t=some u->a.tmps[t]?=some (Jb1 φ' u):=λt u hu=>by
  rw [h.fR t u hu,k2 t u hu]
 obtain ⟨q1,q2,q3⟩:=vP k6 (φ:=φ) h.size nw
 exact k7 _ ⟨k3,k4,q3,kE k6 k5 (λt u hu=>(h.all t u hu).mono λi hi=>Nat.lt_of_lt_of_le hi k1),q1,by rw [q2];exact h.defers⟩
end
section
variable {κ:dE}
variable {P:Program}
variable {c:Code} {H H':Nat->Option ak} {nx nt:Nat} {φ:bo} {w:World} {fR names wr:List Nat} {r:eO (Ex×Env)} {p:Prop} {l:List (Option ak)} {env:Env} {a:Act} {s:St} {ops:Array Oper}
def cA:Nat->Code->Code
 | 0,.seq a _=>a
 | k+1,.seq a b=> .seq a (cA k b)
 | _,c=>c
def aT:Nat->Code->Code
 | 0,.seq _ b=>b
 | k+1,.seq _ b=>aT k b
 | _,c=>c
def Un:Nat->Code->Bool
 | 0,.seq _ _=>true
 | k+1,.seq _ b=>Un k b
 | _,_=>false
theorem bX {sm:kP} (lN:gF P) (lV:P.follows .mixedOrders=true) (ij:eu P sm) {d nt:Nat}: ∀ (k:Nat) (c:Code) (F:Nat) (env cm:Env) (s s':St),Un k c=true->aP P (aW P sm d) nt F (cA k c) env s= .ok (.normal,cm) s'->
  fE s s' env cm nt (λK a w=> ∀ Q:Exit->Act->World->Prop,(∀ a w,K a w->(aT k c).wp P Q a w)->c.wp P Q a w)
 | 0,.seq a b,F,env,cm,s,s',_,h=>by
  refine ((bE lN (cj lV) (sound lN lV ij d) (nt:=nt) F).1 a env cm s s' .normal h).mono λK x w hT Q hQ=>wp_seq (hT _ λa w hK=>hQ a w hK)
 | k+1,.seq a b,0,env,cm,s,s',_,h=>by cases h
 | k+1,.seq a b,F+1,env,cm,s,s',hc,h=>by
  have h':aP P (aW P sm d) nt (F+1) (.seq a (cA k b)) env s= .ok (.normal,cm) s':=h
  simp only [aP] at h'
  split at h'
  ·rename_i cH s1 h1
   exact fE.trans ((bE lN (cj lV) (sound lN lV ij d) (nt:=nt) F).1 a env cH s s1 .normal h1) (bX lN lV ij k b F cH cm s1 s' hc h') λK x w hT Q hQ=>wp_seq (hT _ λa w h2=>h2 Q hQ)
  ·rename_i bq
   exact (bq _ _ h').elim
theorem iY {f:FuncId} {fn:Func} (hf:P.funcs[f]?=some fn) (hb:fn.body=some c) {args:List AV} (dP:args.length<=fn.ntmps) (bx:cz κ H φ w) (bn: ∀ c o,H c=some o->c<nx∧o.aD (· < nx)) (et:aR (· < nx) args)
  {post:Ending->World->Prop} (Wb: ∀ a,At κ H fn.ntmps nx (eG args 0) φ w a->c.wp P (λx a' w'=>(x= .normal∨x= .ret)∧ ∃ (H':Nat->Option ak) (nx':Nat) (cm:Env) (φ':bo) (s s':St) (vs:List AV) (v:AV),At κ H' fn.ntmps nx' cm φ' w' a'∧
   (∀ c o,s.get c=some o-> ∃ o0,H' c=some o0∧bW φ' φ' o0 o)∧dW P cm fn.results.toList s= .ok vs s'∧s'.pre∧(vs=[v]∨(vs.length≠1∧v= .eT vs))∧post (.returned (Jb1 φ' v)) w') a w):Calls P f (az φ args).toArray w post:=by
 refine calls_of_wp hf hb ?_
 have LO:((az φ args).toArray++Array.replicate (fn.ntmps-(az φ args).toArray.size) undef).size=fn.ntmps:=by
  simp [bc];omega
 have rN:oO φ (eG args 0) ((az φ args).toArray++Array.replicate (fn.ntmps-(az φ args).toArray.size) undef):=by
  intro t u hu
  rw [jL,if_pos (Nat.zero_le _),Nat.sub_zero] at hu
  have dA:=(List.getElem?_eq_some_iff.1 hu).1
  rw [Array.getElem?_append_left (by simpa [bc] using dA)]
  simp [eQ,hu]
 have Pe:fc (· < nx) (eG args 0):=λt u hu=>by
  rw [jL,if_pos (Nat.zero_le _)] at hu
  exact jf et hu
 refine wp_mono (Wb ⟨(az φ args).toArray++Array.replicate (fn.ntmps-(az φ args).toArray.size) undef,[]⟩ ⟨bx,bn,rN,Pe,LO,rfl⟩) ?_
 rintro x a' w' ⟨hx,H',nx',cm,φ',s,s',vs,v,bf,hs,hr,hp,P8,VL⟩
 obtain ⟨R2,hq,TQ,Le⟩:=gq _ _ _ _ hr
 have tY:Fits s R2 φ' w':=⟨λb o _ hg=>by
   obtain ⟨o0,h2,h3⟩:=hs b o hg
   exact (bf.fit.holds b o0 h2).same rfl h3,λb c _ _ ki gN he=>by
   obtain ⟨x,hx⟩:=aZ ki
   obtain ⟨x0,Jc4,_⟩:=hs b x hx
   obtain ⟨y,hy⟩:=aZ gN
   obtain ⟨y0,L9,_⟩:=hs c y hy
   exact bf.fit.inj b c x0 y0 Jc4 L9 he⟩
 have CE:=Le φ' w' a'.tmps hp tY bf.fR
 have jJ:(results fn a'.tmps).run P w'= .ok (Jb1 φ' v) w':=by
  rw [sF]
  simp only [Sem.run_bind,Array.mapM_eq_mapM_toList]
  rcases P8 with rfl | ⟨bq,rfl⟩
  ·simp [CE,az]
  ·simp [CE,bc,bq,Jb1]
 have:bodyPost P fn post .normal a' w':=⟨bf.defers,Jb1 φ' v,jJ,VL⟩
 rcases hx with rfl | rfl
 ·exact this
 ·exact this
def b6 (fR names:List Nat) (r:eO (Ex×Env)):Option (Ex×List (Option AV)×Prop×Nat×List Nat×List (Option ak)):=match r with
 | .ok (x,env) s=>some (x,fR.map env.look,s.pre,s.next,(List.range 128).filter s.wr.testBit,names.map s.get)
 | .fail _=>none
theorem aE {x:Ex} {vs:List (Option AV)} (h:b6 fR names r=some (x,vs,p,nx,wr,l)):
  ∃ env s,r= .ok (x,env) s∧fR.map env.look=vs∧s.pre=p∧s.next=nx∧(∀ c,c<128->(s.wr.testBit c=true↔c∈wr))∧names.map s.get=l:=by
 unfold b6 at h
 split at h
 ·rename_i x' env s
  simp only [Option.some.injEq,Prod.mk.injEq] at h
  obtain ⟨rfl,rfl,rfl,rfl,rfl,rfl⟩:=h
  exact ⟨env,s,rfl,rfl,rfl,rfl,λc hc=>by simp [hc],rfl⟩
 ·cases h
theorem ai {l:List (Option AV)} (h:fR.map env.look=l) (i:Nat) {t:Nat} {v:Option AV} (hc:fR[i]?=some t) (ho:l[i]?=some v):env.look t=v:=by
 subst h
 rw [List.getElem?_map,hc] at ho
 simpa using ho
theorem gh: ∀ {env:Env} {t:Nat} {u:AV},env.look t=some u->(t,u)∈env
 | (x,v)::e,t,u,h=>by
  unfold Env.look at h
  split at h
  ·rename_i hx
   have:x=t:=Nat.eq_of_beq_eq_true hx
   cases h;subst this;simp
  ·have:=gh h
   simp [this]
theorem At.Jb4 {nx':Nat} {E:Env} {φ':bo} (h:At κ H nt nx env φ w a) (bx:cz κ H' φ' w) (bn: ∀ c o,H' c=some o->c<nx'∧o.aD (· < nx'))
  (he: ∀ p∈E,∃ v,env.look p.1=some v∧Jb1 φ v=Jb1 φ' p.2∧p.2.aD (· < nx')):At κ H' nt nx' E φ' w a:=
 ⟨bx,bn,λt u hu=>by
  obtain ⟨v,h1,h2,_⟩:=he _ (gh hu)
  rw [h.fR t v h1,h2],λt u hu=>by
  obtain ⟨_,_,_,h3⟩:=he _ (gh hu)
  exact h3,h.size,h.defers⟩
theorem cz.bB (h:cz κ (after H s) φ w) (hH: ∀ c o,H' c=some o->after H s c=some o):cz κ H' φ w:=
 ⟨λc o hc=>h.holds c o (hH c o hc),λb c x y hb hc he=>h.inj b c x y (hH b x hb) (hH c y hc) he,λc o hc=>h.base c o (hH c o hc),h.old,h.size,h.env⟩
def iD (P:Program) (uf:List ResultVar) (names:List Nat) (r:eO (Ex×Env)):Option (List AV×Prop×Nat×List Nat×List (Option ak)):=match r with
 | .ok (.exit _,_) _=>none
 | .ok (_,env) s=>match dW P env uf s with
  | .ok vs s'=>some (vs,s'.pre,s.next,(List.range 128).filter s.wr.testBit,names.map s.get)
  | .fail _=>none
 | .fail _=>none
theorem iZ {uf:List ResultVar} {vs:List AV} (h:iD P uf names r=some (vs,p,nx,wr,l)):
  ∃ x env s s',(x= .normal∨x= .ret)∧r= .ok (x,env) s∧dW P env uf s= .ok vs s'∧s'.pre=p∧(s'.pre->s.pre)∧s.next=nx∧(∀ c,c<128->(s.wr.testBit c=true↔c∈wr))∧names.map s.get=l∧(∀ c,s'.get c=s.get c):=by
 unfold iD at h
 split at h
 ·cases h
 ·rename_i x env s hx
  split at h
  ·rename_i vs' s' hr
   simp only [Option.some.injEq,Prod.mk.injEq] at h
   obtain ⟨rfl,rfl,rfl,rfl,rfl⟩:=h
   obtain ⟨_,hq,_,_⟩:=gq _ _ _ _ hr
   refine ⟨x,env,s,s',?_,rfl,hr,rfl,hq.pre,rfl,λc hc=>by simp [hc],rfl,hq.get⟩
   cases x with
   | normal=>exact .inl rfl
   | ret=>exact .inr rfl
   | exit i=>exact (hx i rfl).elim
  ·cases h
 ·cases h
theorem wq {call:FuncId->List AV->St->eO AV} (hn:gF P) (hc:iv P call) {r:Oper} {i:Nat} {cH:Env} {s1:St} {v:AV} (hi:ops[i]?=some r) (hv:nR P call ops r env s= .ok v s1) (cY:jE nt r.dst v env=some cH):
  fE s s1 env cH nt (λK a w=> ∀ Q:Exit->Act->World->Prop,wpOp P ops Q i K a w):=by
 obtain ⟨R,W,h1,h2,h3⟩:=pY hn hc hv
 refine ⟨R,W,h1,λD hp hD cF hR=> ?_,λφ w a K hp fy he hf ho cF hK Q=> ?_⟩
 ·have:=h2 D hp hD (λt _ u hu=>cF t u hu) hR
  exact ⟨kE cY this.1 cF,this.2⟩
 ·refine h3 φ w a i K Q hi hp hf ho (λt _ u hu=>cF t u hu) (λt _ u hu=>he t u hu) λφ' w' hm=> ?_
  have nw: ∀ t u,env.look t=some u->a.tmps[t]?=some (Jb1 φ' u):=λt u hu=>by
   rw [he t u hu,dD (D:=(· < s.next)) (λj hj=>hm.eH j (by omega)) (cF t u hu)]
  obtain ⟨q1,q2,q3⟩:=vP cY (φ:=φ) fy nw
  exact hK φ' w' _ hm q1 q2 q3
theorem vh {id:Nat} {Q:Exit->Act->World->Prop} (hc:c= .region id ops false) (h:wpOps P ops Q (List.range ops.size) a w):c.wp P Q a w:=by
 subst hc;exact wp_region h
end
section
variable {P:Program} {κ:dE}
mutual
theorem BA {D:Nat->Prop} (h: ∀ i,D i): ∀ v:AV,v.aD D
 | .ptr b _=>h b
 | .slice b _ _ _=>h b
 | .aF b _ _ _ _ _=>h b
 | .aL b _ _ _=>h b
 | .ae b _ _ _ _ _=>h b
 | .ed b=>h b
 | .func _ a b=>⟨m7 h a,m7 h b⟩
 | .iface _ v=>by unfold AV.aD;exact BA h v
 | .agg l=>by unfold AV.aD;exact m7 h l
 | .eT l=>by unfold AV.aD;exact m7 h l
 | .int _ _=>trivial
 | .aa _ _=>trivial
 | .bool _=>trivial
 | .eS _=>trivial
 | .oG=>trivial
 | .au=>trivial
 | .uk=>trivial
 | .kx=>trivial
 | .aX=>trivial
 | .cQ _=>trivial
theorem m7 {D:Nat->Prop} (h: ∀ i,D i): ∀ l:List AV,aR D l
 | []=>trivial
 | v::l=>⟨BA h v,m7 h l⟩
end
theorem Di {D:Nat->Prop} (h: ∀ i,D i) (o:ak):o.aD D:=by
 cases o with
 | row s l t q=>exact m7 h l
 | map s l=>exact λx _=>BA h x.2
theorem E2 {f:FuncId} {p:Part} (hp:bP P f p) {σ:Nat->Nat} {k':Nat} (hk0:0<k') (hk:p.k<=k') (hσσ: ∀ i,σ (σ i)=i) (XG: ∀ i,i<p.nx->σ i=i) (WO: ∀ i,p.nx<=i->i<p.nx+k'->p.nx<=σ i∧σ i<p.nx+k') (Ja9: ∀ i,p.nx+k'<=i->σ i=i)
  (kq: ∀ x∈p.ins,x.1<p.nx):bP P f { p with v:=dz σ p.v,outs:=iB σ p.outs,k:=k' }:=by
 refine ⟨hp.fn,λhq D ha hi hn=> ?_,λhq n φ w hn et hi lY=> ?_⟩
 ·have up: ∀ i,D i->D (σ i):=λi h=>by
   by_cases h1:i<p.nx
   ·rw [XG i h1];exact h
   by_cases h2:i<p.nx+k'
   ·have:=WO i (by omega) h2
    exact hn _ this.1 this.2
   ·rw [Ja9 i (by omega)];exact h
  have:=hp.ids hq (λi=>D (σ i)) (ha.mono up) (λx hx=>(hi x hx).mono up) (λi h1 h2=>up i (hn i h1 (by show i<p.nx+k';omega)))
  refine ⟨(lC D σ _).2 this.1,λx hx=> ?_⟩
  obtain ⟨y,hy,rfl⟩:=List.mem_map.1 hx
  exact jk.2 (this.2 y hy)
 ·have FL:n=p.nx:=by
   rcases hn with ⟨h,_⟩ | h
   ·have h:k'=0:=h;omega
   ·exact h
  subst FL
  refine (hp.nX hq p.nx φ w (.inr rfl) et hi lY).mono ?_
  rintro e w' ⟨φ1,rfl,hA,hH,hI,hS,hF,fy⟩
  let φ2:bo:=λi=>if p.nx<=i∧i<p.nx+k' then φ1 (σ i) else φ i
  have at_: ∀ i,φ2 (σ i)=φ1 i:=λi=>by
   show (if p.nx<=σ i∧σ i<p.nx+k' then φ1 (σ (σ i)) else φ (σ i))=φ1 i
   by_cases h1:i<p.nx
   ·rw [XG i h1,if_neg (by omega),hA i (by omega)]
   by_cases h2:i<p.nx+k'
   ·rw [if_pos (WO i (by omega) h2),hσσ]
   ·rw [Ja9 i (by omega),if_neg (by omega),hA i (by omega)]
  have inl: ∀ y∈p.outs,(∃ z∈p.ins,z.1=y.1)->σ y.1=y.1:=λy hy ⟨z,hz,he⟩=>XG _ (by rw [<- he];exact kq z hz)
  have Jao: ∀ y∈p.outs,(∃ z∈p.ins,z.1=σ y.1)->σ y.1=y.1:=λy hy ⟨z,hz,he⟩=>by
   have h1:=kq z hz
   rw [he] at h1
   have h2:=XG _ h1
   rw [hσσ] at h2
   exact h2.symm
  refine ⟨φ2,?_,λi hi=>if_neg hi,λx hx=> ?_,λx hx y hy he=> ?_,λx hx=> ?_,λr hr bq=> ?_,fy⟩
  ·show _=Ending.returned (Jb1 φ2 (dz σ p.v))
   rw [kW]
   exact congrArg (λφ=>Ending.returned (Jb1 φ p.v)) (funext λi=>(at_ i).symm)
  ·obtain ⟨y,hy,rfl⟩:=List.mem_map.1 hx
   have e:(λi=>φ2 (σ i))=φ1:=funext at_
   refine (hH y hy).same (at_ y.1) ?_
   rw [<- e];exact mv φ2 σ y.2
  ·obtain ⟨a,ha,rfl⟩:=List.mem_map.1 hx
   obtain ⟨b,hb,rfl⟩:=List.mem_map.1 hy
   have he:(φ2 (σ a.1)).dp=(φ2 (σ b.1)).dp:=he
   rw [at_,at_] at he
   exact congrArg σ (hI a ha b hb he)
  ·obtain ⟨a,ha,rfl⟩:=List.mem_map.1 hx
   show _<=(φ2 (σ a.1)).dp∨_
   rw [at_]
   rcases hS a ha with h | ⟨y,hy,hz,h⟩
   ·exact .inl h
   ·have e:=inl y hy hz
    exact .inr ⟨_,List.mem_map.2 ⟨y,hy,rfl⟩,by show ∃ z∈p.ins,z.1=σ y.1;rw [e];exact hz,by show _=(φ (σ y.1)).dp;rw [e];exact h⟩
  ·refine hF r hr λy hy hz=> ?_
   have e:=inl y hy hz
   have:=bq _ (List.mem_map.2 ⟨y,hy,rfl⟩) (by show ∃ z∈p.ins,z.1=σ y.1;rw [e];exact hz)
   rw [show ((σ y.1,dm σ y.2):Nat×ak).1=y.1 from e] at this
   exact this
theorem E3 {f:FuncId} {p:Part} (hp:bP P f p) {outs':List (Nat×ak)} (kr: ∀ y∈outs',y∈p.outs) (hold: ∀ x∈p.outs,(∃ z∈p.ins,z.1=x.1)-> ∃ y∈outs',y.1=x.1):bP P f { p with outs:=outs' }:=by
 refine ⟨hp.fn,λhq D ha hi hn=>⟨(hp.ids hq D ha hi hn).1,λx hx=>(hp.ids hq D ha hi hn).2 x (kr x hx)⟩,λhq n φ w hn et hi lY=> ?_⟩
 refine (hp.nX hq n φ w hn et hi lY).mono ?_
 rintro e w' ⟨φ1,rfl,hA,hH,hI,hS,hF,fy⟩
 refine ⟨φ1,rfl,hA,λx hx=>hH x (kr x hx),λx hx y hy=>hI x (kr x hx) y (kr y hy),λx hx=> ?_,λr hr bq=>hF r hr λy hy hz=> ?_,fy⟩
 ·rcases hS x (kr x hx) with h | ⟨y,hy,⟨z,hz,he⟩,h⟩
  ·exact .inl h
  ·obtain ⟨y',l0,e⟩:=hold y hy ⟨z,hz,he⟩
   exact .inr ⟨y',l0,⟨z,hz,by rw [he,e]⟩,by rw [e];exact h⟩
 ·obtain ⟨y',l0,e⟩:=hold y hy hz
  have:=bq y' l0 (by rw [e];exact hz)
  rw [e] at this
  exact this
theorem E4 {f:FuncId} {p:Part} (hp:bP P f p) (hk:0<p.k) {ρ:Nat->Nat} {d nx':Nat} (eP:nx'=p.nx+d) (TV: ∀ i,p.nx<=i->ρ i=i+d) (dA: ∀ i,i<p.nx->ρ i<nx') (lY: ∀ x∈p.ins,∀ y∈p.ins,ρ x.1=ρ y.1->x.1=y.1):
  bP P f { args:=gI ρ p.args,ins:=iB ρ p.ins,v:=dz ρ p.v,outs:=iB ρ p.outs,nx:=nx',k:=p.k,q:=p.q }:=by
 refine ⟨hp.fn,λhq D ha hi hn=> ?_,λhq n φ w hn et kq LD=> ?_⟩
 ·have:=hp.ids hq (λi=>D (ρ i)) ((gb D ρ _).1 ha) (λx hx=>jk.1 (hi (ρ x.1,dm ρ x.2) (List.mem_map.2 ⟨x,hx,rfl⟩))) (λi h1 h2=>by
   rw [TV i h1];exact hn _ (by show nx'<=i+d;omega) (by show i+d<nx'+p.k;omega))
  refine ⟨(lC D ρ _).2 this.1,λx hx=> ?_⟩
  obtain ⟨y,hy,rfl⟩:=List.mem_map.1 hx
  exact jk.2 (this.2 y hy)
 ·have FL:n=nx':=by
   rcases hn with ⟨h,_⟩ | h
   ·have h:p.k=0:=h;omega
   ·exact h
  have lower: ∀ i,ρ i<n->i<p.nx:=λi h=>by
   by_cases h1:i<p.nx
   ·exact h1
   ·rw [TV i (by omega)] at h;omega
  have h0:=hp.nX hq p.nx (λi=>φ (ρ i)) w (.inr rfl) (((gb (· < n) ρ _).1 et).mono lower) (λx hx=>by
    obtain ⟨q1,q2,q3⟩:=kq (ρ x.1,dm ρ x.2) (List.mem_map.2 ⟨x,hx,rfl⟩)
    exact ⟨q1.same rfl (mv φ ρ x.2).symm,lower _ q2,(jk.1 q3).mono lower⟩) (λx hx y hy he=>lY x hx y hy (LD (ρ x.1,dm ρ x.2) (List.mem_map.2 ⟨x,hx,rfl⟩) (ρ y.1,dm ρ y.2) (List.mem_map.2 ⟨y,hy,rfl⟩) he))
  have ea:az φ (gI ρ p.args)=az (λi=>φ (ρ i)) p.args:=ic φ ρ p.args
  show Calls P f (az φ (gI ρ p.args)).toArray w _
  rw [ea]
  refine h0.mono ?_
  rintro e w' ⟨φ1,rfl,hA,hH,hI,hS,hF,fy⟩
  let φ2:bo:=λi=>if nx'<=i∧i<nx'+p.k then φ1 (i-d) else φ i
  have at_: ∀ i,φ2 (ρ i)=φ1 i:=λi=>by
   show (if nx'<=ρ i∧ρ i<nx'+p.k then φ1 (ρ i-d) else φ (ρ i))=φ1 i
   by_cases h1:i<p.nx
   ·have:=dA i h1
    rw [if_neg (by omega),hA i (by omega)]
   ·rw [TV i (by omega)]
    by_cases h2:i<p.nx+p.k
    ·rw [if_pos (by omega)];congr 1;omega
    ·rw [if_neg (by omega),hA i (by omega),TV i (by omega)]
  refine ⟨φ2,?_,λi hi=> ?_,λx hx=> ?_,λx hx y hy he=> ?_,λx hx=> ?_,λr hr bq=> ?_,fy⟩
  ·show _=Ending.returned (Jb1 φ2 (dz ρ p.v))
   rw [kW]
   exact congrArg (λφ=>Ending.returned (Jb1 φ p.v)) (funext λi=>(at_ i).symm)
  ·show (if nx'<=i∧i<nx'+p.k then φ1 (i-d) else φ i)=φ i
   have hi: ¬ (n<=i∧i<n+p.k):=hi
   rw [FL] at hi
   rw [if_neg hi]
  ·obtain ⟨y,hy,rfl⟩:=List.mem_map.1 hx
   have e:(λi=>φ2 (ρ i))=φ1:=funext at_
   refine (hH y hy).same (at_ y.1) ?_
   rw [<- e];exact mv φ2 ρ y.2
  ·obtain ⟨a,ha,rfl⟩:=List.mem_map.1 hx
   obtain ⟨b,hb,rfl⟩:=List.mem_map.1 hy
   have he:(φ2 (ρ a.1)).dp=(φ2 (ρ b.1)).dp:=he
   rw [at_,at_] at he
   exact congrArg ρ (hI a ha b hb he)
  ·obtain ⟨a,ha,rfl⟩:=List.mem_map.1 hx
   show _<=(φ2 (ρ a.1)).dp∨_
   rw [at_]
   rcases hS a ha with h | ⟨y,hy,⟨z,hz,he⟩,h⟩
   ·exact .inl h
   ·exact .inr ⟨_,List.mem_map.2 ⟨y,hy,rfl⟩,⟨_,List.mem_map.2 ⟨z,hz,rfl⟩,congrArg ρ he⟩,h⟩
  ·refine hF r hr λy hy ⟨z,hz,he⟩=> ?_
   exact bq _ (List.mem_map.2 ⟨y,hy,rfl⟩) ⟨_,List.mem_map.2 ⟨z,hz,rfl⟩,congrArg ρ he⟩
theorem rZ {sm:kP} (lN:gF P) (lV:P.follows .mixedOrders=true) (ij:eu P sm) {d f:Nat} {args:List AV} {s s':St} {v:AV} (cW:aW P sm d f args s= .ok v s') (aQ:s'.pre)
  {H:Nat->Option ak} {φ:bo} {w:World} (bx:cz κ H φ w) (ρ:Nat->Nat) (hs: ∀ c o,s.get c=some o->c<s.next∧o.aD (· < s.next)∧ ∃ o0,H (ρ c)=some o0∧bW φ (λi=>φ (ρ i)) o0 o)
  (lY: ∀ b c x y,s.get b=some x->s.get c=some y->ρ b=ρ c->b=c) (et:aR (· < s.next) args):
  Calls P f (az (λi=>φ (ρ i)) args).toArray w (λe w'=> ∃ φ1:bo,e= .returned (Jb1 φ1 v)∧(∀ i,¬ (s.next<=i∧i<s'.next)->φ1 i=φ (ρ i))∧v.aD (· < s'.next)∧(∀ c o,s'.get c=some o->o.aD (· < s'.next))∧
   ∀ (H':Nat->Option ak) (φ':bo) (src:Nat->Nat ⊕ Nat),(∀ c o',H' c=some o'->match src c with
     | .inl d=>φ' c=φ d∧(∀ b x,s.get b=some x->ρ b≠d)∧ ∃ o,H d=some o∧bW φ φ' o o'
     | .inr d=>φ' c=φ1 d∧ ∃ o,s'.get d=some o∧bW φ1 φ' o o')->
    (∀ b c x y,H' b=some x->H' c=some y->src b=src c->b=c)->cz κ H' φ' w'):=by
 obtain ⟨_,R,W,sp,ids,nX⟩:=sound lN lV ij d f args s v s' cW
 have hF:Fits s (λ_=>True) (λi=>φ (ρ i)) w:=⟨λb o _ hg=>by
   obtain ⟨_,_,o0,h3,h4⟩:=hs b o hg
   exact (bx.holds _ o0 h3).same rfl h4,λb c _ _ hb hc he=>by
   obtain ⟨x,hx⟩:=aZ hb
   obtain ⟨y,hy⟩:=aZ hc
   obtain ⟨_,_,o0,h3,_⟩:=hs b x hx
   obtain ⟨_,_,o1,h4,_⟩:=hs c y hy
   exact lY b c x y hx hy (bx.inj _ _ o0 o1 h3 h4 he)⟩
 have hO:l9 s (λ_=>True):=λb o _ hg=>⟨(hs b o hg).1,(hs b o hg).2.1⟩
 refine (nX (λi=>φ (ρ i)) w aQ (hF.mono λ_ _=>trivial) (hO.mono λ_ _=>trivial) et).mono ?_
 rintro e w' ⟨φ1,rfl,hm⟩
 have nj: ∀ i,i<s.next->i<s'.next:=λi hi=>Nat.lt_of_lt_of_le hi sp.next
 have Qf:=hF.step sp hm hO (λ_ _=>trivial)
 have Zp:=hO.step sp ids aQ (et.mono nj) (λ_ _=>trivial)
 have hv:=(ids (· < s'.next) aQ (λi _ hi=>hi) (et.mono nj) (λb o _ hg=>((hs b o hg).2.1).mono nj)).1
 refine ⟨φ1,rfl,hm.eH,hv,λc o hc=>(Zp c o trivial hc).2,λH' φ' src FV SC=> ?_⟩
 have qL: ∀ d o,H d=some o->(∀ b x,s.get b=some x->ρ b≠d)->o.aD (λ_=>True)->cf φ d o w'∧(φ d).dp<w.heap.size:=by
  intro d o hd bq cC
  have h1:=bx.holds d o hd
  refine ⟨h1.bB (D:=λ_=>True) (λ_ _=>rfl) cC rfl (hm.frame _ h1.lt λc hc hg hb=> ?_),h1.lt⟩
  obtain ⟨x,hx⟩:=aZ hg
  obtain ⟨_,_,o0,h3,_⟩:=hs c x hx
  exact bq c x hx (bx.inj _ _ o0 o h3 hd hb)
 have apart: ∀ d o e o',H d=some o->(∀ b x,s.get b=some x->ρ b≠d)->s'.get e=some o'->(φ d).dp≠(φ1 e).dp:=by
  intro d o e o' hd bq he hb
  by_cases hw:W e
  ·rcases hm.source e hw (by rw [he];simp) with h | ⟨c,hc,hg,h⟩
   ·have:=(bx.holds d o hd).lt;omega
   ·obtain ⟨x,hx⟩:=aZ hg
    obtain ⟨_,_,o0,h3,_⟩:=hs c x hx
    exact bq c x hx (bx.inj _ _ o0 o h3 hd (by rw [<- h,<- hb]))
  ·rw [sp.same e hw] at he
   obtain ⟨h1,_,o0,h3,_⟩:=hs e o' he
   rw [hm.eH e (by omega)] at hb
   exact bq e o' he (bx.inj _ _ o0 o h3 hd hb.symm)
 have low: ∀ e o',s'.get e=some o'->κ.mark<=(φ1 e).dp:=by
  intro e o' he
  by_cases hw:W e
  ·rcases hm.source e hw (by rw [he];simp) with h | ⟨c,hc,hg,h⟩
   ·exact Nat.le_trans bx.size h
   ·obtain ⟨x,hx⟩:=aZ hg
    obtain ⟨_,_,o0,h3,_⟩:=hs c x hx
    rw [h];exact bx.base _ o0 h3
  ·rw [sp.same e hw] at he
   obtain ⟨h1,_,o0,h3,_⟩:=hs e o' he
   rw [hm.eH e (by omega)];exact bx.base _ o0 h3
 refine ⟨λc o' hc=> ?_,λb c x y hb hc he=> ?_,λc o' hc=> ?_,λr hr=> ?_,Nat.le_trans bx.size hm.size,hm.kept.1.trans bx.env.1,hm.kept.2.trans bx.env.2⟩
 ·have h:=FV c o' hc
  split at h
  ·obtain ⟨h1,h2,o,h3,h4⟩:=h
   exact (qL _ o h3 h2 (Di (λ_=>trivial) o)).1.same h1 h4
  ·obtain ⟨h1,o,h3,h4⟩:=h
   exact (Qf.holds _ o trivial h3).same h1 h4
 ·have h1:=FV b x hb
  have h2:=FV c y hc
  have key:src b=src c:=by
   revert h1 h2
   generalize src b=sb
   generalize src c=sc
   intro h1 h2
   cases sb with
   | inl d=>
    obtain ⟨a1,a2,o,a3,_⟩:=h1
    cases sc with
    | inl d'=>
     obtain ⟨b1,b2,o',b3,_⟩:=h2
     rw [a1,b1] at he
     rw [bx.inj _ _ o o' a3 b3 he]
    | inr d'=>
     obtain ⟨b1,o',b3,_⟩:=h2
     rw [a1,b1] at he
     exact absurd he (apart _ o _ o' a3 a2 b3)
   | inr d=>
    obtain ⟨a1,o,a3,_⟩:=h1
    cases sc with
    | inl d'=>
     obtain ⟨b1,b2,o',b3,_⟩:=h2
     rw [a1,b1] at he
     exact absurd he.symm (apart _ o' _ o b3 b2 a3)
    | inr d'=>
     obtain ⟨b1,o',b3,_⟩:=h2
     rw [a1,b1] at he
     rw [Qf.inj d d' trivial trivial (by rw [a3];simp) (by rw [b3];simp) he]
  exact SC b c x y hb hc key
 ·have h:=FV c o' hc
  split at h
  ·obtain ⟨h1,h2,o,h3,h4⟩:=h
   rw [h1];exact bx.base _ o h3
  ·obtain ⟨h1,o,h3,h4⟩:=h
   rw [h1];exact low _ o h3
 ·rw [hm.frame r (Nat.lt_of_lt_of_le hr bx.size) λc hc hg hb=> ?_]
  ·exact bx.old r hr
  ·obtain ⟨x,hx⟩:=aZ hg
   obtain ⟨_,_,o0,h3,_⟩:=hs c x hx
   have:=bx.base _ o0 h3
   omega
end
end Ev
end Go.Proofs.YtpkfimijnkkbjaaGreat
namespace Go.Proofs.YtpkfimijnkkbjaaGreat
namespace Qk
open Ev Ct
open Go.Proofs.Tryz (prog)
section
variable {P:cv} {f:FuncId} {pr:Program} {row row':ak} {subs subs' aN:List (Nat×ak)} {aA z:Int} {inv marks':Nat->AV} {c c' j:Nat->Int} {M M':Mm} {k a t u ph:Nat} {σ:Nat->Nat} {o:Op} {take:Bool} {s:Hs}
structure Jl (P:cv) (t:Nat) (af:Nat->AV) (o:Op) (done:Bool) (row':ak) (marks':Nat->AV) (subs' aN:List (Nat×ak)):Prop where
 mark:marks'=af∨ ∃ u,u<P.n∧marks'=Jb2 af u eV
 go:done=false-> ∃ a a2 b j,row'=bp t a b j o∧(o.st= .mark->o.i≠0->b=48∨b=96)∧((∀ s f,o.st≠ .sub s f)∨ ∃ s f,o.st= .sub s f∧Rj P a a2 (subs'++aN) s∧(a=64∨a=100)∧(a2=80∨a2=100)∧a≠a2)
 fin:done=true->aN=[]∧ ∃ pc fo m f l w y wh key,row'=gR t o pc fo m f l w y wh .aX key∧(key= .au∨ ∃ b,key= .slice b 0 1 1)
 aN:aN=[]∨ ∃ y,aN=[(100,y)]
theorem zF {ay:Nat->AV} {af:Nat->AV} {v:Bool} {news':List (Nat×ak)}
  (hp:bP pr f (jP P row row' subs subs' ay aA inv af marks' c c' M M' v k aN)) (hs: ∀ x∈subs,x.1<96) (hn: ∀ x∈aN,96<=x.1) (kr: ∀ x∈news',x∈aN):bP pr f (jP P row row' subs subs' ay aA inv af marks' c c' M M' v k news'):=by
 refine E3 (outs':=(32,row')::(subs'++([(12,iq P ay),(1,wW aA inv marks'),(2,mR P c'),(3,Jb5 (aG P M'))]++news'))) hp (λy hy=> ?_) (λx hx ⟨z,hz,he⟩=> ?_)
 ·simp only [jP,List.mem_cons,List.mem_append] at hy ⊢
  rcases hy with h | h | h | h
  ·exact .inl h
  ·exact .inr (.inl h)
  ·exact .inr (.inr (.inl h))
  ·exact .inr (.inr (.inr (kr y h)))
 ·have Qm:z.1<96:=by
   simp only [jP,List.mem_cons,List.mem_append,List.not_mem_nil,or_false] at hz
   rcases hz with h | h | h | h | h | h
   ·subst h;show 32<96;omega
   ·exact hs z h
   ·subst h;show 12<96;omega
   ·subst h;show 1<96;omega
   ·subst h;show 2<96;omega
   ·subst h;show 3<96;omega
  simp only [jP,List.mem_cons,List.mem_append] at hx
  rcases hx with h | h | h | h
  ·exact ⟨x,by rw [h];exact List.mem_cons_self ..,rfl⟩
  ·exact ⟨x,List.mem_cons_of_mem _ (List.mem_append.2 (.inl h)),rfl⟩
  ·exact ⟨x,List.mem_cons_of_mem _ (List.mem_append.2 (.inr (List.mem_append.2 (.inl (by simpa using h))))),rfl⟩
  ·have:=hn x h;omega
def sw (a i:Nat):Nat:=if i=a then 100 else if i=100 then a else i
theorem Uo (a i:Nat):sw a (sw a i)=i:=by
 unfold sw
 by_cases h1:i=a
 ·rw [if_pos h1]
  by_cases h2:(100:Nat)=a
  ·rw [if_pos h2];omega
  ·rw [if_neg h2,if_pos rfl];omega
 ·rw [if_neg h1]
  by_cases h2:i=100
  ·rw [if_pos h2,if_pos rfl];omega
  ·rw [if_neg h2,if_neg h1,if_neg h2]
theorem jC {i:Nat} (ha:96<=a) (h:i<96):sw a i=i:=by unfold sw;rw [if_neg (by omega),if_neg (by omega)]
theorem N9 (a:Nat):sw a a=100:=if_pos rfl
theorem wu (i:Nat):sw 100 i=i:=by unfold sw;split<;>omega
theorem sZ (js:σ 12=12) {b:Nat}:dm σ (bp t a b j o)=bp t (σ a) (σ b) j o:=by
 obtain ⟨take,v,tries,ref,i,ag,err,val,os⟩:=o
 cases os with
 | mark=>
  unfold bp
  simp only [gR,dm,gI,dz,js]
  split<;>rfl
 | sub s f=>
  cases s with
  | fn x=>cases x<;>simp only [bp,gR,dm,gI,dz,js]
  | hp take u ph x=>cases take<;>simp only [bp,gR,dm,gI,dz,js]
 | _=>simp only [bp,gR,dm,gI,dz,js]
theorem BB:dm σ (aY P a j take u ph s)=aY P (σ a) j take u ph s:=by
 cases s with
 | sub f bM=>cases f<;>simp only [aY,rY,dm,gI,dz]
 | _=>simp only [aY,rY,dm,gI,dz]
theorem wv {f:Fn}:dm σ (bk P j f)=bk P j f:=fS dY
theorem zG {f:Fn}:bk P j f≠bU z:=by
 cases f with
 | tl t=>cases t<;>simp [bk,fw,bU]
 | hd t=>cases t<;>simp [bk,ep,bU]
theorem Jm:aY P a j take u ph s≠bU z:=by
 cases s with
 | sub f bM=>cases f<;>simp [aY,rY,bU]
 | _=>simp [aY,rY,bU]
theorem zH {ay:Nat->AV} {af:Nat->AV} {v:Bool} 
  (hp:bP pr f (jP P row row' subs subs' ay aA inv af marks' c c' M M' v k aN)) (hs: ∀ x∈subs,x.1<96) (hk:k<=6) (ha:96<=a) (ha':a<102) (hq:(iq P ay).aD (λi=>i<96)) (hw:(wW aA inv marks').aD (λi=>sw a i=i)):
  bP pr f (jP P row (dm (sw a) row') subs (iB (sw a) subs') ay aA inv af marks' c c' M M' v 6 (iB (sw a) aN)):=by
 have h:=E2 hp (σ:=sw a) (k':=6) (by omega) hk (Uo a) (λi hi=>jC ha hi) (λi h1 h2=>by
   have h1:96<=i:=h1
   have h2:i<96+6:=h2
   show 96<=sw a i∧sw a i<96+6
   unfold sw
   split
   ·omega
   ·split<;>omega) (λi hi=>by
   have hi:96+6<=i:=hi
   unfold sw;rw [if_neg (by omega),if_neg (by omega)]) (λz hz=>by
   show z.1<96
   simp only [jP,List.mem_cons,List.mem_append,List.not_mem_nil,or_false] at hz
   rcases hz with h | h | h | h | h | h
   ·subst h;show 32<96;omega
   ·exact hs z h
   ·subst h;show 12<96;omega
   ·subst h;show 1<96;omega
   ·subst h;show 2<96;omega
   ·subst h;show 3<96;omega)
 have e:iB (sw a) (jP P row row' subs subs' ay aA inv af marks' c c' M M' v k aN).outs=(jP P row (dm (sw a) row') subs (iB (sw a) subs') ay aA inv af marks' c c' M M' v 6 (iB (sw a) aN)).outs:=by
  have e1:dm (sw a) (iq P ay)=iq P ay:=fS (hq.mono λi hi=>jC ha hi)
  have e2:dm (sw a) (wW aA inv marks')=wW aA inv marks':=fS hw
  have e3:dm (sw a) (mR P c')=mR P c':=fS (dK (jC ha (by omega)))
  have e4:dm (sw a) (Jb5 (aG P M'))=Jb5 (aG P M'):=fS gT
  simp only [jP,iB,List.map_cons,List.map_append,List.map_nil,e1,e2,e3,e4,jC ha (show 32<96 by omega),jC ha (show 12<96 by omega),jC ha (show 1<96 by omega),jC ha (show 2<96 by omega),jC ha (show 3<96 by omega)]
 rw [e] at h
 exact h
theorem Dk {ay:Nat->AV} {af:Nat->AV} (h:eA P t row o subs M ay aA inv af c) (hs: ∀ x∈subs,x.1<96) (hq:(iq P ay).aD (λi=>i<96)) (hw:(wW aA inv af).aD (· < 96)):
  ∃ c' row' subs' marks' aN,bP prog 231 (jP P row row' subs subs' ay aA inv af marks' c c' M (aj P M t o).1 (aj P M t o).2.2 6 aN)∧Jl P t af (aj P M t o).2.1 (aj P M t o).2.2 row' marks' subs' aN∧subs'.map (·.1)=subs.map (·.1):=by
 obtain ⟨c',row',subs',marks',k,aN,hp,ho,lN,hk,xH⟩:=h
 have AU:marks'=af∨ ∃ u,u<P.n∧marks'=Jb2 af u eV:=ho.mark.imp id λ⟨u,h1,h2,_⟩=>⟨u,h1,h2⟩
 have Wf:(wW aA inv marks').aD (λi=>i<96∨i=98):=by
  rcases AU with h | ⟨u,_,h⟩
  ·rw [h];exact hw.mono λi hi=> .inl hi
  ·rw [h];exact Bv (hw.mono λi hi=> .inl hi) (.inr rfl)
 have kr: ∀ x∈subs',x.1<96:=λx hx=>by
  have:x.1∈subs'.map (·.1):=List.mem_map.2 ⟨x,hx,rfl⟩
  rw [lN] at this
  obtain ⟨y,hy,e⟩:=List.mem_map.1 this
  rw [<- e];exact hs y hy
 have rid: ∀ o:ak,dm (sw 100) o=o:=λo=>fS (Di wu o)
 have WK: ∀ l:List (Nat×ak),iB (sw 100) l=l:=λl=>by
  unfold iB
  refine (List.map_congr_left λx _=> ?_).trans (List.map_id l)
  rw [wu,rid];rfl
 have none_:bP prog 231 (jP P row row' subs subs' ay aA inv af marks' c c' M (aj P M t o).1 (aj P M t o).2.2 6 []):=by
  have h1:=zF (news':=[]) hp hs xH (λx hx=>by cases hx)
  have h2:=zH (a:=100) h1 hs hk (by omega) (by omega) hq (Wf.mono λi _=>wu i)
  rw [rid,WK,WK] at h2
  exact h2
 have one: ∀ (a:Nat) (r:ak),(a,r)∈aN->96<=a->a<96+k->(∀ z,r≠bU z)->bP prog 231 (jP P row (dm (sw a) row') subs (iB (sw a) subs') ay aA inv af marks' c c' M (aj P M t o).1 (aj P M t o).2.2 6 [(100,dm (sw a) r)]):=by
  intro a r hr h1 h2 hz
  have O1:(wW aA inv marks').aD (λi=>sw a i=i):=by
   rcases ho.mark with h | ⟨u,_,h,_,cC⟩
   ·rw [h];exact hw.mono λi hi=>jC h1 hi
   ·have ea:a=100:=by
     rcases cC _ hr with ⟨_,z,e⟩ | e
     ·exact absurd e (hz z)
     ·exact e
    subst ea
    exact Wf.mono λi _=>wu i
  have q1:=zF (news':=[(a,r)]) hp hs xH (λx hx=>by simp only [List.mem_singleton] at hx;subst hx;exact hr)
  have q2:=zH (a:=a) q1 hs hk h1 (by omega) hq O1
  have e:iB (sw a) [(a,r)]=[(100,dm (sw a) r)]:=by
   show [(sw a a,dm (sw a) r)]=_
   rw [N9]
  rw [e] at q2
  exact q2
 cases hd:(aj P M t o).2.2 with
 | true=>
  rw [hd] at none_ ho
  exact ⟨c',row',subs',marks',[],none_,⟨AU,λh=>(by cases h),λ_=>⟨rfl,ho.fin rfl⟩,.inl rfl⟩,lN⟩
 | false=>
  rw [hd] at none_ ho one
  obtain ⟨a,a2,b,j,fI,hb,qJ⟩:=ho.go rfl
  have oE:(aj P M t o).2.1.st= .mark->(aj P M t o).2.1.i≠0->b=48∨b=96:=λh1 h2=>(hb h1 h2).imp id (·.1)
  rcases qJ with qJ | ⟨s,f,eF,Tq⟩
  ·exact ⟨c',row',subs',marks',[],none_,⟨AU,λ_=>⟨a,a2,b,j,fI,oE,.inl qJ⟩,λh=>(by cases h),.inl rfl⟩,lN⟩
  ·have SA: ∀ b',(aj P M t o).2.1.st= .mark->(aj P M t o).2.1.i≠0->b'=48∨b'=96:=λb' h=>by rw [eF] at h;cases h
   cases Tq with
   | old h=>
    refine ⟨c',row',subs',marks',[],none_,⟨AU,λ_=>⟨64,80,b,j,fI,oE,.inr ⟨s,f,eF,?_,.inl rfl,.inl rfl,by omega⟩⟩,λh=>(by cases h),.inl rfl⟩,lN⟩
    rw [List.append_nil];exact h
   | @inner a2 take u ph x bM j1 j2 h1 h2 nK hsub2 xh=>
    subst nK hsub2 fI
    have q:=one a2 _ xh h1 h2 (λz=>zG)
    have e1:iB (sw a2) [(64,aY P a2 j1 take u ph (.sub x bM))]=[(64,aY P 100 j1 take u ph (.sub x bM))]:=by
     show [(sw a2 64,dm (sw a2) _)]=_
     rw [BB,N9,jC h1 (by omega)]
    rw [wv,sZ (jC h1 (by omega)),e1,jC h1 (show 64<96 by omega)] at q
    refine ⟨c',_,_,marks',_,q,⟨AU,λ_=>⟨64,100,sw a2 b,j,rfl,SA _,.inr ⟨_,f,eF,?_,.inl rfl,.inr rfl,by omega⟩⟩,λh=>(by cases h),.inr ⟨_,rfl⟩⟩,lN⟩
    exact ⟨⟨_,List.mem_cons_self ..⟩,λf o h=>by cases h;exact ⟨_,List.mem_cons_of_mem _ (List.mem_singleton.2 rfl)⟩⟩
   | @new a h1 h2 Wg bf=>
    subst fI
    have nM:(iB (sw a) subs').map (·.1)=subs.map (·.1):=by
     rw [<- lN]
     unfold iB
     rw [List.map_map]
     exact List.map_congr_left λx hx=>jC h1 (kr x hx)
    cases s with
    | fn x=>
     obtain ⟨j1,xh⟩:=bf
     have q:=one a _ xh h1 h2 (λz=>zG)
     rw [wv,sZ (jC h1 (by omega)),N9] at q
     exact ⟨c',_,_,marks',_,q,⟨AU,λ_=>⟨100,80,sw a b,j,rfl,SA _,.inr ⟨_,f,eF,⟨j1,List.mem_append.2 (.inr (List.mem_singleton.2 rfl))⟩,.inr rfl,.inl rfl,by omega⟩⟩,λh=>(by cases h),.inr ⟨_,rfl⟩⟩,nM⟩
    | hp take u ph x=>
     obtain ⟨⟨j1,xh⟩,_⟩:=bf
     have q:=one a _ xh h1 h2 (λz=>Jm)
     rw [BB,sZ (jC h1 (by omega)),N9,jC h1 (show 80<96 by omega)] at q
     refine ⟨c',_,_,marks',_,q,⟨AU,λ_=>⟨100,80,sw a b,j,rfl,SA _,.inr ⟨_,f,eF,⟨⟨j1,List.mem_append.2 (.inr (List.mem_singleton.2 rfl))⟩,λf o h=> ?_⟩,.inr rfl,.inl rfl,by omega⟩⟩,λh=>(by cases h),.inr ⟨_,rfl⟩⟩,nM⟩
     subst h;cases Wg
end
end Qk
end Go.Proofs.YtpkfimijnkkbjaaGreat
