/- TopKept's play in the machine: each value that was put was taken once; and what is counted of the events. -/
import Derived.Test.YtpkfimijnkkbjaaGreatJ26
set_option linter.unusedVariables false
namespace Go.Proofs.YtpkfimijnkkbjaaGreat
namespace Qk
open Ev Ct
section
variable {K:KC}
theorem KQ (l:List Int): ∀ s:Qs,s.lJ K l=s.run K.P K.V K.kd K.nc (l.filterMap (om K)):=by
 induction l with
 | nil=>exact λs=>rfl
 | cons x l ih=>
  intro s
  show (s.mH K x).lJ K l=_
  rw [ih,List.filterMap_cons]
  unfold Qs.mH
  cases h:om K x with
  | none=>rfl
  | some t=>rfl
theorem DQ {t:Nat} (ht:t<K.P.n) (m:Nat):(List.replicate m (t:Int)).filterMap (om K)=List.replicate m t:=by
 induction m with
 | zero=>rfl
 | succ m ih=>rw [List.replicate_succ,List.filterMap_cons,RD ht,ih];rfl
theorem KR (m:Nat->Nat): ∀ i,i<=K.P.n->((List.range i).flatMap λu:Nat=>List.replicate (m u) (u:Int)).filterMap (om K)=dZ m i:=by
 intro i
 induction i with
 | zero=>exact λ_=>rfl
 | succ i ih=>
  intro h
  unfold dZ
  rw [List.range_succ,List.flatMap_append,List.filterMap_append,ih (by omega),List.flatMap_append]
  congr 1
  simp only [List.flatMap_cons,List.flatMap_nil,List.append_nil]
  exact DQ (by omega) _
end
section
variable {P:cv} {zs pk:List Int} {mo:Nat}
def uz (P:cv) (zs pk:List Int) (mo:Nat):List Int:=Ci (pf (P.n-1:Nat) pk pk.length) (KK P zs).cs zs.length mo (P.n-1)++List.replicate (200*(zs.length+1)) ((P.n-1:Nat):Int)
theorem OQ (hP:2<=P.n∧P.n<=4) (hk:1<=P.k∧P.k<=32) (ha:P.att<=3) (hz:zs.length<=1000) (xF:P.att*14+P.n*58+P.k+72<=mo):Kept P (KK P zs).nc (KK P zs).V (KK P zs).kd zs.length (iA.lJ (KK P zs) (uz P zs pk mo)):=by
 rw [KQ]
 have e:(uz P zs pk mo).filterMap (om (KK P zs))=(pf (P.n-1:Nat) pk pk.length).filterMap (om (KK P zs))++dZ (λu=>mo*(gD (KK P zs).cs zs.length u).length) (P.n-1)++List.replicate (200*(zs.length+1)) (P.n-1):=by
  unfold uz Ci
  rw [List.filterMap_append,List.filterMap_append,KR (K:=KK P zs) (λu=>mo*(gD (KK P zs).cs zs.length u).length) (P.n-1) (by show P.n-1<=P.n;omega),DQ (K:=KK P zs) (by show P.n-1<P.n;omega)]
 rw [e]
 refine kept hP hk ha (Ac hP.1 hz) (λt ht=> ?_) (λt ht=> ?_)
 ·obtain ⟨x,hx,hw⟩:=List.mem_filterMap.1 ht
  have h1:=(tu hw).1
  unfold pf at hx
  have h2:=(List.mem_filter.1 hx).2
  simp only [decide_eq_true_eq] at h2
  omega
 ·have h1:(KK P zs).nc t=(gD (KK P zs).cs zs.length t).length:=by
   rw [B3,iJ]
   rw [Vi hP.1 t (by omega) (2*zs.length+1) (by omega) (Nat.le_refl _)]
  show (KK P zs).nc t*_<=mo*(gD (KK P zs).cs zs.length t).length
  rw [h1,Nat.mul_comm mo]
  exact Nat.mul_le_mul_left _ xF
def gE (p:Nat->Bool) (m:Nat):Nat:=((List.range m).filter p).length
theorem pC (p:Nat->Bool) (m:Nat):gE p (m+1)=gE p m+if p m=true then 1 else 0:=by
 unfold gE
 rw [List.range_succ,List.filter_append,List.length_append]
 congr 1
 cases h:p m<;>simp [h]
theorem KS (p:Nat->Bool) (m:Nat):gE p m<=m:=by
 unfold gE
 exact Nat.le_trans (List.length_filter_le _ _) (by simp)
theorem tL (p:Nat->Bool): ∀ m,(∀ i,i<m->p i=false)->gE p m=0
 | 0,_=>rfl
 | m+1,h=>by rw [pC,tL p m λi hi=>h i (by omega),h m (by omega)];rfl
theorem xa (p:Nat->Bool): ∀ m,(∀ i j,i<m->j<m->p i=true->p j=true->i=j)->(∃ i,i<m∧p i=true)->gE p m=1
 | 0,_,⟨i,hi,_⟩=>absurd hi (Nat.not_lt_zero _)
 | m+1,h,⟨i,hi,hp⟩=>by
  rw [pC]
  by_cases e:p m=true
  ·rw [if_pos e,tL p m λj hj=>by
    cases hh:p j with
    | false=>rfl
    | true=>have:=h j m (by omega) (by omega) hh e;omega]
  ·rw [if_neg e]
   have:i≠m:=λe2=>e (by rw [<- e2];exact hp)
   rw [xa p m (λa b ha hb=>h a b (by omega) (by omega)) ⟨i,by omega,hp⟩]
theorem KT {p q:Nat->Bool} {m:Nat} (hp: ∀ i j,i<m->j<m->p i=true->p j=true->i=j) (hq: ∀ i j,i<m->j<m->q i=true->q j=true->i=j) (h:(∃ i,i<m∧p i=true)↔ ∃ i,i<m∧q i=true):gE p m=gE q m∧gE p m<=1:=by
 by_cases e: ∃ i,i<m∧p i=true
 ·rw [xa p m hp e,xa q m hq (h.1 e)];exact ⟨rfl,Nat.le_refl _⟩
 ·have z: ∀ (r:Nat->Bool),¬ (∃ i,i<m∧r i=true)->gE r m=0:=λr hr=>tL r m λi hi=>by
   cases hh:r i with
   | false=>rfl
   | true=>exact absurd ⟨i,hi,hh⟩ hr
  rw [z p e,z q λhq=>e (h.2 hq)]
  exact ⟨rfl,Nat.zero_le _⟩
theorem Si {n:Nat} {cs:List (Nat×Bool×Nat)} (jd: ∀ c∈cs,c.1<n): ∀ i,i<=cs.length->gU n (λt=>(gD cs i t).length)=i:=by
 intro i
 induction i with
 | zero=>
  intro _
  show gU n (λt=>0)=0
  rw [n8];omega
 | succ i ih=>
  intro h
  have hc:cs[i]?=some (cs[i]'(by omega)):=List.getElem?_eq_getElem (by omega)
  generalize cs[i]'(by omega)=c at hc
  have dA:=jd c (List.mem_of_getElem? hc)
  have key: ∀ m,gU m (λt=>(gD cs (i+1) t).length)=gU m (λt=>(gD cs i t).length)+if c.1<m then 1 else 0:=by
   intro m
   induction m with
   | zero=>rfl
   | succ m ihm=>
    show gU m _+(gD cs (i+1) m).length=gU m _+(gD cs i m).length+_
    rw [ihm,ke hc,List.length_append]
    by_cases e:c.1=m
    ·rw [if_pos e,if_neg (by omega),if_pos (by omega)];simp;omega
    ·rw [if_neg e]
     by_cases e2:c.1<m
     ·rw [if_pos e2,if_pos (by omega)];simp;omega
     ·rw [if_neg e2,if_neg (by omega)];simp
  rw [key n,if_pos dA,ih (by omega)]
end
theorem Yd {L:Nat} {f:Nat->Nat} (hf: ∀ i,i<L->f i<L) (inj: ∀ i j,i<L->j<L->f i=f j->i=j) {c:Nat} (hc:c<L): ∃ i,i<L∧f i=c:=by
 by_cases h: ∃ i,i<L∧f i=c
 ·exact h
 ·exfalso
  have ne: ∀ i,i<L->f i≠c:=λi hi e=>h ⟨i,hi,e⟩
  have:=wC (L-1) L (λi=>if f i=L-1 then c else f i) (λi hi=>by
    show (if f i=L-1 then c else f i)<L-1
    have h1:=hf i hi
    have h2:=ne i hi
    split
    ·rename_i e
     omega
    ·omega) (λi j hi hj e=>by
    have e:(if f i=L-1 then c else f i)=if f j=L-1 then c else f j:=e
    have h1:=ne i hi
    have h2:=ne j hj
    split at e<;>split at e
    ·exact inj i j hi hj (by omega)
    ·exact absurd e.symm h2
    ·exact absurd e h1
    ·exact inj i j hi hj e)
  omega
section
variable {P:cv} {zs:List Int} {s:Qs} {j:Jq} {k:Nat}
def k9 (s:Qs) (j:Jq) (i:Nat):Nat:=(s.out (j.own i).1 (j.own i).2).1
def fW (s:Qs) (j:Jq) (i:Nat):Nat:=(s.out (j.own i).1 (j.own i).2).2
def dS (K:KC) (j:Jq) (i:Nat):Nat:=K.at_ (j.own i).1 (j.own i).2
def rG (K:KC) (j:Jq) (i:Nat):Bool:=K.kd (j.own i).1 (j.own i).2
def eD (K:KC) (s:Qs) (j:Jq) (c i:Nat):Bool:=decide (k9 s j i=0)&& !rG K j i&&decide (dS K j i=c)
def dn (K:KC) (s:Qs) (j:Jq) (c i:Nat):Bool:=decide (k9 s j i=0)&&rG K j i&&decide (fW s j i=c)
theorem Jb7 {K:KC} {c i:Nat}:eD K s j c i=true↔k9 s j i=0∧rG K j i=false∧dS K j i=c:=by
 unfold eD;simp [and_assoc]
theorem gl {K:KC} {c i:Nat}:dn K s j c i=true↔k9 s j i=0∧rG K j i=true∧fW s j i=c:=by
 unfold dn;simp [and_assoc]
structure vv (P:cv) (zs:List Int) (s:Qs) (j:Jq):Prop where
 len:j.evl=2*zs.length+1
 at_: ∀ i,i<j.evl->(j.own i).1<P.n∧(j.own i).2<(KK P zs).nc (j.own i).1∧(j.own i).2<s.pos (j.own i).1
 call: ∀ i,i<j.evl->dS (KK P zs) j i<2*zs.length+1
 put: ∀ i,i<j.evl->rG (KK P zs) j i=false->dS (KK P zs) j i<zs.length
 take: ∀ i,i<j.evl->k9 s j i=0->rG (KK P zs) j i=true->fW s j i<zs.length
 same: ∀ c,c<zs.length->gE (eD (KK P zs) s j c) j.evl=gE (dn (KK P zs) s j c) j.evl∧gE (eD (KK P zs) s j c) j.evl<=1
theorem Sj (hP:2<=P.n∧P.n<=4) (hz:zs.length<=1000) (hK:Kept P (KK P zs).nc (KK P zs).V (KK P zs).kd zs.length s) (hj:kY (KK P zs) s j k):vv P zs s j:=by
 have hE:=hj.evs
 have jd: ∀ c∈(KK P zs).cs,c.1<P.n:=λc hc=>by
  obtain ⟨i,hi⟩:=List.mem_iff_getElem?.1 hc
  exact (nh hP.1 hi).1
 have dP:j.evl=2*zs.length+1:=by
  rw [hj.evl,<- iJ (P:=P) (zs:=zs),<- Si jd _ (Nat.le_refl _)]
  show gU P.n _=gU P.n _
  have: ∀ m,m<=P.n->gU m (λu=>s.pos u+busy s u)=gU m (λt=>(gD (KK P zs).cs (KK P zs).cs.length t).length):=by
   intro m
   induction m with
   | zero=>exact λ_=>rfl
   | succ m ih=>
    intro h
    show gU m _+(s.pos m+busy s m)=gU m _+_
    rw [ih (by omega),hK.pos m (by omega)]
    have:busy s m=0:=by unfold busy;rw [hK.cur m (by omega)]
    rw [this];rfl
  exact this P.n (Nat.le_refl _)
 have bf: ∀ i,i<j.evl->(j.own i).1<P.n∧(j.own i).2<(KK P zs).nc (j.own i).1∧(j.own i).2<s.pos (j.own i).1:=λi hi=>by
  obtain ⟨h1,h2⟩:=hE.own i hi
  rcases h2 with h2 | ⟨_,h2⟩
  ·exact ⟨h1,by rw [<- hK.pos _ h1];exact h2,h2⟩
  ·exact absurd (hK.cur _ h1) h2
 have kf: ∀ i,i<j.evl->dS (KK P zs) j i<2*zs.length+1:=λi hi=>by
  have:=J6 (bf i hi).2.1
  rw [iJ] at this
  exact this
 have lY: ∀ a b,a<j.evl->b<j.evl->dS (KK P zs) j a=dS (KK P zs) j b->a=b:=λa b ha hb e=>by
  obtain ⟨e1,e2⟩:=Cj (bf a ha).2.1 (bf b hb).2.1 e
  exact hE.inj a b ha hb (Prod.ext e1 e2)
 have Wn: ∀ u p,p<(KK P zs).nc u-> ∃ i,i<j.evl∧j.own i=(u,p):=λu p h=>by
  obtain ⟨i,hi,e⟩:=Yd (L:=j.evl) (f:=dS (KK P zs) j) (λi hi=>by rw [dP];exact kf i hi) lY (c:=(KK P zs).at_ u p) (by rw [dP,<- iJ (P:=P) (zs:=zs)];exact J6 h)
  obtain ⟨e1,e2⟩:=Cj (bf i hi).2.1 h e
  exact ⟨i,hi,Prod.ext e1 e2⟩
 have low: ∀ u p,p<(KK P zs).nc u->(KK P zs).kd u p=false->(KK P zs).at_ u p<zs.length∧(KK P zs).V u p=(KK P zs).at_ u p:=λu p h hk=>by
  obtain ⟨h1,h2⟩:=(nh hP.1 (lF h)).2.1 hk
  exact ⟨h1,h2⟩
 have cY: ∀ i,i<j.evl->rG (KK P zs) j i=false->dS (KK P zs) j i<zs.length:=λi hi hk=>(low _ _ (bf i hi).2.1 hk).1
 have We: ∀ i,i<j.evl->k9 s j i=0->rG (KK P zs) j i=true->fW s j i<zs.length:=λi hi he hk=>by
  obtain ⟨h1,h2,_⟩:=bf i hi
  obtain ⟨u',p',g1,g2,g3,g4,g5⟩:=hK.get _ _ h1 h2 hk he
  obtain ⟨l1,l2⟩:=low u' p' g2 g3
  show (s.out (j.own i).1 (j.own i).2).2<zs.length
  rw [g5,l2];exact l1
 refine ⟨dP,bf,kf,cY,We,λc hc=>KT (λa b ha hb h1 h2=> ?_) (λa b ha hb h1 h2=> ?_) ⟨?_,?_⟩⟩
 ·exact lY a b ha hb ((Jb7.1 h1).2.2.trans (Jb7.1 h2).2.2.symm)
 ·obtain ⟨a1,a2,a3⟩:=gl.1 h1
  obtain ⟨b1,b2,b3⟩:=gl.1 h2
  obtain ⟨p1,p2,_⟩:=bf a ha
  obtain ⟨q1,q2,_⟩:=bf b hb
  obtain ⟨e1,e2⟩:=hK.one _ _ _ _ p1 q1 p2 q2 a2 b2 a1 b1 (a3.trans b3.symm)
  exact hE.inj a b ha hb (Prod.ext e1 e2)
 ·rintro ⟨i,hi,h⟩
  obtain ⟨a1,a2,a3⟩:=Jb7.1 h
  obtain ⟨p1,p2,_⟩:=bf i hi
  obtain ⟨u',p',g1,g2,g3,g4,g5⟩:=hK.put _ _ p1 p2 a2 a1
  obtain ⟨i',iS,e⟩:=Wn u' p' g2
  refine ⟨i',iS,gl.2 ⟨?_,?_,?_⟩⟩
  ·unfold k9;rw [e];exact g4
  ·unfold rG;rw [e];exact g3
  ·unfold fW;rw [e]
   show (s.out u' p').2=c
   rw [g5,(low _ _ p2 a2).2];exact a3
 ·rintro ⟨i,hi,h⟩
  obtain ⟨a1,a2,a3⟩:=gl.1 h
  obtain ⟨p1,p2,_⟩:=bf i hi
  obtain ⟨u',p',g1,g2,g3,g4,g5⟩:=hK.get _ _ p1 p2 a2 a1
  obtain ⟨i',iS,e⟩:=Wn u' p' g2
  refine ⟨i',iS,Jb7.2 ⟨?_,?_,?_⟩⟩
  ·unfold k9;rw [e];exact g4
  ·unfold rG;rw [e];exact g3
  ·unfold dS;rw [e]
   show (KK P zs).at_ u' p'=c
   rw [<- (low _ _ g2 g3).2,<- g5];exact a3
end
open Go.IntKind (i64 u64)
open Go.Proofs.Tryz (prog)
theorem Vk (nn:Int) (own c pn:Nat):
  b6 [7,9] [] (aP prog (aW prog ba 60) 299 100000 (P5 9 aB) ([(7,.ptr 14 0),(9,.aa .i64 own)]) ⟨mk [(14,.row false [.aa .i64 nn,.slice 1 0 1 1,.ae 7 6 0 0 c c,.ae 13 1 0 0 pn pn] 26 none)],96,0,0,True,[.br false]⟩)=
  some (.normal,[some (.ptr 14 0),some (.aa .i64 (own:Int))],True∧aq .gtr (pn:Int) (65536:Int)=false,96,[],[]):=by kernel_rfl
theorem Sk (nn:Int) (c pn:Nat):
  iD prog Tryz.f5.results.toList [] (aP prog (aW prog ba 60) 299 100000 (aT 9 aB) ([(7,.ptr 14 0)]) ⟨mk [(14,.row false [.aa .i64 nn,.slice 1 0 1 1,.ae 7 6 0 0 c c,.ae 13 1 0 0 pn pn] 26 none)],96,0,0,True,[.br true]⟩)=
  some ([.bool true],True∧aq .gtr (pn:Int) (65536:Int)=true,96,[],[]):=by kernel_rfl
theorem FC (nn:Int) (own c pn:Nat):
  iG [7,9,188] [] (dI prog (aW prog ba 60) 299 (cB (P5 10 aB)) ((cB (P5 10 aB)).toList.take 1) ([(7,.ptr 14 0),(9,.aa .i64 own)]) ⟨mk [(14,.row false [.aa .i64 nn,.slice 1 0 1 1,.ae 7 6 0 0 c c,.ae 13 1 0 0 pn pn] 26 none)],96,0,0,True,[]⟩)=
  some ([some (.ptr 14 0),some (.aa .i64 (own:Int)),some (.agg [.aa .i64 nn,.slice 1 0 1 1,.ae 7 6 0 0 c c,.ae 13 1 0 0 pn pn])],True,96,[],[]):=by kernel_rfl
theorem Ck (own evl lw:Nat) (k0 k1 k2 k3 k4 r1 r2:Int):
  iG [7,9,15,16] [96,97] (dI prog (aW prog ba 60) 299 (cB (P5 10 aB)) ((cB (P5 10 aB)).toList.drop 2) ([(189,.eT [.agg [.ae 8 8 0 0 evl evl,.ae 20 1 0 0 lw lw,.aa .i64 k0,.aa .i64 k1,.aa .i64 k2,.aa .i64 k3,.aa .i64 k4,.aa .i64 r1,.aa .i64 r2],.int .i64 0]),(7,.ptr 14 0),(9,.aa .i64 own)]) ⟨mk [],96,0,0,True,[]⟩)=
  some ([some (.ptr 14 0),some (.aa .i64 (own:Int)),some (.ptr 96 0),some (.int .i64 0)],True,97,[96],[some (.row false [.ae 8 8 0 0 evl evl,.ae 20 1 0 0 lw lw,.aa .i64 k0,.aa .i64 k1,.aa .i64 k2,.aa .i64 k3,.aa .i64 k4,.aa .i64 r1,.aa .i64 r2] 34 none),none]):=by kernel_rfl
theorem Vl (nn:Int) (own c evl lw:Nat) (k0 k1 k2 k3 k4 r1 r2:Int) (v1 v3:Value):
  b6 [7,9,15] [] (aP prog (aW prog ba 60) 299 100000 (P5 11 aB) ([(7,.ptr 14 0),(9,.aa .i64 own),(15,.ptr 21 0),(16,.int .i64 0)]) ⟨mk [(14,.row false [.aa .i64 nn,.cQ v1,.ae 7 6 0 0 c c,.cQ v3] 26 none),(21,.row false [.ae 8 8 0 0 evl evl,.ae 20 1 0 0 lw lw,.aa .i64 k0,.aa .i64 k1,.aa .i64 k2,.aa .i64 k3,.aa .i64 k4,.aa .i64 r1,.aa .i64 r2] 34 none)],96,0,0,True,[.br false]⟩)=
  some (.normal,[some (.ptr 14 0),some (.aa .i64 (own:Int)),some (.ptr 21 0)],True∧aq .neq (evl:Int) (c:Int)=false,96,[],[]):=by kernel_rfl
theorem Vm (own:Nat):
  b6 [7,9,15,17,18] [96,97,98,99] (aP prog (aW prog ba 60) 299 100000 (P5 12 aB) ([(7,.ptr 14 0),(9,.aa .i64 own),(15,.ptr 21 0)]) ⟨mk [],96,0,0,True,[]⟩)=
  some (.normal,[some (.ptr 14 0),some (.aa .i64 (own:Int)),some (.ptr 21 0),some (.aL 96 0 (own:Int).toNat (own:Int).toNat),some (.aL 97 0 (own:Int).toNat (own:Int).toNat)],(True∧(0:Int)<=(own:Int)∧(own:Int)=(own:Int)∧(own:Int).toNat*8<=room∧(own:Int).toNat<=maxLen)∧(0:Int)<=(own:Int)∧(own:Int)=(own:Int)∧(own:Int).toNat*8<=room∧(own:Int).toNat<=maxLen,98,[96,97],[some (.row true (List.replicate (own:Int).toNat (.int .i64 (0:Int))) 3 none),some (.row true (List.replicate (own:Int).toNat (.int .i64 (0:Int))) 3 none),none,none]):=by kernel_rfl
theorem KU (own evl lw:Nat) (k0 k1 k2 k3 k4 r1 r2:Int):
  b6 [7,9,15,17,18,209,210] [] (aP prog (aW prog ba 60) 299 100000 (cA 0 (P5 13 aB)) ([(7,.ptr 14 0),(9,.aa .i64 own),(15,.ptr 21 0),(17,.aL 22 0 own own),(18,.aL 23 0 own own)]) ⟨mk [(21,.row false [.ae 8 8 0 0 evl evl,.ae 20 1 0 0 lw lw,.aa .i64 k0,.aa .i64 k1,.aa .i64 k2,.aa .i64 k3,.aa .i64 k4,.aa .i64 r1,.aa .i64 r2] 34 none)],96,0,0,True,[]⟩)=
  some (.normal,[some (.ptr 14 0),some (.aa .i64 (own:Int)),some (.ptr 21 0),some (.aL 22 0 own own),some (.aL 23 0 own own),some (.aa .i64 (evl:Int)),some (.int .i64 0)],True,96,[],[]):=by kernel_rfl
theorem KV (own evl ix:Nat):
  b6 [7,9,15,17,18,209,210] [] (aP prog (aW prog ba 60) 299 100000 (bK (P5 13 aB)) ([(7,.ptr 14 0),(9,.aa .i64 own),(15,.ptr 21 0),(17,.aL 22 0 own own),(18,.aL 23 0 own own),(209,.aa .i64 evl),(210,.aa .i64 ix)]) ⟨mk [],96,0,0,True,[.br false]⟩)=
  some (.exit 10,[some (.ptr 14 0),some (.aa .i64 (own:Int)),some (.ptr 21 0),some (.aL 22 0 own own),some (.aL 23 0 own own),some (.aa .i64 (evl:Int)),some (.aa .i64 (ix:Int))],True∧aq .lss (ix:Int) (evl:Int)=false,96,[],[]):=by kernel_rfl
theorem KW (nn:Int) (own c evl lw:Nat) (k0 k1 k2 k3 k4 r1 r2:Int) (v1 v3:Value) (ix call:Nat) (j8 st err:Int) (vl:Nat) (w1 w6 w7:Value) (evs calls:List AV):
  b6 [7,9,15,17,18,209,210] [22,23] (aP prog (aW prog ba 60) 299 100000 (bK (P5 13 aB)) ([(7,.ptr 14 0),(9,.aa .i64 own),(15,.ptr 21 0),(17,.aL 22 0 own own),(18,.aL 23 0 own own),(209,.aa .i64 evl),(210,.aa .i64 ix)]) ⟨mk [(14,.row false [.aa .i64 nn,.cQ v1,.ae 7 6 0 0 c c,.cQ v3] 26 none),(21,.row false [.ae 8 8 0 0 evl evl,.ae 20 1 0 0 lw lw,.aa .i64 k0,.aa .i64 k1,.aa .i64 k2,.aa .i64 k3,.aa .i64 k4,.aa .i64 r1,.aa .i64 r2] 34 none),(7,.row true calls 42 (some 6)),(8,.row true evs 48 (some 8))],96,0,0,True,[.br true,.val [.aa .i64 (call:Int),.cQ w1,.aa .i64 j8,.aa .i64 st,.aa .i64 err,.aa .u64 (vl:Int),.cQ w6,.cQ w7],.br false,.br false,.br false,.br true]⟩)=
  some (.normal,[some (.ptr 14 0),some (.aa .i64 (own:Int)),some (.ptr 21 0),some (.aL 22 0 own own),some (.aL 23 0 own own),some (.aa .i64 (evl:Int)),some (.aa .i64 (i64.wrap ((ix:Int)+(1:Int))))],((((((((True∧aq .lss (ix:Int) (evl:Int)=true)∧(0:Nat)+evl<=evl)∧(0:Int)<=(ix:Int)∧(ix:Int)<(evl:Int))∧8=8∧ ∀ (i:Nat),i<8->evs[((0:Nat)+(ix:Int).toNat)*(8:Nat)+i]?=[.aa .i64 (call:Int),.cQ w1,.aa .i64 j8,.aa .i64 st,.aa .i64 err,.aa .u64 (vl:Int),.cQ w6,.cQ w7][i]?)∧false=false)∧aq .geq (call:Int) (c:Int)=false)∧aq .eql j8 (0:Int)=false)∧aq .neq err (0:Int)=true)∧true=true,97,[96],[none,none]):=by kernel_rfl
theorem KX (nn:Int) (own c evl lw:Nat) (k0 k1 k2 k3 k4 r1 r2:Int) (v1 v3:Value) (ix call:Nat) (j8 st err:Int) (vl:Nat) (w1 w6 w7:Value) (evs calls puts:List AV) (px:Int):
  b6 [7,9,15,17,18,209,210] [22] (aP prog (aW prog ba 60) 299 100000 (bK (P5 13 aB)) ([(7,.ptr 14 0),(9,.aa .i64 own),(15,.ptr 21 0),(17,.aL 22 0 own own),(18,.aL 23 0 own own),(209,.aa .i64 evl),(210,.aa .i64 ix)]) ⟨mk [(14,.row false [.aa .i64 nn,.cQ v1,.ae 7 6 0 0 c c,.cQ v3] 26 none),(21,.row false [.ae 8 8 0 0 evl evl,.ae 20 1 0 0 lw lw,.aa .i64 k0,.aa .i64 k1,.aa .i64 k2,.aa .i64 k3,.aa .i64 k4,.aa .i64 r1,.aa .i64 r2] 34 none),(7,.row true calls 42 (some 6)),(8,.row true evs 48 (some 8)),(22,.row true puts 3 none)],96,0,0,True,[.br true,.val [.aa .i64 (call:Int),.cQ w1,.aa .i64 j8,.aa .i64 st,.aa .i64 err,.aa .u64 (vl:Int),.cQ w6,.cQ w7],.br false,.br false,.br false,.br false,.val [.int .i64 (0:Int)],.val [.aa .i64 px]]⟩)=
  some (.normal,[some (.ptr 14 0),some (.aa .i64 (own:Int)),some (.ptr 21 0),some (.aL 22 0 own own),some (.aL 23 0 own own),some (.aa .i64 (evl:Int)),some (.aa .i64 (i64.wrap ((ix:Int)+(1:Int))))],((((((((((((((((True∧aq .lss (ix:Int) (evl:Int)=true)∧(0:Nat)+evl<=evl)∧(0:Int)<=(ix:Int)∧(ix:Int)<(evl:Int))∧8=8∧ ∀ (i:Nat),i<8->evs[((0:Nat)+(ix:Int).toNat)*(8:Nat)+i]?=[.aa .i64 (call:Int),.cQ w1,.aa .i64 j8,.aa .i64 st,.aa .i64 err,.aa .u64 (vl:Int),.cQ w6,.cQ w7][i]?)∧false=false)∧aq .geq (call:Int) (c:Int)=false)∧aq .eql j8 (0:Int)=false)∧aq .neq err (0:Int)=false)∧(0:Nat)+c<=c)∧(0:Int)<=(call:Int)∧(call:Int)<(c:Int))∧1=1∧ ∀ (i:Nat),i<(1:Nat)->calls[((0:Nat)+(call:Int).toNat)*(6:Nat)+2+i]?=[.int .i64 (0:Int)][i]?)∧(0:Int)<=(call:Int)∧(call:Int)<(own:Int))∧1=1∧ ∀ (i:Nat),i<(1:Nat)->puts[(0:Nat)+(call:Int).toNat*1+i]?=[.aa .i64 px][i]?)∧true=true)∧(0:Int)<=(call:Int)∧(call:Int)<(own:Int))∧(0:Nat)+(call:Int).toNat*1<puts.length)∧true=true,97,[22,96],[some (.row true (puts.set ((0:Nat)+(call:Int).toNat*1) (.aa .i64 (i64.wrap (px+(1:Int))))) 3 none)]):=by kernel_rfl
theorem FD (nn:Int) (own c evl lw:Nat) (k0 k1 k2 k3 k4 r1 r2:Int) (v1 v3:Value) (ix call:Nat) (j8 st err:Int) (vl:Nat) (w1 w6 w7:Value) (evs calls takes:List AV) (tx:Int):
  b6 [7,9,15,17,18,209,210] [23] (aP prog (aW prog ba 60) 299 100000 (bK (P5 13 aB)) ([(7,.ptr 14 0),(9,.aa .i64 own),(15,.ptr 21 0),(17,.aL 22 0 own own),(18,.aL 23 0 own own),(209,.aa .i64 evl),(210,.aa .i64 ix)]) ⟨mk [(14,.row false [.aa .i64 nn,.cQ v1,.ae 7 6 0 0 c c,.cQ v3] 26 none),(21,.row false [.ae 8 8 0 0 evl evl,.ae 20 1 0 0 lw lw,.aa .i64 k0,.aa .i64 k1,.aa .i64 k2,.aa .i64 k3,.aa .i64 k4,.aa .i64 r1,.aa .i64 r2] 34 none),(7,.row true calls 42 (some 6)),(8,.row true evs 48 (some 8)),(23,.row true takes 3 none)],96,0,0,True,[.br true,.val [.aa .i64 (call:Int),.cQ w1,.aa .i64 j8,.aa .i64 st,.aa .i64 err,.aa .u64 (vl:Int),.cQ w6,.cQ w7],.br false,.br false,.br false,.br false,.val [.int .i64 (1:Int)],.br false,.val [.aa .i64 tx]]⟩)=
  some (.normal,[some (.ptr 14 0),some (.aa .i64 (own:Int)),some (.ptr 21 0),some (.aL 22 0 own own),some (.aL 23 0 own own),some (.aa .i64 (evl:Int)),some (.aa .i64 (i64.wrap ((ix:Int)+(1:Int))))],(((((((((((((((((True∧aq .lss (ix:Int) (evl:Int)=true)∧(0:Nat)+evl<=evl)∧(0:Int)<=(ix:Int)∧(ix:Int)<(evl:Int))∧8=8∧ ∀ (i:Nat),i<8->evs[((0:Nat)+(ix:Int).toNat)*(8:Nat)+i]?=[.aa .i64 (call:Int),.cQ w1,.aa .i64 j8,.aa .i64 st,.aa .i64 err,.aa .u64 (vl:Int),.cQ w6,.cQ w7][i]?)∧false=false)∧aq .geq (call:Int) (c:Int)=false)∧aq .eql j8 (0:Int)=false)∧aq .neq err (0:Int)=false)∧(0:Nat)+c<=c)∧(0:Int)<=(call:Int)∧(call:Int)<(c:Int))∧1=1∧ ∀ (i:Nat),i<(1:Nat)->calls[((0:Nat)+(call:Int).toNat)*(6:Nat)+2+i]?=[.int .i64 (1:Int)][i]?)∧aq .geq (vl:Int) (u64.wrap (own:Int))=false)∧(0:Int)<=i64.wrap (vl:Int)∧i64.wrap (vl:Int)<(own:Int))∧1=1∧ ∀ (i:Nat),i<(1:Nat)->takes[(0:Nat)+(i64.wrap (vl:Int)).toNat*1+i]?=[.aa .i64 tx][i]?)∧true=true)∧(0:Int)<=i64.wrap (vl:Int)∧i64.wrap (vl:Int)<(own:Int))∧(0:Nat)+(i64.wrap (vl:Int)).toNat*1<takes.length)∧true=true,97,[23,96],[some (.row true (takes.set ((0:Nat)+(i64.wrap (vl:Int)).toNat*1) (.aa .i64 (i64.wrap (tx+(1:Int))))) 3 none)]):=by kernel_rfl
theorem KY (own:Nat):
  b6 [17,18,277,278] [] (aP prog (aW prog ba 60) 299 100000 (cA 0 (P5 14 aB)) ([(9,.aa .i64 own),(17,.aL 22 0 own own),(18,.aL 23 0 own own)]) ⟨mk [],96,0,0,True,[]⟩)=
  some (.normal,[some (.aL 22 0 own own),some (.aL 23 0 own own),some (.aa .i64 (own:Int)),some (.int .i64 0)],True,96,[],[]):=by kernel_rfl
theorem KZ (own ix:Nat):
  b6 [17,18,277,278] [] (aP prog (aW prog ba 60) 299 100000 (bK (P5 14 aB)) ([(17,.aL 22 0 own own),(18,.aL 23 0 own own),(277,.aa .i64 own),(278,.aa .i64 ix)]) ⟨mk [],96,0,0,True,[.br false]⟩)=
  some (.exit 12,[some (.aL 22 0 own own),some (.aL 23 0 own own),some (.aa .i64 (own:Int)),some (.aa .i64 (ix:Int))],True∧aq .lss (ix:Int) (own:Int)=false,96,[],[]):=by kernel_rfl
theorem OR (own ix:Nat) (puts takes:List AV) (px tx:Int):
  b6 [17,18,277,278] [] (aP prog (aW prog ba 60) 299 100000 (bK (P5 14 aB)) ([(17,.aL 22 0 own own),(18,.aL 23 0 own own),(277,.aa .i64 own),(278,.aa .i64 ix)]) ⟨mk [(22,.row true puts 3 none),(23,.row true takes 3 none)],96,0,0,True,[.br true,.val [.aa .i64 px],.val [.aa .i64 tx],.br false,.val [.aa .i64 px],.br false]⟩)=
  some (.normal,[some (.aL 22 0 own own),some (.aL 23 0 own own),some (.aa .i64 (own:Int)),some (.aa .i64 (i64.wrap ((ix:Int)+(1:Int))))],(((((((((True∧aq .lss (ix:Int) (own:Int)=true)∧(0:Int)<=(ix:Int)∧(ix:Int)<(own:Int))∧1=1∧ ∀ (i:Nat),i<(1:Nat)->puts[(0:Nat)+(ix:Int).toNat*1+i]?=[.aa .i64 px][i]?)∧(0:Int)<=(ix:Int)∧(ix:Int)<(own:Int))∧1=1∧ ∀ (i:Nat),i<(1:Nat)->takes[(0:Nat)+(ix:Int).toNat*1+i]?=[.aa .i64 tx][i]?)∧aq .neq px tx=false)∧(0:Int)<=(ix:Int)∧(ix:Int)<(own:Int))∧1=1∧ ∀ (i:Nat),i<(1:Nat)->puts[(0:Nat)+(ix:Int).toNat*1+i]?=[.aa .i64 px][i]?)∧aq .gtr px (1:Int)=false)∧true=true,96,[],[]):=by kernel_rfl
theorem Sl  :
  iD prog Tryz.f5.results.toList [] (aP prog (aW prog ba 60) 299 100000 (aT 0 (aT 14 aB)) ([]) ⟨mk [],96,0,0,True,[]⟩)=
  some ([.bool true],True,96,[],[]):=by kernel_rfl
theorem Cl:P5 10 aB= .region 36 (cB (P5 10 aB)) false∧(cB (P5 10 aB)).size=1+7:=⟨by kernel_rfl,by kernel_rfl⟩
theorem Sm: ∃ r,(cB (P5 10 aB))[1]?=some r∧r.op= .call { callee:= .value (.func 8),args:= #[.tmp 188],argTypes:= #[26] }∧r.guard=none∧r.dst=some 189:=⟨((cB (P5 10 aB))[1]?).getD default,by kernel_rfl,by kernel_rfl,by kernel_rfl,by kernel_rfl⟩
section
variable {κ:Ev.dE}
def jw (f:Nat->Nat) (own:Nat):List AV:=(List.range own).map λc=> .aa .i64 ((f c:Nat):Int)
theorem pD (f:Nat->Nat) (own:Nat):(jw f own).length=own:=by simp [jw]
theorem lK {f:Nat->Nat} {own c:Nat} (h:c<own):(jw f own)[c]?=some (.aa .i64 ((f c:Nat):Int)):=by
 unfold jw;rw [List.getElem?_map,List.getElem?_range h];rfl
theorem DR {f g:Nat->Nat} {own c:Nat} {v:Int} (h:c<own) (hv:v=((g c:Nat):Int)) (Yy: ∀ d,d≠c->g d=f d):(jw f own).set c (.aa .i64 v)=jw g own:=by
 refine List.ext_getElem? λd=> ?_
 by_cases e:d=c
 ·subst e
  rw [List.getElem?_set_self (by rw [pD];exact h),lK h,hv]
 ·rw [List.getElem?_set_ne (λe2=>e e2.symm)]
  by_cases hd:d<own
  ·rw [lK hd,lK hd,Yy d e]
  ·rw [List.getElem?_eq_none (by rw [pD];omega),List.getElem?_eq_none (by rw [pD];omega)]
theorem la (f:Nat->Nat) (own:Nat):aR (λ_=>False) (jw f own):=by
 rw [cS];intro v hv
 obtain ⟨c,_,rfl⟩:=List.mem_map.1 hv
 trivial
structure Hp where
 n:Nat
 cs:List (Nat×Bool×Nat)
 v1:Value
 v3:Value
 Ad:List AV
 evs:List AV
def Cm (h:Hp):ak:= .row false [.aa .i64 (h.n:Nat),.cQ h.v1,.ae 7 6 0 0 h.cs.length h.cs.length,.cQ h.v3] 26 none
def H6 (h:Hp) (puts takes:List AV) (b:Nat):Option ak:=
 if b=7 then some (.row true (h.cs.flatMap bj) 42 (some 6))
 else if b=8 then some (.row true h.evs 48 (some 8))
 else if b=14 then some (Cm h)
 else if b=21 then some (.row false h.Ad 34 none)
 else if b=22 then some (.row true puts 3 none)
 else if b=23 then some (.row true takes 3 none) else none
section
variable {h:Hp} {puts takes:List AV}
theorem mN {b:Nat} {o:ak} (hb:H6 h puts takes b=some o):(b=7∧o= .row true (h.cs.flatMap bj) 42 (some 6))∨(b=8∧o= .row true h.evs 48 (some 8))∨(b=14∧o=Cm h)∨(b=21∧o= .row false h.Ad 34 none)∨(b=22∧o= .row true puts 3 none)∨(b=23∧o= .row true takes 3 none):=by
 unfold H6 at hb
 split at hb
 ·exact .inl ⟨‹_›,(Option.some.inj hb).symm⟩
 split at hb
 ·exact .inr (.inl ⟨‹_›,(Option.some.inj hb).symm⟩)
 split at hb
 ·exact .inr (.inr (.inl ⟨‹_›,(Option.some.inj hb).symm⟩))
 split at hb
 ·exact .inr (.inr (.inr (.inl ⟨‹_›,(Option.some.inj hb).symm⟩)))
 split at hb
 ·exact .inr (.inr (.inr (.inr (.inl ⟨‹_›,(Option.some.inj hb).symm⟩))))
 split at hb
 ·exact .inr (.inr (.inr (.inr (.inr ⟨‹_›,(Option.some.inj hb).symm⟩))))
 ·cases hb
theorem xb (he:aR (λ_=>False) h.evs) (hr:aR (· < 96) h.Ad) (hp:aR (λ_=>False) puts) (ht:aR (λ_=>False) takes): ∀ c o,H6 h puts takes c=some o->c<96∧o.aD (· < 96):=λc o hc=>by
 rcases mN hc with ⟨rfl,rfl⟩ | ⟨rfl,rfl⟩ | ⟨rfl,rfl⟩ | ⟨rfl,rfl⟩ | ⟨rfl,rfl⟩ | ⟨rfl,rfl⟩
 ·exact ⟨by omega,bJ (cE h.cs)⟩
 ·exact ⟨by omega,aR.mono (λ_ h=>h.elim) he⟩
 ·exact ⟨by omega,trivial,trivial,by show 7<96;omega,trivial,trivial⟩
 ·exact ⟨by omega,hr⟩
 ·exact ⟨by omega,aR.mono (λ_ h=>h.elim) hp⟩
 ·exact ⟨by omega,aR.mono (λ_ h=>h.elim) ht⟩
end
def E66 (own evl i:Nat):Env:=[(7,.ptr 14 0),(9,.aa .i64 own),(15,.ptr 21 0),(17,.aL 22 0 own own),(18,.aL 23 0 own own),(209,.aa .i64 evl),(210,.aa .i64 i)]
theorem pE {H H':Nat->Option ak} {nx own evl i:Nat} {k:Int} {env:Env} {φ:bo} {w:World} {a:Act} (bf:At κ H 299 nx env φ w a) (df:[7,9,15,17,18,209,210].map env.look=[some (.ptr 14 0),some (.aa .i64 (own:Nat)),some (.ptr 21 0),some (.aL 22 0 own own),some (.aL 23 0 own own),some (.aa .i64 (evl:Nat)),some (.aa .i64 k)]) (hk:k=i) (bx:cz κ H' φ w) (bn: ∀ c o,H' c=some o->c<96∧o.aD (· < 96)):At κ H' 299 96 (E66 own evl i) φ w a:=by
 subst hk
 refine bf.Jb4 bx bn ?_
 exact ab ⟨_,ai df 0 rfl rfl,rfl,by show 14<96;omega⟩<|ab ⟨_,ai df 1 rfl rfl,rfl,trivial⟩<|ab ⟨_,ai df 2 rfl rfl,rfl,by show 21<96;omega⟩<|ab ⟨_,ai df 3 rfl rfl,rfl,by show 22<96;omega⟩<|ab ⟨_,ai df 4 rfl rfl,rfl,by show 23<96;omega⟩<|ab ⟨_,ai df 5 rfl rfl,rfl,trivial⟩<|ab ⟨_,ai df 6 rfl rfl,rfl,trivial⟩ aC
structure vw (K:KC) (s:Qs) (j:Jq) (evs:List AV):Prop where
 cell: ∀ i,i<j.evl-> ∃ (j8 stp:Int) (w1 w6 w7:Value),j8≠0∧ ∀ r:Nat,r<8->evs[(0+(i:Int).toNat)*8+r]?=[AV.aa .i64 ((dS K j i:Nat):Int),.cQ w1,.aa .i64 j8,.aa .i64 stp,.aa .i64 ((k9 s j i:Nat):Int),.aa .u64 ((fW s j i:Nat):Int),.cQ w6,.cQ w7][r]?
def Sn (κ:Ev.dE) (h:Hp) (K:KC) (s:Qs) (j:Jq) (own i:Nat) (a:Act) (w:World):Prop:=
 ∃ φ:bo,At κ (H6 h (jw (λc=>gE (eD K s j c) i) own) (jw (λc=>gE (dn K s j c) i) own)) 299 96 (E66 own j.evl i) φ w a
section
variable {P:cv} {zs:List Int} {s:Qs} {j:Jq} {h:Hp}
theorem So (uD:vv P zs s j) (hz:zs.length<=1000) (hn:2<=P.n) (fI:vw (KK P zs) s j h.evs) (jd:h.cs=(KK P zs).cs) (he:aR (λ_=>False) h.evs) {lw:Nat} {k0 k1 k2 k3 k4 r1 r2:Int} (kM:h.Ad=[.ae 8 8 0 0 j.evl j.evl,.ae 20 1 0 0 lw lw,.aa .i64 k0,.aa .i64 k1,.aa .i64 k2,.aa .i64 k3,.aa .i64 k4,.aa .i64 r1,.aa .i64 r2])
  {Q:Exit->Act->World->Prop} (hQ: ∀ a w,Sn κ h (KK P zs) s j zs.length j.evl a w->Q (.exit 10) a w): ∀ (k i:Nat),i+k=j.evl-> ∀ a w,Sn κ h (KK P zs) s j zs.length i a w->bh prog (bK (P5 13 aB)) Q a w:=by
 have Cv:aR (· < 96) h.Ad:=by
  rw [kM]
  exact ⟨by show 8<96;omega,by show 20<96;omega,trivial,trivial,trivial,trivial,trivial,trivial,trivial,trivial⟩
 have bn: ∀ i,∀ c o,H6 h (jw (λc=>gE (eD (KK P zs) s j c) i) zs.length) (jw (λc=>gE (dn (KK P zs) s j c) i) zs.length) c=some o->c<96∧o.aD (· < 96):=λi=>xb he Cv (la _ _) (la _ _)
 have dP:=uD.len
 have jV:h.cs.length=2*zs.length+1:=by rw [jd];exact iJ
 intro k
 induction k with
 | zero=>
  rintro i hi a w ⟨φ,bf⟩
  refine bh.of ?_
  have iS:i=j.evl:=by omega
  subst iS
  obtain ⟨env,s1,cW,df,aQ,eP,dc,_⟩:=aE (KV zs.length j.evl j.evl)
  have eg:s1.pre:=by rw [aQ];exact ⟨True.intro,by simp [aq]⟩
  refine cN ((bE named (cj mixed) (sound named mixed bL 60) (nt:=299) 100000).1 _ _ _ _ _ _ cW) bf bA eg (K:=λa w=>Q (.exit 10) a w) (λφ' w' a' uF fN=> ?_) _ (λa w h=>h)
  exact hQ a' w' ⟨φ',pE fN df rfl (fN.fit.bB (bV (λc o h=>(bf.ids c o h).1) dc)) (bn _)⟩
 | succ k ih=>
  rintro i hi a w ⟨φ,bf⟩
  refine bh.of ?_
  have fQ:i<j.evl:=by omega
  have iT:i64.wrap ((i:Int)+1)=((i+1:Nat):Int):=by rw [wrap64 (by omega) (by omega)];omega
  obtain ⟨j8,stp,w1,w6,w7,LR,gm⟩:=fI.cell i fQ
  have kf:=uD.call i fQ
  obtain ⟨o1,o2,o3⟩:=uD.at_ i fQ
  have ni:=lF o2
  have fJ:H6 h (jw (λc=>gE (eD (KK P zs) s j c) i) zs.length) (jw (λc=>gE (dn (KK P zs) s j c) i) zs.length) 14=some (.row false [.aa .i64 (h.n:Nat),.cQ h.v1,.ae 7 6 0 0 h.cs.length h.cs.length,.cQ h.v3] 26 none):=rfl
  have xd:H6 h (jw (λc=>gE (eD (KK P zs) s j c) i) zs.length) (jw (λc=>gE (dn (KK P zs) s j c) i) zs.length) 21=some (.row false [.ae 8 8 0 0 j.evl j.evl,.ae 20 1 0 0 lw lw,.aa .i64 k0,.aa .i64 k1,.aa .i64 k2,.aa .i64 k3,.aa .i64 k4,.aa .i64 r1,.aa .i64 r2] 34 none):=by
   show some (ak.row false h.Ad 34 none)=_
   rw [kM]
  have hp: ∀ c,gE (eD (KK P zs) s j c) (i+1)=gE (eD (KK P zs) s j c) i+if eD (KK P zs) s j c i=true then 1 else 0:=λc=>pC _ _
  have ht: ∀ c,gE (dn (KK P zs) s j c) (i+1)=gE (dn (KK P zs) s j c) i+if dn (KK P zs) s j c i=true then 1 else 0:=λc=>pC _ _
  by_cases gL:k9 s j i=0
  ·have QH: ∀ r:Nat,r<1->(h.cs.flatMap bj)[(0+((dS (KK P zs) j i:Nat):Int).toNat)*6+2+r]?=[AV.int .i64 (Om (rG (KK P zs) j i))][r]?:=λr hr=>by
    obtain rfl:r=0:=by omega
    rw [jd]
    exact nb ni 2 (by omega)
   cases D3:rG (KK P zs) j i with
   | false=>
    have Ar:=uD.put i fQ D3
    rw [D3] at QH
    have Wq:=KS (eD (KK P zs) s j (dS (KK P zs) j i)) i
    obtain ⟨env,s1,cW,df,aQ,eP,dc,aI⟩:=aE (KX (h.n:Int) zs.length h.cs.length j.evl lw k0 k1 k2 k3 k4 r1 r2 h.v1 h.v3 i (dS (KK P zs) j i) j8 stp ((k9 s j i:Nat):Int) (fW s j i) w1 w6 w7 h.evs (h.cs.flatMap bj) (jw (λc=>gE (eD (KK P zs) s j c) i) zs.length) ((gE (eD (KK P zs) s j (dS (KK P zs) j i)) i:Nat):Int))
    have Yw: ∀ r:Nat,r<1->(jw (λc=>gE (eD (KK P zs) s j c) i) zs.length)[0+((dS (KK P zs) j i:Nat):Int).toNat*1+r]?=[AV.aa .i64 ((gE (eD (KK P zs) s j (dS (KK P zs) j i)) i:Nat):Int)][r]?:=λr hr=>by
     obtain rfl:r=0:=by omega
     rw [show 0+((dS (KK P zs) j i:Nat):Int).toNat*1+0=dS (KK P zs) j i by simp]
     exact lK Ar
    have eg:s1.pre:=by
     rw [aQ]
     repeat' apply And.intro
     all_goals first
      | exact True.intro
      | exact gm
      | exact QH
      | exact Yw
      | omega
      | rfl
      | (rw [pD];simp;exact Ar)
      | (simp [aq,LR,gL]<;>omega)
    have LI:H6 h (jw (λc=>gE (eD (KK P zs) s j c) i) zs.length) (jw (λc=>gE (dn (KK P zs) s j c) i) zs.length) 22=some (.row true (jw (λc=>gE (eD (KK P zs) s j c) i) zs.length) 3 none):=rfl
    refine cN ((bE named (cj mixed) (sound named mixed bL 60) (nt:=299) 100000).1 _ _ _ _ _ _ cW) bf (dC bf.ids (ab fJ<|ab xd<|ab rfl<|ab rfl<|ab LI aC)) eg (K:=λa w=>bh prog (bK (P5 13 aB)) Q a w) (λφ1 w1 a1 fD bO=> ?_) _ (λa w h=>h)
    refine ih (i+1) (by omega) a1 w1 ⟨φ1,pE bO df iT (bO.fit.sub λb o hb=> ?_) (bn _)⟩
    have e1:jw (λc=>gE (eD (KK P zs) s j c) (i+1)) zs.length=(jw (λc=>gE (eD (KK P zs) s j c) i) zs.length).set (0+((dS (KK P zs) j i:Nat):Int).toNat*1) (.aa .i64 (i64.wrap (((gE (eD (KK P zs) s j (dS (KK P zs) j i)) i:Nat):Int)+1))):=by
     rw [show 0+((dS (KK P zs) j i:Nat):Int).toNat*1=dS (KK P zs) j i by simp]
     refine (DR Ar ?_ λd hd=> ?_).symm
     ·show _=((gE (eD (KK P zs) s j (dS (KK P zs) j i)) (i+1):Nat):Int)
      rw [hp,if_pos (Jb7.2 ⟨gL,D3,rfl⟩),wrap64 (by omega) (by omega)]
      omega
     ·show gE (eD (KK P zs) s j d) (i+1)=gE (eD (KK P zs) s j d) i
      rw [hp,if_neg (λhh=>hd (Jb7.1 hh).2.2.symm)];rfl
    have e2:(λc=>gE (dn (KK P zs) s j c) (i+1))=λc=>gE (dn (KK P zs) s j c) i:=by
     funext d
     rw [ht,if_neg (λhh=>by have:=(gl.1 hh).2.1;rw [D3] at this;cases this)];rfl
    rcases mN hb with ⟨rfl,rfl⟩ | ⟨rfl,rfl⟩ | ⟨rfl,rfl⟩ | ⟨rfl,rfl⟩ | ⟨rfl,rfl⟩ | ⟨rfl,rfl⟩
    ·exact bY dc (by omega) (by simp)
    ·exact bY dc (by omega) (by simp)
    ·exact bY dc (by omega) (by simp)
    ·exact bY dc (by omega) (by simp)
    ·rw [e1]
     exact (bR dc (by omega) (by simp)).trans (ah aI 0 rfl rfl)
    ·rw [e2]
     exact bY dc (by omega) (by simp)
   | true=>
    have Ar:=uD.take i fQ gL D3
    rw [D3] at QH
    have Wq:=KS (dn (KK P zs) s j (fW s j i)) i
    have hvw:(i64.wrap ((fW s j i:Nat):Int)).toNat=fW s j i:=by rw [wrap64 (by omega) (by omega)];simp
    have ZT:i64.wrap ((fW s j i:Nat):Int)=((fW s j i:Nat):Int):=wrap64 (by omega) (by omega)
    have huw:u64.wrap (zs.length:Int)=(zs.length:Nat):=PG (by omega) (by omega)
    obtain ⟨env,s1,cW,df,aQ,eP,dc,aI⟩:=aE (FD (h.n:Int) zs.length h.cs.length j.evl lw k0 k1 k2 k3 k4 r1 r2 h.v1 h.v3 i (dS (KK P zs) j i) j8 stp ((k9 s j i:Nat):Int) (fW s j i) w1 w6 w7 h.evs (h.cs.flatMap bj) (jw (λc=>gE (dn (KK P zs) s j c) i) zs.length) ((gE (dn (KK P zs) s j (fW s j i)) i:Nat):Int))
    have Yw: ∀ r:Nat,r<1->(jw (λc=>gE (dn (KK P zs) s j c) i) zs.length)[0+(i64.wrap ((fW s j i:Nat):Int)).toNat*1+r]?=[AV.aa .i64 ((gE (dn (KK P zs) s j (fW s j i)) i:Nat):Int)][r]?:=λr hr=>by
     obtain rfl:r=0:=by omega
     rw [hvw,show 0+fW s j i*1+0=fW s j i by omega]
     exact lK Ar
    have eg:s1.pre:=by
     rw [aQ]
     repeat' apply And.intro
     all_goals first
      | exact True.intro
      | exact gm
      | exact QH
      | exact Yw
      | omega
      | rfl
      | (rw [ZT];omega)
      | (rw [pD,hvw];omega)
      | (rw [huw];simp [aq]<;>omega)
      | (simp [aq,LR,gL]<;>omega)
    have K6:H6 h (jw (λc=>gE (eD (KK P zs) s j c) i) zs.length) (jw (λc=>gE (dn (KK P zs) s j c) i) zs.length) 23=some (.row true (jw (λc=>gE (dn (KK P zs) s j c) i) zs.length) 3 none):=rfl
    refine cN ((bE named (cj mixed) (sound named mixed bL 60) (nt:=299) 100000).1 _ _ _ _ _ _ cW) bf (dC bf.ids (ab fJ<|ab xd<|ab rfl<|ab rfl<|ab K6 aC)) eg (K:=λa w=>bh prog (bK (P5 13 aB)) Q a w) (λφ1 w1 a1 fD bO=> ?_) _ (λa w h=>h)
    refine ih (i+1) (by omega) a1 w1 ⟨φ1,pE bO df iT (bO.fit.sub λb o hb=> ?_) (bn _)⟩
    have e1:jw (λc=>gE (dn (KK P zs) s j c) (i+1)) zs.length=(jw (λc=>gE (dn (KK P zs) s j c) i) zs.length).set (0+(i64.wrap ((fW s j i:Nat):Int)).toNat*1) (.aa .i64 (i64.wrap (((gE (dn (KK P zs) s j (fW s j i)) i:Nat):Int)+1))):=by
     rw [hvw,show 0+fW s j i*1=fW s j i by omega]
     refine (DR Ar ?_ λd hd=> ?_).symm
     ·show _=((gE (dn (KK P zs) s j (fW s j i)) (i+1):Nat):Int)
      rw [ht,if_pos (gl.2 ⟨gL,D3,rfl⟩),wrap64 (by omega) (by omega)]
      omega
     ·show gE (dn (KK P zs) s j d) (i+1)=gE (dn (KK P zs) s j d) i
      rw [ht,if_neg (λhh=>hd (gl.1 hh).2.2.symm)];rfl
    have e2:(λc=>gE (eD (KK P zs) s j c) (i+1))=λc=>gE (eD (KK P zs) s j c) i:=by
     funext d
     rw [hp,if_neg (λhh=>by have:=(Jb7.1 hh).2.1;rw [D3] at this;cases this)];rfl
    rcases mN hb with ⟨rfl,rfl⟩ | ⟨rfl,rfl⟩ | ⟨rfl,rfl⟩ | ⟨rfl,rfl⟩ | ⟨rfl,rfl⟩ | ⟨rfl,rfl⟩
    ·exact bY dc (by omega) (by simp)
    ·exact bY dc (by omega) (by simp)
    ·exact bY dc (by omega) (by simp)
    ·exact bY dc (by omega) (by simp)
    ·rw [e2]
     exact bY dc (by omega) (by simp)
    ·rw [e1]
     exact (bR dc (by omega) (by simp)).trans (ah aI 0 rfl rfl)
  ·obtain ⟨env,s1,cW,df,aQ,eP,dc,_⟩:=aE (KW (h.n:Int) zs.length h.cs.length j.evl lw k0 k1 k2 k3 k4 r1 r2 h.v1 h.v3 i (dS (KK P zs) j i) j8 stp ((k9 s j i:Nat):Int) (fW s j i) w1 w6 w7 h.evs (h.cs.flatMap bj))
   have eg:s1.pre:=by
    rw [aQ]
    repeat' apply And.intro
    all_goals first
     | exact True.intro
     | exact gm
     | omega
     | rfl
     | (simp [aq,LR,gL]<;>omega)
   refine cN ((bE named (cj mixed) (sound named mixed bL 60) (nt:=299) 100000).1 _ _ _ _ _ _ cW) bf (dC bf.ids (ab fJ<|ab xd<|ab rfl<|ab rfl aC)) eg (K:=λa w=>bh prog (bK (P5 13 aB)) Q a w) (λφ1 w1 a1 fD bO=> ?_) _ (λa w h=>h)
   refine ih (i+1) (by omega) a1 w1 ⟨φ1,pE bO df iT (bO.fit.sub λb o hb=> ?_) (bn _)⟩
   have e1:(λc=>gE (eD (KK P zs) s j c) (i+1))=λc=>gE (eD (KK P zs) s j c) i:=by
    funext d
    rw [hp,if_neg (λhh=>gL (Jb7.1 hh).1)];rfl
   have e2:(λc=>gE (dn (KK P zs) s j c) (i+1))=λc=>gE (dn (KK P zs) s j c) i:=by
    funext d
    rw [ht,if_neg (λhh=>gL (gl.1 hh).1)];rfl
   rw [e1,e2] at hb
   have dA:b<96∧b≠96:=by
    have:=(bf.ids b o hb).1;omega
   exact (bY dc (by omega) (by simp;omega)).trans hb
end
end
section
variable {κ:Ev.dE}
def Xs (own i:Nat):Env:=[(17,.aL 22 0 own own),(18,.aL 23 0 own own),(277,.aa .i64 own),(278,.aa .i64 i)]
theorem Ae {H H':Nat->Option ak} {nx own i:Nat} {k:Int} {env:Env} {φ:bo} {w:World} {a:Act} (bf:At κ H 299 nx env φ w a) (df:[17,18,277,278].map env.look=[some (.aL 22 0 own own),some (.aL 23 0 own own),some (.aa .i64 (own:Nat)),some (.aa .i64 k)]) (hk:k=i) (bx:cz κ H' φ w) (bn: ∀ c o,H' c=some o->c<96∧o.aD (· < 96)):At κ H' 299 96 (Xs own i) φ w a:=by
 subst hk
 refine bf.Jb4 bx bn ?_
 exact ab ⟨_,ai df 0 rfl rfl,rfl,by show 22<96;omega⟩<|ab ⟨_,ai df 1 rfl rfl,rfl,by show 23<96;omega⟩<|ab ⟨_,ai df 2 rfl rfl,rfl,trivial⟩<|ab ⟨_,ai df 3 rfl rfl,rfl,trivial⟩ aC
theorem Sq {h:Hp} {f g:Nat->Nat} {own:Nat} (ho:own<=1000) (Yy: ∀ c,c<own->f c=g c∧f c<=1) (bn: ∀ c o,H6 h (jw f own) (jw g own) c=some o->c<96∧o.aD (· < 96))
  {Q:Exit->Act->World->Prop} (hQ: ∀ a w φ,At κ (H6 h (jw f own) (jw g own)) 299 96 (Xs own own) φ w a->Q (.exit 12) a w): ∀ (k i:Nat),i+k=own-> ∀ a w φ,At κ (H6 h (jw f own) (jw g own)) 299 96 (Xs own i) φ w a->bh prog (bK (P5 14 aB)) Q a w:=by
 intro k
 induction k with
 | zero=>
  intro i hi a w φ bf
  refine bh.of ?_
  have iS:i=own:=by omega
  subst iS
  obtain ⟨env,s1,cW,df,aQ,eP,dc,_⟩:=aE (KZ i i)
  have eg:s1.pre:=by rw [aQ];exact ⟨True.intro,by simp [aq]⟩
  refine cN ((bE named (cj mixed) (sound named mixed bL 60) (nt:=299) 100000).1 _ _ _ _ _ _ cW) bf bA eg (K:=λa w=>Q (.exit 12) a w) (λφ' w' a' uF fN=> ?_) _ (λa w h=>h)
  exact hQ a' w' φ' (Ae fN df rfl (fN.fit.bB (bV (λc o h=>(bf.ids c o h).1) dc)) bn)
 | succ k ih=>
  intro i hi a w φ bf
  refine bh.of ?_
  have fQ:i<own:=by omega
  obtain ⟨e1,e2⟩:=Yy i fQ
  have iT:i64.wrap ((i:Int)+1)=((i+1:Nat):Int):=by rw [wrap64 (by omega) (by omega)];omega
  have hp: ∀ r:Nat,r<1->(jw f own)[0+(i:Int).toNat*1+r]?=[AV.aa .i64 ((f i:Nat):Int)][r]?:=λr hr=>by
   obtain rfl:r=0:=by omega
   rw [show 0+(i:Int).toNat*1+0=i by simp]
   exact lK fQ
  have ht: ∀ r:Nat,r<1->(jw g own)[0+(i:Int).toNat*1+r]?=[AV.aa .i64 ((g i:Nat):Int)][r]?:=λr hr=>by
   obtain rfl:r=0:=by omega
   rw [show 0+(i:Int).toNat*1+0=i by simp]
   exact lK fQ
  obtain ⟨env,s1,cW,df,aQ,eP,dc,_⟩:=aE (OR own i (jw f own) (jw g own) ((f i:Nat):Int) ((g i:Nat):Int))
  have eg:s1.pre:=by
   rw [aQ]
   repeat' apply And.intro
   all_goals first
    | exact True.intro
    | exact hp
    | exact ht
    | omega
    | rfl
    | (simp [aq]<;>omega)
  refine cN ((bE named (cj mixed) (sound named mixed bL 60) (nt:=299) 100000).1 _ _ _ _ _ _ cW) bf (dC bf.ids (ab rfl<|ab rfl aC)) eg (K:=λa w=>bh prog (bK (P5 14 aB)) Q a w) (λφ1 w1 a1 fD bO=> ?_) _ (λa w h=>h)
  exact ih (i+1) (by omega) a1 w1 φ1 (Ae bO df iT (bO.fit.bB (bV (λc o h=>(bf.ids c o h).1) dc)) bn)
end
section
variable {κ:Ev.dE}
def Ja7 (κ:Ev.dE) (w:World):Prop:=(∀ r,r<κ.mark->w.heap[r]?=κ.yM.heap[r]?)∧κ.mark<=w.heap.size∧w.os=κ.yM.os∧w.output=κ.yM.output
theorem K0 {H:Nat->Option ak} {φ:bo} {w:World} (h:cz κ H φ w):Ja7 κ w:=⟨h.old,h.size,h.env⟩
def PQ (κ:Ev.dE) (e:Ending) (w:World):Prop:=e= .returned (.bool true)∧Ja7 κ w
def B5 (κ : Ev.dE) : Exit -> Act -> World -> Prop := λx a' w' => (x = .normal ∨ x = .ret) ∧ ∃ (H' : Nat -> Option ak) (nx' : Nat) (cm : Env) (φ' : bo) (s s' : St) (vs : List AV) (v : AV), At κ H' 299 nx' cm φ' w' a' ∧
      (∀ c o, s.get c = some o -> ∃ o0, H' c = some o0 ∧ bW φ' φ' o0 o) ∧ dW prog cm Tryz.f5.results.toList s = .ok vs s' ∧ s'.pre ∧ (vs = [v] ∨ (vs.length ≠ 1 ∧ v = .eT vs)) ∧ PQ κ (.returned (Jb1 φ' v)) w'
theorem mO {F:Nat} {c:Code} {s:St} {env:Env} {p:Prop} {nx:Nat} {wr:List Nat} {l:List (Option ak)} {H:Nat->Option ak} {φ:bo} {w:World} {a:Act} (hv:iD prog Tryz.f5.results.toList [] (aP prog (aW prog ba 60) 299 F c env s)=some ([.bool true],p,nx,wr,l)) (hp:p) (bf:At κ H 299 s.next env φ w a)
  (hs: ∀ c o,s.get c=some o->o.aD (· < s.next)∧ ∃ o0,H c=some o0∧bW φ φ o0 o):c.wp prog (B5 κ) a w:=by
 obtain ⟨x,cm,s1,s2,hx,cW,CE,aQ,Yq,_⟩:=iZ hv
 have hP:s2.pre:=by rw [aQ];exact hp
 refine kZ named mixed bL cW bf hs (Yq hP) (λφ' w' a' hφ fN AR=> ?_)
 exact ⟨by rcases hx with rfl | rfl<;>first | exact .inl rfl | exact .inr rfl,_,_,_,φ',s1,s2,_,_,fN,AR,CE,hP,.inl rfl,rfl,K0 fN.fit⟩
theorem t16 {H:Nat->Option ak} {env:Env} {φ:bo} {w:World} {a:Act} (bf:At κ H 299 96 env φ w a):(aT 0 (aT 14 aB)).wp prog (B5 κ) a w:=
 mO Sl True.intro (bf.Jb4 (E:=[]) bf.fit bf.ids aC) bA
section
variable {P:cv} {zs:List Int} {s:Qs} {j:Jq} {h:Hp}
theorem t15 (uD:vv P zs s j) (hz:zs.length<=1000) (he:aR (λ_=>False) h.evs) (Cv:aR (· < 96) h.Ad) {a:Act} {w:World} (h0:Sn κ h (KK P zs) s j zs.length j.evl a w):(aT 14 aB).wp prog (B5 κ) a w:=by
 obtain ⟨φ,bf⟩:=h0
 have bn:=xb (h:=h) he Cv (la (λc=>gE (eD (KK P zs) s j c) j.evl) zs.length) (la (λc=>gE (dn (KK P zs) s j c) j.evl) zs.length)
 have fN:At κ (H6 h (jw (λc=>gE (eD (KK P zs) s j c) j.evl) zs.length) (jw (λc=>gE (dn (KK P zs) s j c) j.evl) zs.length)) 299 96 [(9,.aa .i64 zs.length),(17,.aL 22 0 zs.length zs.length),(18,.aL 23 0 zs.length zs.length)] φ w a:=bf.Jb4 bf.fit bn
  (ab ⟨_,rfl,rfl,trivial⟩<|ab ⟨_,rfl,rfl,by show 22<96;omega⟩<|ab ⟨_,rfl,rfl,by show 23<96;omega⟩ aC)
 refine fh (a:=P5 14 aB) (b:=aT 0 (aT 14 aB)) (by kernel_rfl) ?_
 obtain ⟨cH,s1,de,bt,cb,Jb8,cG,_⟩:=aE (KY zs.length)
 have eg:s1.pre:=by rw [cb];exact True.intro
 refine cN (bX named mixed bL (nt:=299) 0 (P5 14 aB) 100000 _ _ _ _ (by kernel_rfl) de) fN bA eg (λφ1 w1 a1 fD bO=> ?_) _ (λa w h=>h)
 have ld:At κ (H6 h (jw (λc=>gE (eD (KK P zs) s j c) j.evl) zs.length) (jw (λc=>gE (dn (KK P zs) s j c) j.evl) zs.length)) 299 96 (Xs zs.length 0) φ1 w1 a1:=by
  refine bO.Jb4 (bO.fit.bB (bV (λc o h=>(bn c o h).1) cG)) bn ?_
  exact ab ⟨_,ai bt 0 rfl rfl,rfl,by show 22<96;omega⟩<|ab ⟨_,ai bt 1 rfl rfl,rfl,by show 23<96;omega⟩<|ab ⟨_,ai bt 2 rfl rfl,rfl,trivial⟩<|ab ⟨_,ai bt 3 rfl rfl,rfl,trivial⟩ aC
 refine gk (id:=12) (b:= .loop (bK (P5 14 aB))) (by kernel_rfl) ?_
 refine bh.wp (Sq (κ:=κ) hz (λc hc=>uD.same c hc) bn (λa2 w2 φ2 eM=> ?_) zs.length 0 (by omega) a1 w1 φ1 ld)
 exact t16 eM
theorem t14 (uD:vv P zs s j) (hz:zs.length<=1000) (hn:2<=P.n) (fI:vw (KK P zs) s j h.evs) (jd:h.cs=(KK P zs).cs) (he:aR (λ_=>False) h.evs) {lw:Nat} {k0 k1 k2 k3 k4 r1 r2:Int} (kM:h.Ad=[.ae 8 8 0 0 j.evl j.evl,.ae 20 1 0 0 lw lw,.aa .i64 k0,.aa .i64 k1,.aa .i64 k2,.aa .i64 k3,.aa .i64 k4,.aa .i64 r1,.aa .i64 r2])
  {φ:bo} {a:Act} {w:World} (bf:At κ (H6 h (jw (λ_=>0) zs.length) (jw (λ_=>0) zs.length)) 299 96 [(7,.ptr 14 0),(9,.aa .i64 zs.length),(15,.ptr 21 0),(17,.aL 22 0 zs.length zs.length),(18,.aL 23 0 zs.length zs.length)] φ w a):(aT 13 aB).wp prog (B5 κ) a w:=by
 have Cv:aR (· < 96) h.Ad:=by
  rw [kM]
  exact ⟨by show 8<96;omega,by show 20<96;omega,trivial,trivial,trivial,trivial,trivial,trivial,trivial,trivial⟩
 have xd:H6 h (jw (λ_=>0) zs.length) (jw (λ_=>0) zs.length) 21=some (.row false [.ae 8 8 0 0 j.evl j.evl,.ae 20 1 0 0 lw lw,.aa .i64 k0,.aa .i64 k1,.aa .i64 k2,.aa .i64 k3,.aa .i64 k4,.aa .i64 r1,.aa .i64 r2] 34 none):=by
  show some (ak.row false h.Ad 34 none)=_
  rw [kM]
 refine fh (a:=P5 13 aB) (b:=aT 14 aB) (by kernel_rfl) ?_
 obtain ⟨cH,s1,de,bt,cb,Jb8,cG,_⟩:=aE (KU zs.length j.evl lw k0 k1 k2 k3 k4 r1 r2)
 have eg:s1.pre:=by rw [cb];exact True.intro
 refine cN (bX named mixed bL (nt:=299) 0 (P5 13 aB) 100000 _ _ _ _ (by kernel_rfl) de) bf (dC bf.ids (ab xd aC)) eg (λφ1 w1 a1 fD bO=> ?_) _ (λa w h=>h)
 refine gk (id:=10) (b:= .loop (bK (P5 13 aB))) (by kernel_rfl) ?_
 refine bh.wp (So (κ:=κ) uD hz hn fI jd he kM (λa2 w2 h2=> ?_) j.evl 0 (by omega) a1 w1 ⟨φ1,bO.Jb4 (bO.fit.bB (bV (λc o h=>(bf.ids c o h).1) cG)) bf.ids (ab ⟨_,ai bt 0 rfl rfl,rfl,by show 14<96;omega⟩<|ab ⟨_,ai bt 1 rfl rfl,rfl,trivial⟩<|ab ⟨_,ai bt 2 rfl rfl,rfl,by show 21<96;omega⟩<|ab ⟨_,ai bt 3 rfl rfl,rfl,by show 22<96;omega⟩<|ab ⟨_,ai bt 4 rfl rfl,rfl,by show 23<96;omega⟩<|ab ⟨_,ai bt 5 rfl rfl,rfl,trivial⟩<|ab ⟨_,ai bt 6 rfl rfl,rfl,trivial⟩ aC)⟩)
 exact t15 uD hz he Cv h2
def DS (h:Hp) (b:Nat):Option ak:=if b=22∨b=23 then none else H6 h [] [] b
theorem K1 {b:Nat} {o:ak} (hb:DS h b=some o) (puts takes:List AV):H6 h puts takes b=some o∧b≠22∧b≠23:=by
 unfold DS at hb
 split at hb
 ·cases hb
 ·rename_i bq
  refine ⟨?_,by omega,by omega⟩
  rw [<- hb]
  unfold H6
  split
  ·rfl
  split
  ·rfl
  split
  ·rfl
  split
  ·rfl
  rw [if_neg (by omega),if_neg (by omega),if_neg (by omega),if_neg (by omega)]
theorem t13 (uD:vv P zs s j) (hz:zs.length<=1000) (hn:2<=P.n) (fI:vw (KK P zs) s j h.evs) (jd:h.cs=(KK P zs).cs) (he:aR (λ_=>False) h.evs) {lw:Nat} {k0 k1 k2 k3 k4 r1 r2:Int} (kM:h.Ad=[.ae 8 8 0 0 j.evl j.evl,.ae 20 1 0 0 lw lw,.aa .i64 k0,.aa .i64 k1,.aa .i64 k2,.aa .i64 k3,.aa .i64 k4,.aa .i64 r1,.aa .i64 r2])
  {φ:bo} {a:Act} {w:World} (bf:At κ (DS h) 299 96 [(7,.ptr 14 0),(9,.aa .i64 zs.length),(15,.ptr 21 0)] φ w a):(aT 12 aB).wp prog (B5 κ) a w:=by
 have Cv:aR (· < 96) h.Ad:=by
  rw [kM]
  exact ⟨by show 8<96;omega,by show 20<96;omega,trivial,trivial,trivial,trivial,trivial,trivial,trivial,trivial⟩
 have bn:=xb (h:=h) he Cv (la (λ_=>0) zs.length) (la (λ_=>0) zs.length)
 obtain ⟨cH,s1,de,bt,cb,Jb8,cG,dT⟩:=aE (Vm zs.length)
 have eg:s1.pre:=by
  rw [cb]
  have e1:room=140737488355328:=rfl
  have e2:=gy
  refine ⟨⟨True.intro,by omega,rfl,?_,?_⟩,by omega,rfl,?_,?_⟩<;>simp only [Int.toNat_natCast]<;>omega
 refine cN (bX named mixed bL (nt:=299) 0 (aT 12 aB) 100000 _ _ _ _ (by kernel_rfl) de) bf bA eg (K:=λa w=>(aT 13 aB).wp prog (B5 κ) a w) (λφ1 w1 a1 fD bO=> ?_) _ (λa w h=>h)
 let φ2:bo:=λb=>φ1 (if b=22 then 96 else if b=23 then 97 else b)
 have nK: ∀ b,b≠22->b≠23->φ2 b=φ1 b:=λb h1 h2=>by show φ1 (if b=22 then 96 else if b=23 then 97 else b)=φ1 b;rw [if_neg h1,if_neg h2]
 have zero: ∀ φ φ':bo,az φ (List.replicate ((zs.length:Int)).toNat (AV.int .i64 0))=az φ' (jw (λ_=>0) zs.length):=λφ φ'=>by
  rw [dq,dq,Int.toNat_natCast]
  unfold jw
  rw [List.map_replicate,List.map_map]
  exact (List.eq_replicate_iff.2 ⟨by simp,λb hb=>by obtain ⟨c,_,rfl⟩:=List.mem_map.1 hb;rfl⟩).symm
 have TB:after (DS h) s1 96=s1.get 96:=bR cG (by omega) (by simp)
 have VA:after (DS h) s1 97=s1.get 97:=bR cG (by omega) (by simp)
 have tQ:cz κ (H6 h (jw (λ_=>0) zs.length) (jw (λ_=>0) zs.length)) φ2 w1:=by
  refine bO.fit.iQ (λb=>if b=22 then 96 else if b=23 then 97 else b) (λb d x y hb hd he=> ?_) (λb o' hb=> ?_)
  ·have h1:=(bn b x hb).1
   have h2:=(bn d y hd).1
   have ny:(if b=22 then 96 else if b=23 then 97 else b)=(if d=22 then 96 else if d=23 then 97 else d):=he
   repeat' split at ny
   all_goals omega
  ·have bB:b<96->b≠22->b≠23->o'.aD (λi=>i≠22∧i≠23)-> ∃ o,after (DS h) s1 (if b=22 then 96 else if b=23 then 97 else b)=some o∧bW φ1 φ2 o o':=λdA n22 n23 cC=>by
    rw [if_neg n22,if_neg n23,bY cG (by omega) (by simp;omega)]
    refine ⟨o',?_,bW.jt cC λi hi=>nK i hi.1 hi.2⟩
    unfold DS
    rw [if_neg (by omega),<- hb]
    unfold H6
    split
    ·rfl
    split
    ·rfl
    split
    ·rfl
    split
    ·rfl
    rfl
   rcases mN hb with ⟨rfl,rfl⟩ | ⟨rfl,rfl⟩ | ⟨rfl,rfl⟩ | ⟨rfl,rfl⟩ | ⟨rfl,rfl⟩ | ⟨rfl,rfl⟩
   ·exact bB (by omega) (by omega) (by omega) (bJ (cE h.cs))
   ·exact bB (by omega) (by omega) (by omega) (aR.mono (λ_ h=>h.elim) he)
   ·exact bB (by omega) (by omega) (by omega) ⟨trivial,trivial,⟨by omega,by omega⟩,trivial,trivial⟩
   ·refine bB (by omega) (by omega) (by omega) ?_
    show aR _ h.Ad
    rw [kM]
    exact ⟨⟨by omega,by omega⟩,⟨by omega,by omega⟩,trivial,trivial,trivial,trivial,trivial,trivial,trivial,trivial⟩
   ·rw [if_pos rfl,TB,ah dT 0 rfl rfl]
    exact ⟨_,rfl,zero _ _,rfl,rfl⟩
   ·rw [if_neg (by omega),if_pos rfl,VA,ah dT 1 rfl rfl]
    exact ⟨_,rfl,zero _ _,rfl,rfl⟩
 refine t14 uD hz hn fI jd he kM (φ:=φ2) (bO.Jb4 tQ bn ?_)
 exact ab ⟨_,ai bt 0 rfl rfl,by simp only [Jb1];rw [nK 14 (by omega) (by omega)],by show 14<96;omega⟩<|ab ⟨_,ai bt 1 rfl rfl,rfl,trivial⟩<|ab ⟨_,ai bt 2 rfl rfl,by simp only [Jb1];rw [nK 21 (by omega) (by omega)],by show 21<96;omega⟩<|ab ⟨_,ai bt 3 rfl rfl,by simp only [Jb1,Int.toNat_natCast];rfl,by show 22<96;omega⟩<|ab ⟨_,ai bt 4 rfl rfl,by simp only [Jb1,Int.toNat_natCast];rfl,by show 23<96;omega⟩ aC
theorem t12 (uD:vv P zs s j) (hz:zs.length<=1000) (hn:2<=P.n) (fI:vw (KK P zs) s j h.evs) (jd:h.cs=(KK P zs).cs) (he:aR (λ_=>False) h.evs) {lw:Nat} {k0 k1 k2 k3 k4 r1 r2:Int} (kM:h.Ad=[.ae 8 8 0 0 j.evl j.evl,.ae 20 1 0 0 lw lw,.aa .i64 k0,.aa .i64 k1,.aa .i64 k2,.aa .i64 k3,.aa .i64 k4,.aa .i64 r1,.aa .i64 r2])
  {φ:bo} {a:Act} {w:World} (bf:At κ (DS h) 299 96 [(7,.ptr 14 0),(9,.aa .i64 zs.length),(15,.ptr 21 0),(16,.int .i64 0)] φ w a):(aT 11 aB).wp prog (B5 κ) a w:=by
 have fJ:DS h 14=some (.row false [.aa .i64 (h.n:Nat),.cQ h.v1,.ae 7 6 0 0 h.cs.length h.cs.length,.cQ h.v3] 26 none):=rfl
 have xd:DS h 21=some (.row false [.ae 8 8 0 0 j.evl j.evl,.ae 20 1 0 0 lw lw,.aa .i64 k0,.aa .i64 k1,.aa .i64 k2,.aa .i64 k3,.aa .i64 k4,.aa .i64 r1,.aa .i64 r2] 34 none):=by
  show some (ak.row false h.Ad 34 none)=_
  rw [kM]
 have jV:h.cs.length=2*zs.length+1:=by rw [jd];exact iJ
 have dP:=uD.len
 obtain ⟨cH,s1,de,bt,cb,Jb8,cG,_⟩:=aE (Vl (h.n:Int) zs.length h.cs.length j.evl lw k0 k1 k2 k3 k4 r1 r2 h.v1 h.v3)
 have eg:s1.pre:=by rw [cb];exact ⟨True.intro,by simp [aq]<;>omega⟩
 refine cN (bX named mixed bL (nt:=299) 0 (aT 11 aB) 100000 _ _ _ _ (by kernel_rfl) de) bf (dC bf.ids (ab fJ<|ab xd aC)) eg (K:=λa w=>(aT 12 aB).wp prog (B5 κ) a w) (λφ1 w1 a1 fD bO=> ?_) _ (λa w h=>h)
 refine t13 uD hz hn fI jd he kM (φ:=φ1) (bO.Jb4 (bO.fit.bB (bV (λc o h=>(bf.ids c o h).1) cG)) bf.ids ?_)
 exact ab ⟨_,ai bt 0 rfl rfl,rfl,by show 14<96;omega⟩<|ab ⟨_,ai bt 1 rfl rfl,rfl,trivial⟩<|ab ⟨_,ai bt 2 rfl rfl,rfl,by show 21<96;omega⟩ aC
end
end
end Qk
end Go.Proofs.YtpkfimijnkkbjaaGreat
