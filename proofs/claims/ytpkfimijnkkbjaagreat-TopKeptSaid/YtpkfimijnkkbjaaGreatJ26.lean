/- TopKept's third loop: the picks that are asked for. -/
import Derived.Test.YtpkfimijnkkbjaaGreatJ25
import Derived.Deep.Draws
import Derived.Laws.AppendOwnNone
set_option linter.unusedVariables false
namespace Go.Proofs.YtpkfimijnkkbjaaGreat
namespace Qk
open Ev Ct
open Go.IntKind (i64 u64)
open Go.Proofs.Tryz (prog)
section
variable {κ:Ev.dE}
def mJ (ps:List Int):ak:= .row true (ps.map λx=> .aa .i64 x) 3 (some 1)
theorem jT (ps:List Int):(mJ ps).aD λ_=>False:=by
 show aR _ (ps.map λx=>AV.aa .i64 x)
 rw [cS]
 intro v hv
 obtain ⟨x,_,rfl⟩:=List.mem_map.1 hv
 trivial
def fi (ps:List Int):Option ak:=if ps=[] then none else some (mJ ps)
def ku (ps:List Int):AV:=if ps=[] then .au else .ae 13 1 0 0 ps.length ps.length
theorem ig {ps:List Int}: ∀ o,fi ps=some o->o.aD λ_=>False:=λo h=>by
 unfold fi at h
 split at h
 ·cases h
 ·obtain rfl:=Option.some.inj h;exact jT ps
theorem ng {ps:List Int} {D:Nat->Prop} (h:D 13):(ku ps).aD D:=by
 unfold ku;split
 ·trivial
 ·exact h
def pf (q:Int) (zs:List Int) (i:Nat):List Int:=(zs.take i).filter λx=>decide (x<q)
theorem OM {q:Int} {zs:List Int} {i:Nat} (h:i<zs.length):pf q zs (i+1)=pf q zs i++if nth zs i<q then [nth zs i] else []:=by
 unfold pf
 rw [List.take_add_one,List.getElem?_eq_getElem h,List.filter_append]
 congr 1
 have:zs[i]=nth zs i:=by simp [nth,List.getElem?_eq_getElem h]
 rw [this]
 simp only [Option.toList,List.filter_cons,List.filter_nil]
 by_cases e:nth zs i<q
 ·simp [e]
 ·simp [e]
theorem Ce (q:Int) (zs:List Int) (i:Nat):(pf q zs i).length<=zs.length:=by
 unfold pf
 exact Nat.le_trans (List.length_filter_le _ _) (by simp;omega)
def Ya (pk:AV) (own pl i:Nat):Env:=[(2,pk),(3,.ptr 12 0),(7,.ptr 14 0),(9,.aa .i64 own),(117,.aa .i64 pl),(118,.aa .i64 i)]
def Fw (κ:Ev.dE) (P:cv) (cs:List (Nat×Bool×Nat)) (pk:AV) (own:Nat) (zs:List Int) (φ0:bo) (i:Nat) (a:Act) (w:World):Prop:=
 ∃ φ:bo,At κ (H5 P cs (ku (pf (P.n-1:Nat) zs i)) (fi (pf (P.n-1:Nat) zs i))) 299 96 (Ya pk own zs.length i) φ w a∧φ 41=φ0 41
theorem DN (pk:AV) (own pl i:Nat):b6 [2,3,7,9,117,118] [] (aP prog (aW prog ba 60) 299 100000 (bK (P5 5 aB)) (Ya pk own pl i) ⟨mk [],96,0,0,True,[.br false]⟩)=
  some (.exit 4,[some pk,some (.ptr 12 0),some (.ptr 14 0),some (.aa .i64 (own:Nat)),some (.aa .i64 (pl:Nat)),some (.aa .i64 (i:Nat))],True∧aq .lss i pl=false,96,[],[]):=by kernel_rfl
section
variable {P:cv} {pk:AV} {cs:List (Nat×Bool×Nat)} {zs:List Int}
theorem pA {H H':Nat->Option ak} {nx i:Nat} {k:Int} {env:Env} {φ φ':bo} {w:World} {a:Act} {own pl:Nat} (bf:At κ H 299 nx env φ w a) (df:[2,3,7,9,117,118].map env.look=[some pk,some (.ptr 12 0),some (.ptr 14 0),some (.aa .i64 (own:Nat)),some (.aa .i64 (pl:Nat)),some (.aa .i64 k)]) (hk:k=i) (bx:cz κ H' φ' w) (bn: ∀ c o,H' c=some o->c<96∧o.aD (· < 96))
  (hp:pk.aD (· < 96)) (cp:Jb1 φ pk=Jb1 φ' pk) (js:φ' 12=φ 12) (fJ:φ' 14=φ 14):At κ H' 299 96 (Ya pk own pl i) φ' w a:=by
 subst hk
 refine bf.Jb4 bx bn ?_
 exact ab ⟨_,ai df 0 rfl rfl,cp,hp⟩<|ab ⟨_,ai df 1 rfl rfl,by simp only [Jb1];rw [js],by show 12<96;omega⟩<|ab ⟨_,ai df 2 rfl rfl,by simp only [Jb1];rw [fJ],by show 14<96;omega⟩<|ab ⟨_,ai df 3 rfl rfl,rfl,trivial⟩<|ab ⟨_,ai df 4 rfl rfl,rfl,trivial⟩<|ab ⟨_,ai df 5 rfl rfl,rfl,trivial⟩ aC
theorem Sa (hP:2<=P.n∧P.n<=4) (bq:cs≠[]) (hz:zs.length<=2000) {own off cap:Nat} {φ0:bo}
  {l:List AV} {t:TypeId} (hl:aR (λ_=>False) l) (gm: ∀ i,i<zs.length->l[off+i]?=some (.aa .i64 (nth zs i))) (rz: ∀ (φ:bo) (H:Nat->Option ak) (ψ:bo) (w:World),cz κ H ψ w->φ 41=φ0 41->Xr κ (L6 41 l t) φ w)
  {Q:Exit->Act->World->Prop} (hQ: ∀ a w,Fw κ P cs (.aL 41 off zs.length cap) own zs φ0 zs.length a w->Q (.exit 4) a w): ∀ (k i:Nat),i+k=zs.length-> ∀ a w,Fw κ P cs (.aL 41 off zs.length cap) own zs φ0 i a w->bh prog (bK (P5 5 aB)) Q a w:=by
 have bn: ∀ i,∀ c o,H5 P cs (ku (pf (P.n-1:Nat) zs i)) (fi (pf (P.n-1:Nat) zs i)) c=some o->c<96∧o.aD (· < 96):=λi=>eL (ng (by omega)) ig
 have nL:(AV.aL 41 off zs.length cap).aD (· < 96):=by show 41<96;omega
 intro k
 induction k with
 | zero=>
  rintro i hi a w ⟨φ,bf,rA⟩
  refine bh.of ?_
  have iS:i=zs.length:=by omega
  subst iS
  obtain ⟨env,s,cW,df,aQ,eP,dc,_⟩:=aE (DN (.aL 41 off zs.length cap) own zs.length zs.length)
  have eg:s.pre:=by rw [aQ];exact ⟨True.intro,by simp [aq]⟩
  refine cN ((bE named (cj mixed) (sound named mixed bL 60) (nt:=299) 100000).1 _ _ _ _ _ _ cW) bf bA eg (K:=λa w=>Q (.exit 4) a w) (λφ' w' a' uF fN=> ?_) _ (λa w h=>h)
  exact hQ a' w' ⟨φ',pA fN df rfl (fN.fit.bB (bV (λc o h=>(bf.ids c o h).1) dc)) (bn _) nL rfl rfl rfl,(uF 41 (by show 41<96;omega)).trans rA⟩
 | succ k ih=>
  rintro i hi a w ⟨φ,bf,rA⟩
  refine bh.of ?_
  have fQ:i<zs.length:=by omega
  have hx: ∀ r:Nat,r<1->l[off+(i:Int).toNat*1+r]?=[AV.aa .i64 (nth zs i)][r]?:=λr hr=>by
   obtain rfl:r=0:=by omega
   rw [show off+(i:Int).toNat*1+0=off+i by simp]
   exact gm i fQ
  have iT:i64.wrap ((i:Int)+1)=((i+1:Nat):Int):=by rw [wrap64 (by omega) (by omega)];omega
  have hr:=rz φ _ φ w bf.fit rA
  have jq:=OM (q:=((P.n-1:Nat):Int)) fQ
  have P3:=Ce ((P.n-1:Nat):Int) zs i
  generalize vD:pf ((P.n-1:Nat):Int) zs i=ps at*
  have js:H5 P cs (ku ps) (fi ps) 12=some (.row false [.aa .i64 ((P.n-1:Nat):Int),.aa .i64 (P.k:Nat),.aa .i64 (P.att:Nat)] 52 none):=rfl
  have LA:F6 (H5 P cs (ku ps) (fi ps)) (L6 41 l t) 41=some (.row true l t (some 0)):=rfl
  have F3:(ak.row true l t (some 0)).aD (· < 96):=aR.mono (λ_ h=>h.elim) hl
  have jV:AL cs= .ae 7 6 0 0 cs.length cs.length:=if_neg bq
  by_cases dA:nth zs i<((P.n-1:Nat):Int)
  ·rw [if_pos dA] at jq
   have fin: ∀ (φ1:bo) (w1:World) (a1:Act) (s:St) (env:Env) (D5:ak) (PV:AV) (y:Bool),(∀ b,b<96->φ1 b=φ b)->At κ (after (H5 P cs (ku ps) (fi ps)) s) 299 s.next env φ1 w1 a1->[2,3,7,9,117,118].map env.look=[some (.aL 41 off zs.length cap),some (.ptr 12 0),some (.ptr 14 0),some (.aa .i64 (own:Nat)),some (.aa .i64 (zs.length:Nat)),some (.aa .i64 (i64.wrap ((i:Int)+1)))]->
     (∀ b,b<96->b≠13->b≠14->after (H5 P cs (ku ps) (fi ps)) s b=H5 P cs (ku ps) (fi ps) b)->after (H5 P cs (ku ps) (fi ps)) s 97=some D5->after (H5 P cs (ku ps) (fi ps)) s 14=some (.row y [.aa .i64 (P.n:Nat),.slice 1 0 1 1,.ae 7 6 0 0 cs.length cs.length,PV] 26 none)->
     (∀ φ φ':bo,bW φ φ' D5 (mJ (ps++[nth zs i])))->(∀ φ:bo,Jb1 φ PV=Jb1 φ (.ae 97 1 0 0 (ps.length+1) (ps.length+1)))->bh prog (bK (P5 5 aB)) Q a1 w1:=λφ1 w1 a1 s env D5 PV y fD bO df dc AO fJ tT hPV=>by
    have V9:ps++[nth zs i]≠[]:=by simp
    have bx:=wX (cs':=cs) (pv':=ku (ps++[nth zs i])) (own':=fi (ps++[nth zs i])) (.inr rfl) ig dc AO fJ (λo' Mk=>by
      rcases iI Mk with ⟨h,_⟩ | ⟨h,_⟩ | ⟨h,_⟩ | ⟨_,h⟩ | ⟨h,_⟩
      ·omega
      ·omega
      ·omega
      ·unfold fi at h
       rw [if_neg V9] at h
       obtain rfl:=Option.some.inj h
       exact tT _ _
      ·omega) (λb nO fJ=>by
      unfold H5
      rw [if_neg nO,if_neg nO,if_neg fJ,if_neg fJ]) (by
      refine ⟨?_,rfl,rfl⟩
      rw [jV]
      unfold ku
      rw [if_neg V9,List.length_append]
      have e1:Jb1 φ1 PV=Jb1 (λb=>φ1 (if b=13 then 97 else b)) (.ae 13 1 0 0 (ps.length+[nth zs i].length) (ps.length+[nth zs i].length)):=by rw [hPV];exact cI rfl
      simp only [az]
      rw [e1]
      rfl) bO.fit
    refine ih (i+1) (by omega) a1 w1 ⟨λb=>φ1 (if b=13 then 97 else b),?_,?_⟩
    ·rw [jq]
     refine pA bO df iT bx ?_ nL (by simp only [Jb1];rfl) rfl rfl
     rw [<- jq];exact bn _
    ·show φ1 41=φ0 41;rw [fD 41 (by omega),rA]
   by_cases h0:ps=[]
   ·have fJ:H5 P cs (ku ps) (fi ps) 14=some (.row false [.aa .i64 (P.n:Nat),.slice 1 0 1 1,.ae 7 6 0 0 cs.length cs.length,.au] 26 none):=by
     show some (db P _ _)=_
     unfold db ku
     rw [jV,if_pos h0]
    obtain ⟨env,s,cW,df,aQ,eP,dc,aI⟩:=aE (Cd (P.n:Int) t ((P.n-1:Nat):Int) (P.k:Int) (P.att:Int) zs.length off cap i (nth zs i) l own cs.length)
    have eg:s.pre:=by
     rw [aQ]
     exact ⟨⟨⟨⟨⟨⟨⟨True.intro,by simp [aq]<;>omega⟩,by omega,by omega⟩,rfl,hx⟩,by simp [aq]<;>omega⟩,by omega,by omega⟩,rfl,hx⟩,rfl⟩
    refine tF ((bE named (cj mixed) (sound named mixed bL 60) (nt:=299) 100000).1 _ _ _ _ _ _ cW) bf hr (tH (by omega) hl dc (by simp)) (zZ (ab ⟨iH js,trivial,trivial,trivial,trivial⟩<|ab ⟨iH fJ,trivial,by show 1<96;omega,by show 7<96;omega,trivial,trivial⟩<|ab ⟨LA,F3⟩ aC)) eg (K:=λa w=>bh prog (bK (P5 5 aB)) Q a w) (λφ1 w1 a1 fD bO=> ?_) _ (λa w h=>h)
    refine fin φ1 w1 a1 s env _ (.aF 97 1 0 0 1 1) false fD bO df (λb hb nO fJ=>bY dc (by omega) (by simp;omega)) ((bR dc (by omega) (by simp)).trans (ah aI 2 rfl rfl)) ((bR dc (by omega) (by simp)).trans (ah aI 0 rfl rfl)) (λφ φ'=>⟨?_,rfl,rfl⟩) (λφ=>by rw [h0];exact iE rfl)
    rw [h0]
    rfl
   ·have fJ:H5 P cs (ku ps) (fi ps) 14=some (.row false [.aa .i64 (P.n:Nat),.slice 1 0 1 1,.ae 7 6 0 0 cs.length cs.length,.ae 13 1 0 0 ps.length ps.length] 26 none):=by
     show some (db P _ _)=_
     unfold db ku
     rw [jV,if_neg h0]
    have nO:H5 P cs (ku ps) (fi ps) 13=some (.row true (ps.map λx=> .aa .i64 x) 3 (some 1)):=by
     show fi ps=_
     unfold fi
     rw [if_neg h0];rfl
    obtain ⟨env,s,cW,df,aQ,eP,dc,aI⟩:=aE (Ft (P.n:Int) t ((P.n-1:Nat):Int) (P.k:Int) (P.att:Int) zs.length off cap i (nth zs i) l (ps.map λx=> .aa .i64 x) own cs.length ps.length)
    have eg:s.pre:=by
     rw [aQ]
     exact ⟨⟨⟨⟨⟨⟨⟨⟨True.intro,by simp [aq]<;>omega⟩,by omega,by omega⟩,rfl,hx⟩,by simp [aq]<;>omega⟩,by omega,by omega⟩,rfl,hx⟩,rfl,by simp,by rw [kG];omega,by rw [gy];omega⟩,rfl⟩
    refine tF ((bE named (cj mixed) (sound named mixed bL 60) (nt:=299) 100000).1 _ _ _ _ _ _ cW) bf hr (tH (by omega) hl dc (by simp)) (zZ (ab ⟨iH js,trivial,trivial,trivial,trivial⟩<|ab ⟨iH fJ,trivial,by show 1<96;omega,by show 7<96;omega,by show 13<96;omega,trivial⟩<|ab ⟨iH nO,bJ (jT ps)⟩<|ab ⟨LA,F3⟩ aC)) eg (K:=λa w=>bh prog (bK (P5 5 aB)) Q a w) (λφ1 w1 a1 fD bO=> ?_) _ (λa w h=>h)
    refine fin φ1 w1 a1 s env _ (.ae 97 1 0 0 (ps.length+1) (ps.length+1)) false fD bO df (λb hb nO fJ=>bY dc (by omega) (by simp;omega)) ((bR dc (by omega) (by simp)).trans (ah aI 3 rfl rfl)) ((bR dc (by omega) (by simp)).trans (ah aI 0 rfl rfl)) (λφ φ'=>⟨?_,rfl,rfl⟩) (λφ=>rfl)
    rw [List.map_append]
    have:=jT (ps++[nth zs i])
    unfold mJ at this
    rw [List.map_append] at this
    exact (cJ (D:=λ_=>False) (λ_ h=>h.elim) this).symm
  ·rw [if_neg dA,List.append_nil] at jq
   obtain ⟨env,s,cW,df,aQ,eP,dc,_⟩:=aE (Kv t ((P.n-1:Nat):Int) (P.k:Int) (P.att:Int) zs.length off cap i (nth zs i) l own)
   have eg:s.pre:=by
    rw [aQ]
    exact ⟨⟨⟨⟨⟨True.intro,by simp [aq]<;>omega⟩,by omega,by omega⟩,rfl,hx⟩,by simp [aq]<;>omega⟩,rfl⟩
   refine tF ((bE named (cj mixed) (sound named mixed bL 60) (nt:=299) 100000).1 _ _ _ _ _ _ cW) bf hr (tH (by omega) hl dc (by simp)) (zZ (ab ⟨iH js,trivial,trivial,trivial,trivial⟩<|ab ⟨LA,F3⟩ aC)) eg (K:=λa w=>bh prog (bK (P5 5 aB)) Q a w) (λφ1 w1 a1 fD bO=> ?_) _ (λa w h=>h)
   refine ih (i+1) (by omega) a1 w1 ⟨φ1,?_,(fD 41 (by show 41<96;omega)).trans rA⟩
   rw [jq]
   refine pA bO df iT (bO.fit.bB (bV (λc o h=>(bf.ids c o h).1) dc)) ?_ nL rfl rfl rfl
   rw [<- jq];exact bn _
end
end
def B4 (c:Code):Code:=bK (P5 7 c)
def B7 (c:Code):Code:=TM (cA 0 (aT 1 (B4 c)))
def L5 (c:Code):Code:=cA 0 (aT 1 (B7 c))
def RW (c:Code):Code:=aT 0 (aT 1 (B7 c))
theorem Kz (own mo:Nat) (q0 q1 q2:Int):
  b6 [3,7,9,11,146,147] [] (aP prog (aW prog ba 60) 299 100000 (cA 0 (P5 7 aB)) ([(3,.ptr 12 0),(7,.ptr 14 0),(9,.aa .i64 own),(11,.aa .i64 mo)]) ⟨mk [(12,.row false [.aa .i64 q0,.aa .i64 q1,.aa .i64 q2] 52 none)],96,0,0,True,[]⟩)=
  some (.normal,[some (.ptr 12 0),some (.ptr 14 0),some (.aa .i64 (own:Int)),some (.aa .i64 (mo:Int)),some (.aa .i64 q0),some (.int .i64 0)],True,96,[],[]):=by kernel_rfl
theorem KA (own mo tn ix:Nat):
  b6 [3,7,9,11,146,147] [] (aP prog (aW prog ba 60) 299 100000 (B4 aB) ([(3,.ptr 12 0),(7,.ptr 14 0),(9,.aa .i64 own),(11,.aa .i64 mo),(146,.aa .i64 tn),(147,.aa .i64 ix)]) ⟨mk [],96,0,0,True,[.br false]⟩)=
  some (.exit 6,[some (.ptr 12 0),some (.ptr 14 0),some (.aa .i64 (own:Int)),some (.aa .i64 (mo:Int)),some (.aa .i64 (tn:Int)),some (.aa .i64 (ix:Int))],True∧aq .lss (ix:Int) (tn:Int)=false,96,[],[]):=by kernel_rfl
theorem Fx (own mo tn ix:Nat):
  b6 [3,7,9,11,146,147] [] (aP prog (aW prog ba 60) 299 100000 (cA 1 (B4 aB)) ([(3,.ptr 12 0),(7,.ptr 14 0),(9,.aa .i64 own),(11,.aa .i64 mo),(146,.aa .i64 tn),(147,.aa .i64 ix)]) ⟨mk [],96,0,0,True,[.br true]⟩)=
  some (.normal,[some (.ptr 12 0),some (.ptr 14 0),some (.aa .i64 (own:Int)),some (.aa .i64 (mo:Int)),some (.aa .i64 (tn:Int)),some (.aa .i64 (ix:Int))],True∧aq .lss (ix:Int) (tn:Int)=true,96,[],[]):=by kernel_rfl
theorem ON (own mo tn ix:Nat):
  b6 [3,7,9,11,146,147,12,13] [] (aP prog (aW prog ba 60) 299 100000 (cA 1 (B7 aB)) ([(3,.ptr 12 0),(7,.ptr 14 0),(9,.aa .i64 own),(11,.aa .i64 mo),(146,.aa .i64 tn),(147,.aa .i64 ix)]) ⟨mk [],96,0,0,True,[]⟩)=
  some (.normal,[some (.ptr 12 0),some (.ptr 14 0),some (.aa .i64 (own:Int)),some (.aa .i64 (mo:Int)),some (.aa .i64 (tn:Int)),some (.aa .i64 (ix:Int)),some (.aa .i64 (ix:Int)),some (.int .i64 0)],True,96,[],[]):=by kernel_rfl
theorem KB (own mo tn ix mi:Nat):
  b6 [3,7,9,11,146,147,12,13,150,151] [] (aP prog (aW prog ba 60) 299 100000 (cA 0 (L5 aB)) ([(3,.ptr 12 0),(7,.ptr 14 0),(9,.aa .i64 own),(11,.aa .i64 mo),(146,.aa .i64 tn),(147,.aa .i64 ix),(12,.aa .i64 ix),(13,.aa .i64 mi)]) ⟨mk [],96,0,0,True,[]⟩)=
  some (.normal,[some (.ptr 12 0),some (.ptr 14 0),some (.aa .i64 (own:Int)),some (.aa .i64 (mo:Int)),some (.aa .i64 (tn:Int)),some (.aa .i64 (ix:Int)),some (.aa .i64 (ix:Int)),some (.aa .i64 (mi:Int)),some (.aa .i64 (own:Int)),some (.int .i64 0)],True,96,[],[]):=by kernel_rfl
theorem KD (own mo tn ix cx mi:Nat):
  b6 [3,7,9,11,146,147,12,13,150,151] [] (aP prog (aW prog ba 60) 299 100000 (bK (L5 aB)) ([(3,.ptr 12 0),(7,.ptr 14 0),(9,.aa .i64 own),(11,.aa .i64 mo),(146,.aa .i64 tn),(147,.aa .i64 ix),(12,.aa .i64 ix),(13,.aa .i64 mi),(150,.aa .i64 own),(151,.aa .i64 cx)]) ⟨mk [],96,0,0,True,[.br false]⟩)=
  some (.exit 8,[some (.ptr 12 0),some (.ptr 14 0),some (.aa .i64 (own:Int)),some (.aa .i64 (mo:Int)),some (.aa .i64 (tn:Int)),some (.aa .i64 (ix:Int)),some (.aa .i64 (ix:Int)),some (.aa .i64 (mi:Int)),some (.aa .i64 (own:Int)),some (.aa .i64 (cx:Int))],True∧aq .lss (cx:Int) (own:Int)=false,96,[],[]):=by kernel_rfl
theorem Sc (pv:Value) (nn:Int) (own mo tn ix:Nat) (calls:List AV) (c cx mi th:Nat):
  b6 [3,7,9,11,146,147,12,13,150,151] [] (aP prog (aW prog ba 60) 299 100000 (bK (L5 aB)) ([(3,.ptr 12 0),(7,.ptr 14 0),(9,.aa .i64 own),(11,.aa .i64 mo),(146,.aa .i64 tn),(147,.aa .i64 ix),(12,.aa .i64 ix),(13,.aa .i64 mi),(150,.aa .i64 own),(151,.aa .i64 cx)]) ⟨mk [(14,.row false [.aa .i64 nn,.slice 1 0 1 1,.ae 7 6 0 0 c c,.cQ pv] 26 none),(7,.row true calls 42 (some 6))],96,0,0,True,[.br true,.val [.aa .i64 (th:Int)],.br true]⟩)=
  some (.normal,[some (.ptr 12 0),some (.ptr 14 0),some (.aa .i64 (own:Int)),some (.aa .i64 (mo:Int)),some (.aa .i64 (tn:Int)),some (.aa .i64 (ix:Int)),some (.aa .i64 (ix:Int)),some (.aa .i64 (i64.wrap ((mi:Int)+(mo:Int)))),some (.aa .i64 (own:Int)),some (.aa .i64 (i64.wrap ((cx:Int)+(1:Int))))],((((((True∧aq .lss (cx:Int) (own:Int)=true)∧(0:Nat)+c<=c)∧(0:Int)<=(cx:Int)∧(cx:Int)<(c:Int))∧1=1∧ ∀ (i:Nat),i<(1:Nat)->calls[((0:Nat)+(cx:Int).toNat)*(6:Nat)+(0:Nat)+i]?=[.aa .i64 (th:Int)][i]?)∧aq .eql (th:Int) (ix:Int)=true)∧true=true)∧true=true,96,[],[]):=by kernel_rfl
theorem Sd (pv:Value) (nn:Int) (own mo tn ix:Nat) (calls:List AV) (c cx mi th:Nat):
  b6 [3,7,9,11,146,147,12,13,150,151] [] (aP prog (aW prog ba 60) 299 100000 (bK (L5 aB)) ([(3,.ptr 12 0),(7,.ptr 14 0),(9,.aa .i64 own),(11,.aa .i64 mo),(146,.aa .i64 tn),(147,.aa .i64 ix),(12,.aa .i64 ix),(13,.aa .i64 mi),(150,.aa .i64 own),(151,.aa .i64 cx)]) ⟨mk [(14,.row false [.aa .i64 nn,.slice 1 0 1 1,.ae 7 6 0 0 c c,.cQ pv] 26 none),(7,.row true calls 42 (some 6))],96,0,0,True,[.br true,.val [.aa .i64 (th:Int)],.br false]⟩)=
  some (.normal,[some (.ptr 12 0),some (.ptr 14 0),some (.aa .i64 (own:Int)),some (.aa .i64 (mo:Int)),some (.aa .i64 (tn:Int)),some (.aa .i64 (ix:Int)),some (.aa .i64 (ix:Int)),some (.aa .i64 (mi:Int)),some (.aa .i64 (own:Int)),some (.aa .i64 (i64.wrap ((cx:Int)+(1:Int))))],(((((True∧aq .lss (cx:Int) (own:Int)=true)∧(0:Nat)+c<=c)∧(0:Int)<=(cx:Int)∧(cx:Int)<(c:Int))∧1=1∧ ∀ (i:Nat),i<(1:Nat)->calls[((0:Nat)+(cx:Int).toNat)*(6:Nat)+(0:Nat)+i]?=[.aa .i64 (th:Int)][i]?)∧aq .eql (th:Int) (ix:Int)=false)∧true=true,96,[],[]):=by kernel_rfl
theorem OO (pv:Value) (nn:Int) (own mo tn ix c mi:Nat):
  iG [3,7,9,11,146,147,167,168,169] [] (dI prog (aW prog ba 60) 299 (cB (RW aB)) ((cB (RW aB)).toList.take 4) ([(3,.ptr 12 0),(7,.ptr 14 0),(9,.aa .i64 own),(11,.aa .i64 mo),(146,.aa .i64 tn),(147,.aa .i64 ix),(12,.aa .i64 ix),(13,.aa .i64 mi)]) ⟨mk [(14,.row false [.aa .i64 nn,.slice 1 0 1 1,.ae 7 6 0 0 c c,.cQ pv] 26 none)],96,0,0,True,[]⟩)=
  some ([some (.ptr 12 0),some (.ptr 14 0),some (.aa .i64 (own:Int)),some (.aa .i64 (mo:Int)),some (.aa .i64 (tn:Int)),some (.aa .i64 (ix:Int)),some (.cQ pv),some (.aa .i64 (ix:Int)),some (.aa .i64 (mi:Int))],True,96,[],[]):=by kernel_rfl
theorem KE (pv:Value) (nn:Int) (own mo tn ix c:Nat) (pw:Value):
  iG [3,7,9,11,146,147] [14] (dI prog (aW prog ba 60) 299 (cB (RW aB)) ((cB (RW aB)).toList.drop 5) ([(3,.ptr 12 0),(7,.ptr 14 0),(9,.aa .i64 own),(11,.aa .i64 mo),(146,.aa .i64 tn),(147,.aa .i64 ix),(170,.cQ pw)]) ⟨mk [(14,.row false [.aa .i64 nn,.slice 1 0 1 1,.ae 7 6 0 0 c c,.cQ pv] 26 none)],96,0,0,True,[]⟩)=
  some ([some (.ptr 12 0),some (.ptr 14 0),some (.aa .i64 (own:Int)),some (.aa .i64 (mo:Int)),some (.aa .i64 (tn:Int)),some (.aa .i64 (ix:Int))],True,96,[14],[some (.row false [.aa .i64 nn,.slice 1 0 1 1,.ae 7 6 0 0 c c,.cQ pw] 26 none)]):=by kernel_rfl
theorem Fy (own mo tn ix:Nat):
  b6 [3,7,9,11,146,147] [] (aP prog (aW prog ba 60) 299 100000 (aT 0 (aT 1 (B4 aB))) ([(3,.ptr 12 0),(7,.ptr 14 0),(9,.aa .i64 own),(11,.aa .i64 mo),(146,.aa .i64 tn),(147,.aa .i64 ix)]) ⟨mk [],96,0,0,True,[]⟩)=
  some (.normal,[some (.ptr 12 0),some (.ptr 14 0),some (.aa .i64 (own:Int)),some (.aa .i64 (mo:Int)),some (.aa .i64 (tn:Int)),some (.aa .i64 (i64.wrap ((ix:Int)+(1:Int))))],True∧true=true,96,[],[]):=by kernel_rfl
theorem Fz (pv:Value) (nn:Int) (own:Nat) (q0 q1 q2:Int) (c:Nat):
  iG [3,7,9,174,176,179] [] (dI prog (aW prog ba 60) 299 (cB (P5 8 aB)) ((cB (P5 8 aB)).toList.take 7) ([(3,.ptr 12 0),(7,.ptr 14 0),(9,.aa .i64 own)]) ⟨mk [(12,.row false [.aa .i64 q0,.aa .i64 q1,.aa .i64 q2] 52 none),(14,.row false [.aa .i64 nn,.slice 1 0 1 1,.ae 7 6 0 0 c c,.cQ pv] 26 none)],96,0,0,True,[]⟩)=
  some ([some (.ptr 12 0),some (.ptr 14 0),some (.aa .i64 (own:Int)),some (.cQ pv),some (.aa .i64 q0),some (.aa .i64 (i64.wrap ((200:Int)*i64.wrap ((own:Int)+(1:Int)))))],(True∧true=true)∧true=true,96,[],[]):=by kernel_rfl
theorem Cf (pv:Value) (nn:Int) (own c:Nat) (pw:Value):
  iG [3,7,9] [14] (dI prog (aW prog ba 60) 299 (cB (P5 8 aB)) ((cB (P5 8 aB)).toList.drop 8) ([(3,.ptr 12 0),(7,.ptr 14 0),(9,.aa .i64 own),(180,.cQ pw)]) ⟨mk [(14,.row false [.aa .i64 nn,.slice 1 0 1 1,.ae 7 6 0 0 c c,.cQ pv] 26 none)],96,0,0,True,[]⟩)=
  some ([some (.ptr 12 0),some (.ptr 14 0),some (.aa .i64 (own:Int))],True,96,[14],[some (.row false [.aa .i64 nn,.slice 1 0 1 1,.ae 7 6 0 0 c c,.cQ pw] 26 none)]):=by kernel_rfl
theorem KF:RW aB= .region 31 (cB (RW aB)) false∧(cB (RW aB)).size=4+3:=⟨by kernel_rfl,by kernel_rfl⟩
theorem Ve: ∃ r,(cB (RW aB))[4]?=some r∧r.op= .call { callee:= .value (.func 11),args:= #[.tmp 167,.tmp 168,.tmp 169],argTypes:= #[24,3,3] }∧r.guard=none∧r.dst=some 170:=⟨((cB (RW aB))[4]?).getD default,by kernel_rfl,by kernel_rfl,by kernel_rfl,by kernel_rfl⟩
theorem Cg:P5 8 aB= .region 33 (cB (P5 8 aB)) false∧(cB (P5 8 aB)).size=7+3:=⟨by kernel_rfl,by kernel_rfl⟩
theorem Se: ∃ r,(cB (P5 8 aB))[7]?=some r∧r.op= .call { callee:= .value (.func 11),args:= #[.tmp 174,.tmp 176,.tmp 179],argTypes:= #[24,3,3] }∧r.guard=none∧r.dst=some 180:=⟨((cB (P5 8 aB))[7]?).getD default,by kernel_rfl,by kernel_rfl,by kernel_rfl,by kernel_rfl⟩
theorem KG: ∃ fn,prog.funcs[11]?=some fn∧fn.body.isSome=true:=⟨_,Tryz.func11,by kernel_rfl⟩
theorem Vf: ∃ fn,prog.funcs[8]?=some fn∧fn.body.isSome=true:=⟨_,Tryz.func8,by kernel_rfl⟩
end Qk
end Go.Proofs.YtpkfimijnkkbjaaGreat
namespace Go.Proofs.YtpkfimijnkkbjaaGreat
open Go.RowKit
theorem mL {w w':World} {B:Nat} {E:TypeId} {size n:Nat} {v:Value} {xs:List Value} (lM:w.ownsRow B E size v n xs) (hg:w.grownBy w' v.ownBlock) (hB:B<=w.heap.size):Below B w w':=
 (Below.refl B w).grown hg hB (λk hk=>(lM.lt k hk).1)
theorem z8 {P:Program} {ops:Array Oper} {rest:List Oper} {o:Oper} {a:Act} {Q:Exit->Act->World->Prop} {w:World} (pO:o.guard=none) (s x:Operand) (T:TypeId)
  (ho:o.op= .call { callee:= .builtin .append,args:= #[s,x],argTypes:= #[T,T] }) (B:Nat) (E:TypeId) (z:Value) (bytes:Nat) (hT:P.underlying T=some (.slice E))
  (hE:(P.info? E).map (λi=>(i.zero,i.size,i.bytes))=some (some z,1,bytes)) (hz:z.cells.size=1)
  (v:Value) (n:Nat) (xs:List Value) (y:Value) (g:Nat) (hs:a.eval s=v) (lM:w.ownsRow B E 1 v n xs) (hx:a.eval x= .slice (some ⟨g,0,none⟩) 1 1)
  (hg:w.cell? ⟨g,0,none⟩=some y) (hy:y.oneCell'=true) (hn:n+1<=maxLen) (hb:(n+1)*bytes<=140737488355328) (hB:B<=w.heap.size)
  (h: ∀ v' w',w'.ownsRow B E 1 v' (n+1) (xs++[y])->w.grownBy w' v.ownBlock->Below B w w'->wpList P ops Q rest (a.put o.dst v') w'):wpList P ops Q (o::rest) a w:=by
 obtain ⟨i0,hi,Ea,Qm,Y4⟩:=info_parts hE
 refine wpList_append_own w pO s x T ho B E i0 z 1 bytes hT hi Ea Qm Y4 hz (by decide) v n xs hs lM ⟨g,0,none⟩ 1 1 [y] hx rfl ?_ (by intro u hu;simp at hu;subst hu;exact hy) hn hb hB ?_
 ·intro j u hj
  match j,hj with
  | 0,hj=>simp at hj;subst hj;simpa [Addr.add] using hg
 ·intro v' w' h1 h2 _
  exact h v' w' h1 h2 (mL lM h2 hB)
def KH (w:World) (a:Option Addr) (vs:List Value):Prop:=
 vs=[]∨ ∃ b off,a=some ⟨b,off,none⟩∧ ∀ i,i<vs.length->w.cell? ⟨b,off+i,none⟩=vs[i]?
theorem Aa {P:Program} {ops:Array Oper} {rest:List Oper} {o:Oper} {a:Act} {Q:Exit->Act->World->Prop} {w:World} (pO:o.guard=none) (s x:Operand) (T:TypeId)
  (ho:o.op= .call { callee:= .builtin .append,args:= #[s,x],argTypes:= #[T,T] }) (B:Nat) (E:TypeId) (z:Value) (bytes:Nat) (hT:P.underlying T=some (.slice E))
  (hE:(P.info? E).map (λi=>(i.zero,i.size,i.bytes))=some (some z,1,bytes)) (hz:z.cells.size=1)
  (v:Value) (n:Nat) (xs ys:List Value) (src:Option Addr) (m c:Nat) (hm:m=ys.length) (hs:a.eval s=v) (lM:w.ownsRow B E 1 v n xs) (hx:a.eval x= .slice src m c)
  (Sx:src=none->ys=[]∧c=0) (FV:KH w src ys) (hy: ∀ u∈ys,u.oneCell'=true) (hn:n+m<=maxLen) (hb:(n+m)*bytes<=140737488355328) (hB:B<=w.heap.size)
  (h: ∀ v' w',w'.ownsRow B E 1 v' (n+m) (xs++ys)->w.grownBy w' v.ownBlock->Below B w w'->wpList P ops Q rest (a.put o.dst v') w'):wpList P ops Q (o::rest) a w:=by
 subst hm
 obtain ⟨i0,hi,Ea,Qm,Y4⟩:=info_parts hE
 cases src with
 | none=>
  obtain ⟨rfl,rfl⟩:=Sx rfl
  refine wpList_append_own_none pO s x T ho B E i0 1 hT hi v n xs hs lM hx ?_
  refine h v w (by simpa using lM) ⟨rfl,rfl,rfl,Nat.le_refl _,λ_ _ _=>rfl⟩ (Below.refl _ _)
 | some ad=>
  refine wpList_append_own w pO s x T ho B E i0 z 1 bytes hT hi Ea Qm Y4 hz (by decide) v n xs hs lM ad ys.length c ys hx (by simp) ?_ hy hn hb hB ?_
  ·intro j u hj
   have hjl:j<ys.length:=by
    by_cases hc:j<ys.length
    ·exact hc
    ·rw [List.getElem?_eq_none (by omega)] at hj;cases hj
   rcases FV with rfl | ⟨b,off,hab,hc⟩
   ·simp at hjl
   ·simp only [Option.some.injEq] at hab
    subst hab
    rw [sf,hc j hjl,hj]
  ·intro v' w' h1 h2 _
   exact h v' w' h1 h2 (mL lM h2 hB)
open Go.Proofs.Tryz (prog)
theorem PO:(prog.info? 3).map (λi=>(i.zero,i.size,i.bytes))=some (some (.int .i64 0),1,8):=by kernel_rfl
theorem wZ (zs:List Int): ∀ u∈zs.map (Value.int .i64),u.oneCell'=true:=λu hu=>by
 obtain ⟨x,_,rfl⟩:=List.mem_map.1 hu;rfl
theorem FA {w:World} {a:Option Addr} {zs:List Int} (h:Jb9 .i64 w a zs):KH w a (zs.map (Value.int .i64)):=by
 rcases h with rfl | ⟨b,off,rfl,hc⟩
 ·exact .inl rfl
 ·refine .inr ⟨b,off,rfl,λi hi=> ?_⟩
  rw [List.length_map] at hi
  rw [List.getElem?_map,getElem?_nth zs i hi]
  exact hc i hi
set_option maxHeartbeats 1000000 in
theorem KI (a:Option Addr) (cap:Nat) (zs:List Int) (t:Int) (more:Nat) (w:World) (hs:Jb9 .i64 w a zs) (Qg:a=none->zs=[]∧cap=0) (dP:zs.length<=200000) (hm:more<=200000):
  Calls prog 11 #[.slice a zs.length cap,.int .i64 t,.int .i64 more] w λe w'=> ∃ v,e= .returned v∧w'.ownsRow w.heap.size 3 1 v (zs.length+more) ((zs++List.replicate more t).map (Value.int .i64))∧Below w.heap.size w w':=by
 have HS:=Lib.hid hs;clear hs
 have HAN:=Lib.hid (λh=>⟨by rw [(Qg h).1];rfl,(Qg h).2⟩:a=none->zs.map (Value.int .i64)=[]∧cap=0);clear Qg
 have HO:=Lib.hid (World.ownsRow_made (e:=3) (size:=1) w #[] 0 (Nat.le_refl w.heap.size) (by decide) rfl)
 go_enter Tryz.func11,Tryz.ntmps11
 go_wp2_with (at_builtin;refine Aa rfl (.tmp 8) (.tmp 9) 24 rfl w.heap.size 3 _ 8 Tryz.underlying24 PO rfl _ 0 [] (zs.map (Value.int .i64)) a zs.length cap (by simp) rfl HO.out rfl HAN.out (FA (HS.out.ext ((AF.refl w).alloc _))) (wZ zs) ?_ ?_ ?_ ?_)
 case refine_1=>unfold maxLen;omega
 case refine_2=>omega
 case refine_3=>simp
 intro v1 w1 DZ YK WJ
 have HO1:=Lib.hid DZ;clear DZ
 have HB1:=Lib.hid (((Below.refl _ _).alloc (Nat.le_refl _) _).trans WJ:Below w.heap.size w w1);clear WJ YK
 go_wp2
 go_loopw [7,12] (λv k wr=> ∃ (j:Nat),j<=more∧k= .int .i64 j∧wr.ownsRow w.heap.size 3 1 v (zs.length+j) ((zs++List.replicate j t).map (Value.int .i64))∧Below w.heap.size w wr) (λ_ k _=>more-(intOf k).toNat)
 case atStart=>exact ⟨0,Nat.zero_le _,rfl,by simpa using HO1.out,HB1.out⟩
 case round=>
  obtain ⟨j,hj,rfl,lM,SF⟩:=hrel
  by_cases dA:j<more
  ·have HB:=Lib.hid SF;clear SF
   have HO2:=Lib.hid lM;clear lM
   go_wp2_with (at_builtin;refine z8 rfl (.tmp 14) (.tmp 16) 24 rfl w.heap.size 3 _ 8 Tryz.underlying24 PO rfl _ _ _ (.int .i64 t) _ rfl (HO2.out.alloc _) rfl ?c1 rfl ?c2 ?c3 ?c4 ?_)
   case c1=>rw [World.cell?_alloc_at _ _ _ _ rfl];rfl
   case c2=>unfold maxLen;omega
   case c3=>omega
   case c4=>have:=HB.out.size;simp;omega
   intro v' w2 ho hg hb
   have HO':=Lib.hid ho;clear ho
   have HB':=Lib.hid ((HB.out.alloc HB.out.size _).trans hb);clear hb hg
   go_wp2
   go_roundw
   case rel=>
    refine ⟨j+1,by omega,by go_num,?_,HB'.out⟩
    have:=HO'.out
    rw [List.replicate_succ',<- List.append_assoc,List.map_append]
    simp only [List.map_append,List.map_replicate,List.map_cons,List.map_nil,List.append_assoc] at this ⊢
    exact this
   case measure=>simp [intOf];omega
  ·go_wp2
   go_ret
   have Qv:j=more:=by omega
   subst Qv
   exact ⟨_,rfl,lM,SF⟩
end Go.Proofs.YtpkfimijnkkbjaaGreat
namespace Go.Proofs.YtpkfimijnkkbjaaGreat
namespace Qk
open Ev Ct Go.RowKit
open Go.IntKind (i64 u64)
open Go.Proofs.Tryz (prog)
section
variable {κ:Ev.dE}
theorem FB {H:Nat->Option ak} {φ:bo} {w w':World} (h:cz κ H φ w) (bn: ∀ c o,H c=some o->o.aD (· < 96)) (hb:Below w.heap.size w w'):cz κ H φ w':=
 ⟨λc o hc=>(h.holds c o hc).bB (D:=(· < 96)) (λ_ _=>rfl) (bn c o hc) rfl (hb.block _ (h.holds c o hc).lt),h.inj,h.base,λr hr=>(hb.block r (Nat.lt_of_lt_of_le hr h.size)).trans (h.old r hr),Nat.le_trans h.size hb.size,hb.os.trans h.env.1,hb.output.trans h.env.2⟩
theorem Jc8 (φ:bo) (zs:List Int):az φ (zs.map λx=>AV.aa .i64 x)=zs.map (Value.int .i64):=by
 rw [dq,List.map_map];rfl
theorem KJ {φ:bo} {w:World} {b:Nat} {zs:List Int} (h:cf φ b (mJ zs) w):Jb9 .i64 w (some ⟨(φ b).dp,0,none⟩) zs:=by
 obtain ⟨rest,n,h1,_⟩:=h
 refine .inr ⟨(φ b).dp,0,rfl,λi hi=> ?_⟩
 rw [Jc8] at h1
 simp only [World.cell?,h1,Nat.zero_add]
 rw [Array.getElem?_append_left (by simpa using hi)]
 simp [nth,List.getElem?_eq_getElem hi]
def nq (φ:bo) (pv:Value) (own:Option ak) (ps:List Int):Prop:=
 pv.oneCell'=true∧((ps=[]∧own=none∧ ∃ a cap,pv= .slice a 0 cap∧(a=none->cap=0))∨(ps≠[]∧own=some (mJ ps)∧pv=Jb1 φ (.ae 13 1 0 0 ps.length ps.length)))
theorem nq.own {φ:bo} {pv:Value} {own:Option ak} {ps:List Int} (h:nq φ pv own ps): ∀ o,own=some o->o.aD λ_=>False:=λo ho=>by
 rcases h.2 with ⟨_,h1,_⟩ | ⟨_,h1,_⟩
 ·rw [h1] at ho;cases ho
 ·rw [h1] at ho
  obtain rfl:=Option.some.inj ho
  exact jT ps
theorem nq.congr {φ φ':bo} {pv:Value} {own:Option ak} {ps:List Int} (h:nq φ pv own ps) (nO:φ' 13=φ 13):nq φ' pv own ps:=by
 refine ⟨h.1,?_⟩
 rcases h.2 with h1 | ⟨h1,h2,h3⟩
 ·exact .inl h1
 ·exact .inr ⟨h1,h2,h3.trans (cI nO.symm)⟩
section
variable {P:cv} {cs:List (Nat×Bool×Nat)}
theorem KL {pv:Value} {own:Option ak} {ps:List Int} {φ:bo} {w:World} (bx:cz κ (H5 P cs (.cQ pv) own) φ w) (h:nq φ pv own ps):
  ∃ ad c,pv= .slice ad ps.length c∧Jb9 .i64 w ad ps∧(ad=none->ps=[]∧c=0):=by
 rcases h.2 with ⟨rfl,_,a,cap,rfl,h1⟩ | ⟨bq,rfl,rfl⟩
 ·exact ⟨a,cap,rfl,.inl rfl,λh=>⟨rfl,h1 h⟩⟩
 ·have nO:cf φ 13 (mJ ps) w:=bx.holds 13 _ rfl
  refine ⟨some ⟨(φ 13).dp,0,none⟩,ps.length-0+(φ 13).fr,?_,KJ nO,λh=>by cases h⟩
  simp [Jb1]
theorem OP {pv:Value} {own:Option ak} (ho: ∀ o,own=some o->o.aD λ_=>False) {φ:bo} {w w':World} (bx:cz κ (H5 P cs (.cQ pv) own) φ w) (hb:Below w.heap.size w w') {v:Value} {zs:List Int} (hv:w'.ownsRow w.heap.size 3 1 v zs.length (zs.map (Value.int .i64))):
  ∃ (φ':bo) (own':Option ak),(∀ i,i≠13->φ' i=φ i)∧nq φ' v own' zs∧cz κ (H5 P cs (.cQ pv) own') φ' w':=by
 have bn:=eL (P:=P) (cs:=cs) (pv:= .cQ pv) (own:=own) trivial ho
 by_cases hz:zs=[]
 ·subst hz
  refine ⟨φ,none,λ_ _=>rfl,?_,(FB bx (λc o h=>(bn c o h).2) hb).sub λb o h=> ?_⟩
  ·obtain ⟨_,⟨rfl,_⟩ | ⟨g,cap,cur,rfl,_⟩⟩:=hv
   ·exact ⟨rfl,.inl ⟨rfl,rfl,none,0,rfl,λ_=>rfl⟩⟩
   ·exact ⟨rfl,.inl ⟨rfl,rfl,some _,cap,rfl,λh=>by cases h⟩⟩
  ·unfold H5 at h ⊢
   split at h
   ·rename_i e;rw [if_pos e];exact h
   split at h
   ·rename_i e1 e;rw [if_neg e1,if_pos e];exact h
   split at h
   ·rename_i e1 e2 e;rw [if_neg e1,if_neg e2,if_pos e];exact h
   split at h
   ·cases h
   ·rename_i e1 e2 e3 e4;rw [if_neg e1,if_neg e2,if_neg e3,if_neg e4];exact h
 obtain ⟨_,⟨_,h0⟩ | ⟨g,cap,cur,rfl,hg,gm,nj,Jaa,fy,fx⟩⟩:=hv
 ·exact absurd (List.length_eq_zero_iff.1 h0) hz
 have Z8: ∀ (φ':bo),φ' 13=⟨g,cap-zs.length⟩->Value.slice (some ⟨g,0,none⟩) zs.length cap=Jb1 φ' (.ae 13 1 0 0 zs.length zs.length):=λφ' h=>by
  simp only [Jb1,h]
  have:zs.length-0+(cap-zs.length)=cap:=by omega
  rw [this]
  split<;>simp
 refine ⟨λi=>if i=13 then ⟨g,cap-zs.length⟩ else φ i,some (mJ zs),λi hi=>if_neg hi,⟨rfl,.inr ⟨hz,rfl,Z8 _ (if_pos rfl)⟩⟩,?_⟩
 have tO: ∀ b o,b≠13->H5 P cs (.cQ pv) (some (mJ zs)) b=some o->H5 P cs (.cQ pv) own b=some o:=λb o hb h=>by
  unfold H5 at h ⊢
  split at h
  ·rename_i e;rw [if_pos e];exact h
  split at h
  ·rename_i e1 e;rw [if_neg e1,if_pos e];exact h
  split at h
  ·rename_i e1 e2 e;rw [if_neg e1,if_neg e2,if_pos e];exact h
  rename_i e1 e2 e3
  rw [if_neg e1,if_neg e2,if_neg e3,if_neg hb]
  exact h
 have Y9: ∀ b o,H5 P cs (.cQ pv) own b=some o->b≠13->o.aD (· ≠13):=λb o h hb=>by
  rcases iI h with ⟨rfl,rfl⟩ | ⟨rfl,_,rfl⟩ | ⟨rfl,rfl⟩ | ⟨rfl,h⟩ | ⟨rfl,rfl⟩
  ·exact ⟨trivial,trivial,trivial,trivial⟩
  ·exact bJ (cE cs)
  ·exact ⟨trivial,trivial,trivial,trivial⟩
  ·exact absurd rfl hb
  ·exact ⟨trivial,by show 1≠13;omega,wU (by omega),trivial,trivial⟩
 have dA: ∀ b o,b≠13->H5 P cs (.cQ pv) (some (mJ zs)) b=some o->(φ b).dp<w.heap.size:=λb o hb h=>(bx.holds b o (tO b o hb h)).lt
 refine ⟨λc o hc=> ?_,λb c x y hx hy he=> ?_,λc o hc=> ?_,λr hr=> ?_,Nat.le_trans bx.size hb.size,⟨hb.os.trans bx.env.1,hb.output.trans bx.env.2⟩⟩
 ·by_cases e:c=13
  ·subst e
   have:H5 P cs (.cQ pv) (some (mJ zs)) 13=some (mJ zs):=rfl
   rw [this] at hc
   obtain rfl:=Option.some.inj hc
   refine ⟨(cur.toList.drop zs.length).toArray,zs.length,?_,?_,by simp,?_⟩
   ·show w'.heap[(if (13:Nat)=13 then (⟨g,cap-zs.length⟩:np) else φ 13).dp]?=_
    rw [if_pos rfl,gm,Jc8]
    have e1:cur=(zs.map (Value.int .i64)).toArray++(cur.toList.drop zs.length).toArray:=by
     apply Array.ext'
     rw [<- fx,Nat.mul_one]
     simp
    exact congrArg (λc=>some (Obj.cells c 3 (0,0))) e1
   ·show (cur.toList.drop zs.length).toArray.size=(if (13:Nat)=13 then (⟨g,cap-zs.length⟩:np) else φ 13).fr*1
    rw [if_pos rfl]
    simp
    omega
   ·show zs.length+(if (13:Nat)=13 then (⟨g,cap-zs.length⟩:np) else φ 13).fr<=maxLen
    rw [if_pos rfl]
    show zs.length+(cap-zs.length)<=maxLen
    omega
  ·have h1:=tO c o e hc
   exact (bx.holds c o h1).bB (D:=(· ≠13)) (λi hi=>if_neg hi) (Y9 c o h1 e) (if_neg e) (hb.block _ (dA c o e hc))
 ·have ny:(if b=13 then (⟨g,cap-zs.length⟩:np) else φ b).dp=(if c=13 then (⟨g,cap-zs.length⟩:np) else φ c).dp:=he
  by_cases e1:b=13<;>by_cases e2:c=13
  ·omega
  ·rw [if_pos e1,if_neg e2] at ny
   have h1:g=(φ c).dp:=ny
   have:=dA c y e2 hy
   omega
  ·rw [if_neg e1,if_pos e2] at ny
   have h1:(φ b).dp=g:=ny
   have:=dA b x e1 hx
   omega
  ·rw [if_neg e1,if_neg e2] at ny
   exact bx.inj b c x y (tO b x e1 hx) (tO c y e2 hy) ny
 ·by_cases e:c=13
  ·subst e
   show κ.mark<=(if (13:Nat)=13 then (⟨g,cap-zs.length⟩:np) else φ 13).dp
   rw [if_pos rfl]
   exact Nat.le_trans bx.size hg
  ·show κ.mark<=(if c=13 then (⟨g,cap-zs.length⟩:np) else φ c).dp
   rw [if_neg e]
   exact bx.base c o (tO c o e hc)
 ·rw [hb.block r (Nat.lt_of_lt_of_le hr bx.size)]
  exact bx.old r hr
def Sf (own mo tn i:Nat):Env:=[(3,.ptr 12 0),(7,.ptr 14 0),(9,.aa .i64 own),(11,.aa .i64 mo),(146,.aa .i64 tn),(147,.aa .i64 i)]
def E55 (own mo tn i mi:Nat):Env:=Sf own mo tn i++[(12,.aa .i64 i),(13,.aa .i64 mi)]
def Yb (own mo tn i mi c:Nat):Env:=Sf own mo tn i++[(12,.aa .i64 i),(13,.aa .i64 mi),(150,.aa .i64 own),(151,.aa .i64 c)]
theorem tK {H H':Nat->Option ak} {nx own mo tn i mi c:Nat} {k m:Int} {env:Env} {φ:bo} {w:World} {a:Act} (bf:At κ H 299 nx env φ w a) (df:[3,7,9,11,146,147,12,13,150,151].map env.look=[some (.ptr 12 0),some (.ptr 14 0),some (.aa .i64 (own:Nat)),some (.aa .i64 (mo:Nat)),some (.aa .i64 (tn:Nat)),some (.aa .i64 (i:Nat)),some (.aa .i64 (i:Nat)),some (.aa .i64 m),some (.aa .i64 (own:Nat)),some (.aa .i64 k)]) (hm:m=mi) (hk:k=c) (bx:cz κ H' φ w) (bn: ∀ c o,H' c=some o->c<96∧o.aD (· < 96)):At κ H' 299 96 (Yb own mo tn i mi c) φ w a:=by
 subst hk hm
 refine bf.Jb4 bx bn ?_
 exact ab ⟨_,ai df 0 rfl rfl,rfl,by show 12<96;omega⟩<|ab ⟨_,ai df 1 rfl rfl,rfl,by show 14<96;omega⟩<|ab ⟨_,ai df 2 rfl rfl,rfl,trivial⟩<|ab ⟨_,ai df 3 rfl rfl,rfl,trivial⟩<|ab ⟨_,ai df 4 rfl rfl,rfl,trivial⟩<|ab ⟨_,ai df 5 rfl rfl,rfl,trivial⟩<|ab ⟨_,ai df 6 rfl rfl,rfl,trivial⟩<|ab ⟨_,ai df 7 rfl rfl,rfl,trivial⟩<|ab ⟨_,ai df 8 rfl rfl,rfl,trivial⟩<|ab ⟨_,ai df 9 rfl rfl,rfl,trivial⟩ aC
theorem Ch (cs:List (Nat×Bool×Nat)) (i t:Nat):(gD cs i t).length<=i:=by
 have:(gD cs i t).length<=(List.range i).length:=List.length_filter_le _ _
 rwa [List.length_range] at this
def Vg (κ:Ev.dE) (P:cv) (cs:List (Nat×Bool×Nat)) (pv:Value) (own:Option ak) (o mo tn i:Nat) (φ0:bo) (c:Nat) (a:Act) (w:World):Prop:=
 ∃ φ:bo,At κ (H5 P cs (.cQ pv) own) 299 96 (Yb o mo tn i (mo*(gD cs c i).length) c) φ w a∧ ∀ b,b<96->φ b=φ0 b
theorem Sg {pv:Value} {own:Option ak} (hpo: ∀ o,own=some o->o.aD λ_=>False) {o mo tn i:Nat} (jd:cs.length<=1000) (ho:o<cs.length) (xF:mo<=4000) {φ0:bo}
  {Q:Exit->Act->World->Prop} (hQ: ∀ a w,Vg κ P cs pv own o mo tn i φ0 o a w->Q (.exit 8) a w): ∀ (k c:Nat),c+k=o-> ∀ a w,Vg κ P cs pv own o mo tn i φ0 c a w->bh prog (bK (L5 aB)) Q a w:=by
 have bn:=eL (P:=P) (cs:=cs) (pv:= .cQ pv) (own:=own) trivial hpo
 have bq:cs≠[]:=λe=>by rw [e] at ho;exact absurd ho (Nat.not_lt_zero _)
 intro k
 induction k with
 | zero=>
  rintro c hc a w ⟨φ,bf,hφ⟩
  refine bh.of ?_
  have ud:c=o:=by omega
  subst ud
  obtain ⟨env,s,cW,df,aQ,eP,dc,_⟩:=aE (KD c mo tn i c (mo*(gD cs c i).length))
  have eg:s.pre:=by rw [aQ];exact ⟨True.intro,by simp [aq]⟩
  refine cN ((bE named (cj mixed) (sound named mixed bL 60) (nt:=299) 100000).1 _ _ _ _ _ _ cW) bf bA eg (K:=λa w=>Q (.exit 8) a w) (λφ' w' a' uF fN=> ?_) _ (λa w h=>h)
  exact hQ a' w' ⟨φ',tK fN df rfl rfl (fN.fit.bB (bV (λc o h=>(bf.ids c o h).1) dc)) bn,λb hb=>(uF b hb).trans (hφ b hb)⟩
 | succ k ih=>
  rintro c hc a w ⟨φ,bf,hφ⟩
  refine bh.of ?_
  have fQ:c<cs.length:=by omega
  have ni:cs[c]?=some (cs[c]'fQ):=List.getElem?_eq_getElem fQ
  generalize cs[c]'fQ=cc at ni
  have XI:=nb ni
  have hx: ∀ r:Nat,r<1->(cs.flatMap bj)[(0+(c:Int).toNat)*6+0+r]?=[AV.aa .i64 (cc.1:Nat)][r]?:=λr hr=>by
   obtain rfl:r=0:=by omega
   exact XI 0 (by omega)
  have iT:i64.wrap ((c:Int)+1)=((c+1:Nat):Int):=by rw [wrap64 (by omega) (by omega)];omega
  have h7:H5 P cs (.cQ pv) own 7=some (.row true (cs.flatMap bj) 42 (some 6)):=by
   unfold H5;rw [if_neg (by omega),if_pos rfl,if_neg bq]
  have fJ:H5 P cs (.cQ pv) own 14=some (.row false [.aa .i64 (P.n:Nat),.slice 1 0 1 1,.ae 7 6 0 0 cs.length cs.length,.cQ pv] 26 none):=by
   show some (db P _ _)=_
   unfold db AL
   rw [if_neg bq]
  have jq:=ke ni i
  have nj:=Ch cs c i
  have hml:mo*(gD cs c i).length<=4000*1000:=Nat.mul_le_mul xF (by omega)
  by_cases e:cc.1=i
  ·rw [if_pos e] at jq
   obtain ⟨env,s,cW,df,aQ,eP,dc,_⟩:=aE (Sc pv (P.n:Int) o mo tn i (cs.flatMap bj) cs.length c (mo*(gD cs c i).length) cc.1)
   have eg:s.pre:=by
    rw [aQ]
    exact ⟨⟨⟨⟨⟨⟨⟨True.intro,by simp [aq]<;>omega⟩,by omega⟩,by omega,by omega⟩,rfl,hx⟩,by simp [aq]<;>omega⟩,rfl⟩,rfl⟩
   refine cN ((bE named (cj mixed) (sound named mixed bL 60) (nt:=299) 100000).1 _ _ _ _ _ _ cW) bf (dC bf.ids (ab fJ<|ab h7 aC)) eg (K:=λa w=>bh prog (bK (L5 aB)) Q a w) (λφ1 w1 a1 fD bO=> ?_) _ (λa w h=>h)
   refine ih (c+1) (by omega) a1 w1 ⟨φ1,tK bO df ?_ iT (bO.fit.bB (bV (λc o h=>(bf.ids c o h).1) dc)) bn,λb hb=>(fD b hb).trans (hφ b hb)⟩
   rw [jq,List.length_append,Nat.mul_add]
   show i64.wrap (((mo*(gD cs c i).length:Nat):Int)+(mo:Nat))=((mo*(gD cs c i).length+mo*1:Nat):Int)
   rw [wrap64 (by omega) (by omega)]
   omega
  ·rw [if_neg e,List.append_nil] at jq
   obtain ⟨env,s,cW,df,aQ,eP,dc,_⟩:=aE (Sd pv (P.n:Int) o mo tn i (cs.flatMap bj) cs.length c (mo*(gD cs c i).length) cc.1)
   have eg:s.pre:=by
    rw [aQ]
    exact ⟨⟨⟨⟨⟨⟨True.intro,by simp [aq]<;>omega⟩,by omega⟩,by omega,by omega⟩,rfl,hx⟩,by simp [aq]<;>omega⟩,rfl⟩
   refine cN ((bE named (cj mixed) (sound named mixed bL 60) (nt:=299) 100000).1 _ _ _ _ _ _ cW) bf (dC bf.ids (ab fJ<|ab h7 aC)) eg (K:=λa w=>bh prog (bK (L5 aB)) Q a w) (λφ1 w1 a1 fD bO=> ?_) _ (λa w h=>h)
   exact ih (c+1) (by omega) a1 w1 ⟨φ1,tK bO df (by rw [jq]) iT (bO.fit.bB (bV (λc o h=>(bf.ids c o h).1) dc)) bn,λb hb=>(fD b hb).trans (hφ b hb)⟩
end
end
section
variable {κ:Ev.dE}
def Ci (ps0:List Int) (cs:List (Nat×Bool×Nat)) (o mo i:Nat):List Int:=ps0++(List.range i).flatMap λu:Nat=>List.replicate (mo*(gD cs o u).length) (u:Int)
theorem Ab (ps0:List Int) (cs:List (Nat×Bool×Nat)) (o mo i:Nat):Ci ps0 cs o mo (i+1)=Ci ps0 cs o mo i++List.replicate (mo*(gD cs o i).length) (i:Int):=by
 unfold Ci;rw [List.range_succ,List.flatMap_append];simp
theorem DO (ps0:List Int) (cs:List (Nat×Bool×Nat)) {o mo:Nat} (i:Nat) (xF:mo<=4000) (ho:o<=16):(Ci ps0 cs o mo i).length<=ps0.length+i*64000:=by
 induction i with
 | zero=>simp [Ci]
 | succ i ih=>
  rw [Ab,List.length_append,List.length_replicate]
  have h1:=Ch cs o i
  have h2:mo*(gD cs o i).length<=4000*16:=Nat.mul_le_mul xF (by omega)
  omega
theorem DP {P:cv} {cs:List (Nat×Bool×Nat)} {pv:Value} {own:Option ak} {ps:List Int} {φ:bo} {w:World} (bx:cz κ (H5 P cs (.cQ pv) own) φ w) (h:nq φ pv own ps) {t:Int} {more:Nat} (hl:ps.length<=200000) (hm:more<=200000):
  Calls prog 11 (az φ [.cQ pv,.aa .i64 t,.aa .i64 (more:Nat)]).toArray w (λe w'=> ∃ (v:Value) (φ':bo) (own':Option ak),e= .returned (Jb1 φ' (.cQ v))∧(∀ i,i≠13->φ' i=φ i)∧nq φ' v own' (ps++List.replicate more t)∧cz κ (H5 P cs (.cQ pv) own') φ' w'):=by
 obtain ⟨ad,c,tZ,WA,Sx⟩:=KL bx h
 have e:(az φ [.cQ pv,.aa .i64 t,.aa .i64 (more:Nat)]).toArray= #[.slice ad ps.length c,.int .i64 t,.int .i64 (more:Nat)]:=by
  simp only [az,Jb1]
  rw [if_pos h.1,tZ]
 rw [e]
 refine (KI ad c ps t more w WA Sx hl hm).mono ?_
 rintro e w' ⟨v,rfl,hv,hb⟩
 have hv':w'.ownsRow w.heap.size 3 1 v (ps++List.replicate more t).length ((ps++List.replicate more t).map (Value.int .i64)):=by
  rw [List.length_append,List.length_replicate];exact hv
 obtain ⟨φ',own',h1,h2,h3⟩:=OP h.own bx hb hv'
 refine ⟨v,φ',own',?_,h1,h2,h3⟩
 simp only [Jb1]
 rw [if_pos h2.1]
section
variable {P:cv} {cs:List (Nat×Bool×Nat)}
theorem pB {H H':Nat->Option ak} {nx own mo tn i:Nat} {k:Int} {env:Env} {φ:bo} {w:World} {a:Act} (bf:At κ H 299 nx env φ w a) (df:[3,7,9,11,146,147].map env.look=[some (.ptr 12 0),some (.ptr 14 0),some (.aa .i64 (own:Nat)),some (.aa .i64 (mo:Nat)),some (.aa .i64 (tn:Nat)),some (.aa .i64 k)]) (hk:k=i) (bx:cz κ H' φ w) (bn: ∀ c o,H' c=some o->c<96∧o.aD (· < 96)):At κ H' 299 96 (Sf own mo tn i) φ w a:=by
 subst hk
 refine bf.Jb4 bx bn ?_
 exact ab ⟨_,ai df 0 rfl rfl,rfl,by show 12<96;omega⟩<|ab ⟨_,ai df 1 rfl rfl,rfl,by show 14<96;omega⟩<|ab ⟨_,ai df 2 rfl rfl,rfl,trivial⟩<|ab ⟨_,ai df 3 rfl rfl,rfl,trivial⟩<|ab ⟨_,ai df 4 rfl rfl,rfl,trivial⟩<|ab ⟨_,ai df 5 rfl rfl,rfl,trivial⟩ aC
theorem mM (bq:cs≠[]) {pv:Value} {own:Option ak}:H5 P cs (.cQ pv) own 14=some (.row false [.aa .i64 (P.n:Nat),.slice 1 0 1 1,.ae 7 6 0 0 cs.length cs.length,.cQ pv] 26 none):=by
 show some (db P _ _)=_
 unfold db AL
 rw [if_neg bq]
theorem KM (bq:cs≠[]) {pv v:Value} {own:Option ak} (ho: ∀ o,own=some o->o.aD λ_=>False) {s:St} {y:Bool} {φ:bo} {w:World} {wr:List Nat} (dc: ∀ c,c<128->(s.wr.testBit c=true↔c∈wr)) (hw:wr=[14]) (fJ:s.get 14=some (.row y [.aa .i64 (P.n:Nat),.slice 1 0 1 1,.ae 7 6 0 0 cs.length cs.length,.cQ v] 26 none)) (bx:cz κ (after (H5 P cs (.cQ pv) own) s) φ w):cz κ (H5 P cs (.cQ v) own) φ w:=by
 subst hw
 have:=bx.iQ (H':=H5 P cs (.cQ v) own) (λb=>b) (λb c x y _ _ h=>h) (λb o' hb=>by
  by_cases e:b=14
  ·subst e
   rw [mM bq] at hb
   obtain rfl:=Option.some.inj hb
   exact ⟨_,(bR dc (by omega) (by simp)).trans fJ,rfl,rfl,rfl⟩
  ·have dA:=DK hb
   have oE:H5 P cs (.cQ pv) own b=some o':=by
    rw [<- hb];unfold H5
    rw [if_neg e,if_neg e]
   refine ⟨o',(bY dc (by omega) (by simp;exact e)).trans oE,bl (wV ho e hb)⟩)
 exact this
def Vh (κ:Ev.dE) (P:cv) (cs:List (Nat×Bool×Nat)) (ps0:List Int) (o mo tn i:Nat) (a:Act) (w:World):Prop:=
 ∃ (φ:bo) (pv:Value) (own:Option ak),At κ (H5 P cs (.cQ pv) own) 299 96 (Sf o mo tn i) φ w a∧nq φ pv own (Ci ps0 cs o mo i)
theorem Sh {ps0:List Int} {o mo tn:Nat} (jd:cs.length<=1000) (ho:o<cs.length) (YB:o<=16) (xF:mo<=4000) (htn:tn<=3) (hp0:ps0.length<=2000)
  {Q:Exit->Act->World->Prop} (hQ: ∀ a w,Vh κ P cs ps0 o mo tn tn a w->Q (.exit 6) a w): ∀ (k i:Nat),i+k=tn-> ∀ a w,Vh κ P cs ps0 o mo tn i a w->bh prog (B4 aB) Q a w:=by
 have bq:cs≠[]:=λe=>by rw [e] at ho;exact absurd ho (Nat.not_lt_zero _)
 intro k
 induction k with
 | zero=>
  rintro i hi a w ⟨φ,pv,own,bf,tZ⟩
  refine bh.of ?_
  have iS:i=tn:=by omega
  subst iS
  have bn:=eL (P:=P) (cs:=cs) (pv:= .cQ pv) (own:=own) trivial tZ.own
  obtain ⟨env,s,cW,df,aQ,eP,dc,_⟩:=aE (KA o mo i i)
  have eg:s.pre:=by rw [aQ];exact ⟨True.intro,by simp [aq]⟩
  refine cN ((bE named (cj mixed) (sound named mixed bL 60) (nt:=299) 100000).1 _ _ _ _ _ _ cW) bf bA eg (K:=λa w=>Q (.exit 6) a w) (λφ' w' a' uF fN=> ?_) _ (λa w h=>h)
  exact hQ a' w' ⟨φ',pv,own,pB fN df rfl (fN.fit.bB (bV (λc o h=>(bf.ids c o h).1) dc)) bn,tZ.congr (uF 13 (by show 13<96;omega))⟩
 | succ k ih=>
  rintro i hi a w ⟨φ,pv,own,bf,tZ⟩
  refine bh.of ?_
  have bn:=eL (P:=P) (cs:=cs) (pv:= .cQ pv) (own:=own) trivial tZ.own
  obtain ⟨cH,s1,de,bt,cb,Jb8,cG,_⟩:=aE (Fx o mo tn i)
  have eg:s1.pre:=by rw [cb];exact ⟨True.intro,by simp [aq];omega⟩
  refine cN (bX named mixed bL (nt:=299) 1 (B4 aB) 100000 _ _ _ _ (by kernel_rfl) de) bf bA eg (K:=λa w=>(aT 1 (B4 aB)).wp prog (Exit.then (bh prog (B4 aB) Q) Q) a w) (λφ1 w1 a1 fD bO=> ?_) _ (λa w h=>h)
  have ld:=pB bO bt rfl (bO.fit.bB (bV (λc o h=>(bf.ids c o h).1) cG)) bn
  refine fh (a:=cA 0 (aT 1 (B4 aB))) (b:=aT 0 (aT 1 (B4 aB))) (by kernel_rfl) ?_
  refine gk (id:=7) (b:=B7 aB) (by kernel_rfl) ?_
  obtain ⟨xo,s2,xc,gZ,kn,Lg,xx,_⟩:=aE (ON o mo tn i)
  have Pf:s2.pre:=by rw [kn];exact True.intro
  refine cN (bX named mixed bL (nt:=299) 1 (B7 aB) 100000 _ _ _ _ (by kernel_rfl) xc) ld bA Pf (λφ2 w2 a2 Gg eM=> ?_) _ (λa w h=>h)
  have kj:At κ (H5 P cs (.cQ pv) own) 299 96 (E55 o mo tn i 0) φ2 w2 a2:=by
   refine eM.Jb4 (eM.fit.bB (bV (λc o h=>(bn c o h).1) xx)) bn ?_
   exact ab ⟨_,ai gZ 0 rfl rfl,rfl,by show 12<96;omega⟩<|ab ⟨_,ai gZ 1 rfl rfl,rfl,by show 14<96;omega⟩<|ab ⟨_,ai gZ 2 rfl rfl,rfl,trivial⟩<|ab ⟨_,ai gZ 3 rfl rfl,rfl,trivial⟩<|ab ⟨_,ai gZ 4 rfl rfl,rfl,trivial⟩<|ab ⟨_,ai gZ 5 rfl rfl,rfl,trivial⟩<|ab ⟨_,ai gZ 6 rfl rfl,rfl,trivial⟩<|ab ⟨_,ai gZ 7 rfl rfl,rfl,trivial⟩ aC
  refine fh (a:=L5 aB) (b:=RW aB) (by kernel_rfl) ?_
  obtain ⟨Tb,s3,Cz,iL,tR,Tk,CD,_⟩:=aE (KB o mo tn i 0)
  have S3:s3.pre:=by rw [tR];exact True.intro
  refine cN (bX named mixed bL (nt:=299) 0 (L5 aB) 100000 _ _ _ _ (by kernel_rfl) Cz) kj bA S3 (λφ3 w3 a3 xz lh=> ?_) _ (λa w h=>h)
  have pK:At κ (H5 P cs (.cQ pv) own) 299 96 (Yb o mo tn i 0 0) φ3 w3 a3:=by
   refine lh.Jb4 (lh.fit.bB (bV (λc o h=>(bn c o h).1) CD)) bn ?_
   exact ab ⟨_,ai iL 0 rfl rfl,rfl,by show 12<96;omega⟩<|ab ⟨_,ai iL 1 rfl rfl,rfl,by show 14<96;omega⟩<|ab ⟨_,ai iL 2 rfl rfl,rfl,trivial⟩<|ab ⟨_,ai iL 3 rfl rfl,rfl,trivial⟩<|ab ⟨_,ai iL 4 rfl rfl,rfl,trivial⟩<|ab ⟨_,ai iL 5 rfl rfl,rfl,trivial⟩<|ab ⟨_,ai iL 6 rfl rfl,rfl,trivial⟩<|ab ⟨_,ai iL 7 rfl rfl,rfl,trivial⟩<|ab ⟨_,ai iL 8 rfl rfl,rfl,trivial⟩<|ab ⟨_,ai iL 9 rfl rfl,rfl,trivial⟩ aC
  have LH:nq φ3 pv own (Ci ps0 cs o mo i):=tZ.congr (by rw [xz 13 (by show 13<96;omega),Gg 13 (by show 13<96;omega),fD 13 (by show 13<96;omega)])
  refine gk (id:=8) (b:= .loop (bK (L5 aB))) (by kernel_rfl) ?_
  refine bh.wp (Sg (κ:=κ) (P:=P) (pv:=pv) (own:=own) (tn:=tn) (i:=i) tZ.own jd ho xF (φ0:=φ3) (λa4 w4 h4=> ?_) o 0 (by omega) a3 w3 ⟨φ3,pK,λ_ _=>rfl⟩)
  obtain ⟨φ4,ja,xI⟩:=h4
  have ZV:nq φ4 pv own (Ci ps0 cs o mo i):=LH.congr (xI 13 (by omega))
  show (RW aB).wp prog _ a4 w4
  generalize hmi:mo*(gD cs o i).length=mi at ja
  have Jaj:mi<=64000:=by
   have h1:=Ch cs o i
   have h2:mo*(gD cs o i).length<=4000*16:=Nat.mul_le_mul xF (by omega)
   omega
  have lP:At κ (H5 P cs (.cQ pv) own) 299 96 (E55 o mo tn i mi) φ4 w4 a4:=ja.Jb4 ja.fit bn (ab ⟨_,rfl,rfl,by show 12<96;omega⟩<|ab ⟨_,rfl,rfl,by show 14<96;omega⟩<|ab ⟨_,rfl,rfl,trivial⟩<|ab ⟨_,rfl,rfl,trivial⟩<|ab ⟨_,rfl,rfl,trivial⟩<|ab ⟨_,rfl,rfl,trivial⟩<|ab ⟨_,rfl,rfl,trivial⟩<|ab ⟨_,rfl,rfl,trivial⟩ aC)
  obtain ⟨CH,s5,oC,gK,kp,Cx,lZ,_⟩:=cV (OO pv (P.n:Int) o mo tn i cs.length mi)
  have Ax:s5.pre:=by rw [kp];exact True.intro
  refine jI named (sound named mixed bL 60) KF.1 KF.2 oC lP (dC bn (ab (mM bq) aC)) Ax (λφ5 w5 a5 xe iO=> ?_)
  have mQ:At κ (H5 P cs (.cQ pv) own) 299 96 (Sf o mo tn i++[(167,.cQ pv),(168,.aa .i64 (i:Nat)),(169,.aa .i64 (mi:Nat))]) φ5 w5 a5:=by
   refine iO.Jb4 (iO.fit.bB (bV (λc o h=>(bn c o h).1) lZ)) bn ?_
   exact ab ⟨_,ai gK 0 rfl rfl,rfl,by show 12<96;omega⟩<|ab ⟨_,ai gK 1 rfl rfl,rfl,by show 14<96;omega⟩<|ab ⟨_,ai gK 2 rfl rfl,rfl,trivial⟩<|ab ⟨_,ai gK 3 rfl rfl,rfl,trivial⟩<|ab ⟨_,ai gK 4 rfl rfl,rfl,trivial⟩<|ab ⟨_,ai gK 5 rfl rfl,rfl,trivial⟩<|ab ⟨_,ai gK 6 rfl rfl,rfl,trivial⟩<|ab ⟨_,ai gK 7 rfl rfl,rfl,trivial⟩<|ab ⟨_,ai gK 8 rfl rfl,rfl,trivial⟩ aC
  have Ph:nq φ5 pv own (Ci ps0 cs o mo i):=ZV.congr (xe 13 (by show 13<96;omega))
  rw [fC 4 2,wpOps_cons]
  obtain ⟨r,kO,kz,CA,CC⟩:=Ve
  have P3:=DO ps0 cs (o:=o) (mo:=mo) i xF YB
  have hi3:i<=2:=by omega
  refine gz named KG kO kz CA (avs:=[.cQ pv,.aa .i64 (i:Nat),.aa .i64 (mi:Nat)]) rfl mQ (DP mQ.fit Ph (t:=(i:Nat)) (more:=mi) (by omega) (by omega)) ?_
  rintro e w6 ⟨v,φ6,Ld,rfl,P2,O5,Aj⟩
  have pJ:=eL (P:=P) (cs:=cs) (pv:= .cQ pv) (own:=Ld) trivial O5.own
  refine ⟨φ6,H5 P cs (.cQ pv) Ld,96,.cQ v,Sf o mo tn i,_,rfl,Nat.le_refl _,(λt u hu=> ?_),Aj,pJ,trivial,by rw [CC];rfl,λa6 ub=> ?_⟩
  ·have hm:=gh hu
   simp only [Sf,List.mem_cons,List.not_mem_nil,or_false,Prod.mk.injEq] at hm
   rcases hm with ⟨rfl,rfl⟩ | ⟨rfl,rfl⟩ | ⟨rfl,rfl⟩ | ⟨rfl,rfl⟩ | ⟨rfl,rfl⟩ | ⟨rfl,rfl⟩
   ·exact ⟨rfl,by simp only [Jb1,P2 12 (by omega)]⟩
   ·exact ⟨rfl,by simp only [Jb1,P2 14 (by omega)]⟩
   ·exact ⟨rfl,rfl⟩
   ·exact ⟨rfl,rfl⟩
   ·exact ⟨rfl,rfl⟩
   ·exact ⟨rfl,rfl⟩
  obtain ⟨Zr,s7,SG,Cw,Lh,Y1,TD,Tj⟩:=cV (KE pv (P.n:Int) o mo tn i cs.length v)
  have YM:s7.pre:=by rw [Lh];exact True.intro
  have Lp:At κ (H5 P cs (.cQ pv) Ld) 299 96 [(3,.ptr 12 0),(7,.ptr 14 0),(9,.aa .i64 (o:Nat)),(11,.aa .i64 (mo:Nat)),(146,.aa .i64 (tn:Nat)),(147,.aa .i64 (i:Nat)),(170,.cQ v)] φ6 w6 a6:=ub.Jb4 ub.fit pJ (ab ⟨_,rfl,rfl,by show 12<96;omega⟩<|ab ⟨_,rfl,rfl,by show 14<96;omega⟩<|ab ⟨_,rfl,rfl,trivial⟩<|ab ⟨_,rfl,rfl,trivial⟩<|ab ⟨_,rfl,rfl,trivial⟩<|ab ⟨_,rfl,rfl,trivial⟩<|ab ⟨_,rfl,rfl,trivial⟩ aC)
  refine Jc0 named (sound named mixed bL 60) (q:=5) (r:=2) KF.2 SG Lp (dC pJ (ab (mM bq) aC)) YM (λφ7 w7 a7 To qH=> ?_)
  have K8:=KM bq O5.own TD rfl (ah Tj 0 rfl rfl) qH.fit
  have Lw:=eL (P:=P) (cs:=cs) (pv:= .cQ v) (own:=Ld) trivial O5.own
  have Vp:=pB qH Cw rfl K8 Lw
  show (aT 0 (aT 1 (B4 aB))).wp prog (Exit.then (bh prog (B4 aB) Q) Q) a7 w7
  obtain ⟨Zd,s8,Sz,FQ,Ln,ZS,Ti,_⟩:=aE (Fy o mo tn i)
  have Za:s8.pre:=by rw [Ln];exact ⟨True.intro,rfl⟩
  refine cN ((bE named (cj mixed) (sound named mixed bL 60) (nt:=299) 100000).1 _ _ _ _ _ _ Sz) Vp bA Za (K:=λa w=>bh prog (B4 aB) Q a w) (λφ8 w8 a8 Wc Aw=> ?_) _ (λa w h=>h)
  refine ih (i+1) (by omega) a8 w8 ⟨φ8,v,Ld,pB Aw FQ (by rw [wrap64 (by omega) (by omega)];omega) (Aw.fit.bB (bV (λc o h=>(Lw c o h).1) Ti)) Lw,?_⟩
  rw [Ab,hmi]
  exact O5.congr (by rw [Wc 13 (by show 13<96;omega),To 13 (by show 13<96;omega)])
end
end
open Ev Ct
def KK (P:cv) (zs:List Int):KC:=⟨P,nI (jv (P.n-1) zs zs.length) (P.n-1) (zs.length+1)⟩
section
variable {P:cv} {zs:List Int}
theorem iJ:(KK P zs).cs.length=2*zs.length+1:=by
 show (nI _ _ _).length=_
 rw [wY,jc];omega
theorem KN {c:Nat} (h:c<zs.length):(KK P zs).cs[c]?=some (sa (P.n-1) c (nth zs c)):=by
 show (nI _ _ _)[c]?=_
 unfold nI
 rw [List.getElem?_append_left (by rw [jc];exact h)]
 unfold jv
 rw [List.getElem?_map,List.getElem?_range h];rfl
theorem sd {c:Nat} (h:zs.length<=c) (h2:c<2*zs.length+1):(KK P zs).cs[c]?=some (P.n-1,true,0):=by
 show (nI _ _ _)[c]?=_
 unfold nI
 rw [List.getElem?_append_right (by rw [jc];exact h),jc,List.getElem?_replicate,if_pos (by omega)]
theorem KO (K:KC) (t:Nat):(K.ix t).Nodup:=by
 unfold KC.ix
 exact List.Nodup.sublist (List.filter_sublist) List.nodup_range
theorem KP {K:KC} {t p:Nat} (h:p<K.nc t):(K.ix t)[p]?=some (K.at_ t p):=by
 have h':p<(K.ix t).length:=h
 unfold KC.at_
 rw [List.getElem?_eq_getElem h'];rfl
theorem Cj {K:KC} {t p t' p':Nat} (h:p<K.nc t) (h':p'<K.nc t') (e:K.at_ t p=K.at_ t' p'):t=t'∧p=p':=by
 have e1:=lF h
 have e2:=lF h'
 rw [e,e2] at e1
 have ht:t'=t:=congrArg Prod.fst (Option.some.inj e1)
 subst ht
 refine ⟨rfl,?_⟩
 have g1:=KP h
 have g2:=KP h'
 rw [e] at g1
 have hp:p<(K.ix t').length:=h
 exact (List.getElem?_inj hp (KO K t')).1 (g1.trans g2.symm)
theorem nh {c:Nat} {r:Nat×Bool×Nat} (hn:2<=P.n) (h:(KK P zs).cs[c]?=some r):r.1<P.n∧(r.2.1=false->c<zs.length∧r.2.2=c)∧(r.1=P.n-1->r.2.1=true∧zs.length<=c)∧(c<zs.length->r.2.2=c)∧r.2.2<=zs.length:=by
 have dA:c<(KK P zs).cs.length:=(List.getElem?_eq_some_iff.1 h).1
 rw [iJ] at dA
 by_cases hc:c<zs.length
 ·rw [KN hc] at h
  obtain rfl:=Option.some.inj h
  have hm:(nth zs c).toNat%(P.n-1)<P.n-1:=Nat.mod_lt _ (by omega)
  refine ⟨?_,λ_=>⟨hc,rfl⟩,λe=> ?_,λ_=>rfl,?_⟩
  ·show (nth zs c).toNat%(P.n-1)<P.n;omega
  ·have e:(nth zs c).toNat%(P.n-1)=P.n-1:=e
   omega
  ·show c<=zs.length;omega
 ·rw [sd (by omega) dA] at h
  obtain rfl:=Option.some.inj h
  refine ⟨by show P.n-1<P.n;omega,(λe=>by cases e),λ_=>⟨rfl,by omega⟩,λh=>absurd h hc,Nat.zero_le _⟩
theorem Vi (hn:2<=P.n) (u:Nat) (hu:u≠P.n-1): ∀ c,zs.length<=c->c<=2*zs.length+1->gD (KK P zs).cs c u=gD (KK P zs).cs zs.length u:=by
 intro c hc
 induction c with
 | zero=>intro _;rw [show zs.length=0 by omega]
 | succ c ih=>
  intro h2
  by_cases e:zs.length=c+1
  ·rw [e]
  ·rw [ke (sd (by omega) (by omega)),if_neg (λh=>hu h.symm),List.append_nil]
   exact ih (by omega) (by omega)
theorem Vj (hn:2<=P.n): ∀ c,c<=zs.length->gD (KK P zs).cs c (P.n-1)=[]:=by
 intro c
 induction c with
 | zero=>intro _;rfl
 | succ c ih=>
  intro h
  have hm:(nth zs c).toNat%(P.n-1)<P.n-1:=Nat.mod_lt _ (by omega)
  rw [ke (KN (by omega)),ih (by omega),if_neg (by show ¬ (nth zs c).toNat%(P.n-1)=P.n-1;omega)]
  rfl
theorem Yc (hn:2<=P.n): ∀ k,k<=zs.length+1->(gD (KK P zs).cs (zs.length+k) (P.n-1)).length=k:=by
 intro k
 induction k with
 | zero=>intro _;rw [Nat.add_zero,Vj hn _ (Nat.le_refl _)];rfl
 | succ k ih=>
  intro h
  rw [<- Nat.add_assoc,ke (sd (by omega) (by omega)),if_pos rfl,List.length_append,ih (by omega)]
  rfl
theorem Ac (hn:2<=P.n) (hz:zs.length<=1000):Calls' (KK P zs).nc (KK P zs).V (KK P zs).kd (P.n-1) zs.length:=by
 have key: ∀ u p,p<(KK P zs).nc u->_:=λu p h=>nh hn (lF h)
 have off: ∀ u p,¬ p<(KK P zs).nc u->(KK P zs).call ((KK P zs).at_ u p)=(0,true,0):=λu p h=>by
  have h':((KK P zs).ix u).length<=p:=by
   have: ¬ p<((KK P zs).ix u).length:=h
   omega
  unfold KC.call KC.at_
  rw [List.getElem?_eq_none h']
  show ((KK P zs).cs[(KK P zs).cs.length]?).getD (0,true,0)=_
  rw [List.getElem?_eq_none (Nat.le_refl _)]
  rfl
 refine ⟨λu p=> ?_,λu p h hk=> ?_,λu p u' p' h h' hk ru he=> ?_,λp=> ?_,?_⟩
 ·by_cases h:p<(KK P zs).nc u
  ·have:=(key u p h).2.2.2.2
   have:(KK P zs).V u p<=zs.length:=this
   omega
  ·unfold KC.V
   rw [off u p h]
   show (0:Nat)<_;omega
 ·obtain ⟨h1,h2⟩:=(key u p h).2.1 hk
  have h2:(KK P zs).V u p=(KK P zs).at_ u p:=h2
  omega
 ·obtain ⟨h1,h2⟩:=(key u p h).2.1 hk
  obtain ⟨h3,h4⟩:=(key u' p' h').2.1 ru
  have h2:(KK P zs).V u p=(KK P zs).at_ u p:=h2
  have h4:(KK P zs).V u' p'=(KK P zs).at_ u' p':=h4
  exact Cj h h' (by omega)
 ·by_cases h:p<(KK P zs).nc (P.n-1)
  ·exact ((key _ p h).2.2.1 rfl).1
  ·unfold KC.kd
   rw [off _ p h]
 ·show (gD (KK P zs).cs (KK P zs).cs.length (P.n-1)).length=_
  rw [iJ,show 2*zs.length+1=zs.length+(zs.length+1) by omega]
  exact Yc hn _ (Nat.le_refl _)
end
end Qk
end Go.Proofs.YtpkfimijnkkbjaaGreat
