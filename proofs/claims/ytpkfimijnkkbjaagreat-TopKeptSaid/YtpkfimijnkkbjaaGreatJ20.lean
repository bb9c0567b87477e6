/- The heap of a play of a queue, by names, at any time: 0 the player, 1 its world, 2 the memory, 3 words, 4 the line, 5 its map, 7 calls, 8 events, 9 objects, 10 traces, 12 the queue, 13 to 15 the calle -/
import Derived.Test.YtpkfimijnkkbjaaGreatJ17
import Derived.Test.YtpkfimijnkkbjaaGreatJ19
set_option linter.unusedVariables false
namespace Go.Proofs.YtpkfimijnkkbjaaGreat
namespace Qk
open Ev Ct
structure KC where
 P:cv
 cs:List (Nat×Bool×Nat)
def KC.ix (K:KC) (t:Nat):List Nat:=(List.range K.cs.length).filter λi=>match K.cs[i]? with | some c=>c.1==t | none=>false
def KC.nc (K:KC) (t:Nat):Nat:=(K.ix t).length
def KC.call (K:KC) (i:Nat):Nat×Bool×Nat:=(K.cs[i]?).getD (0,true,0)
def KC.at_ (K:KC) (t p:Nat):Nat:=((K.ix t)[p]?).getD K.cs.length
def KC.V (K:KC) (t p:Nat):Nat:=(K.call (K.at_ t p)).2.2
def KC.kd (K:KC) (t p:Nat):Bool:=(K.call (K.at_ t p)).2.1
def Om (b:Bool):Int:=match b with | true=>1 | false=>0
def bj (c:Nat×Bool×Nat):List AV:=[.aa .i64 (c.1:Nat),.int .i64 0,.int .i64 (Om c.2.1),.aa .u64 (c.2.2:Nat),.int .u64 0,.int .u64 0]
def KC.calls (K:KC):List AV:=K.cs.flatMap bj
def KC.lst (K:KC) (t:Nat):List AV:=(K.ix t).map λi=> .aa .i64 (i:Nat)
structure Jq where
 turn:Int
 ats:Nat->Nat
 cn:Nat->Int
 idle:Int
 aA:Int
 inv:Nat->Int
 af:Nat->Bool
 c:Nat->Int
 evl:Nat
 evs:List AV
 own:Nat->Nat×Nat
 left:Int
 lmap:List (Int×AV)
 jr:Nat->Nat->Int
 j2:Nat->Nat->Int
 j3:Nat->Nat->Int
 oth:Nat->Option ak
def mK (s:Qs) (u:Nat):AV:=match decide (u<4)&&(s.cur u).isSome with
 | true=> .iface 283 (.ptr (33+u) 0)
 | false=> .aX
def dB (j:Jq) (u:Nat):AV:=match decide (u<4)&&j.af u with
 | true=> .aF (49+u) 1 0 0 1 1
 | false=> .au
def ju (j:Jq):AV:=if j.evl=0 then .au else .ae 8 8 0 0 j.evl j.evl
def wF:AV:= .aF 9 1 0 0 1 1
def Fa (K:KC):AV:= .ae 7 6 0 0 K.cs.length K.cs.length
def Xo (K:KC) (s:Qs) (j:Jq):ak:= .row false (PK wF (Fa K) (.aa .i64 j.turn) (mK s) (λu=> .aa .i64 (j.ats u:Nat)) (ju j) .au (λi=> .aa .i64 (j.cn i)) j.idle) 83 none
def wK (j:Jq):ak:=wW j.aA (λu=> .aa .i64 (j.inv u)) (dB j)
def ct (s:Qs) (u:Nat):AV:= .aa .i64 (s.look u:Nat)
def Uw (s:Qs) (j:Jq) (u:Nat):Option ak:=(s.cur u).map λo=>bp u (65+u) (24+u) (j.jr u) o
def wG (P:cv) (j:Jq) (u:Nat):Os->Option ak
 | .sub (.fn f) _=>some (bk P (j.j2 u) f)
 | .sub (.hp take w ph x) _=>some (aY P (81+u) (j.j2 u) take w ph x)
 | _=>none
def wH (P:cv) (j:Jq) (u:Nat):Os->Option ak
 | .sub (.hp _ _ _ (.sub f _)) _=>some (bk P (j.j3 u) f)
 | _=>none
def Fb (K:KC) (s:Qs) (j:Jq):Nat->Option ak
 | 0=>some (Xo K s j)
 | 1=>some (wK j)
 | 2=>some (mR K.P j.c)
 | 3=>some (Jb5 (aG K.P s.M))
 | 4=>some (.row false [.ed 5,.aa .i64 j.left] 113 none)
 | 5=>some (.map true j.lmap)
 | 6=>j.oth 6
 | 7=>some (.row true K.calls 42 (some 6))
 | 8=>if j.evl=0 then none else some (.row true j.evs 48 (some 8))
 | 9=>some (.row false [.iface 162 (.ptr 12 0)] 107 (some 1))
 | 10=>some (.map true [])
 | 12=>some (iq K.P (ct s))
 | 13=>j.oth 13
 | 14=>j.oth 14
 | 15=>j.oth 15
 | _=>none
def b7 (K:KC) (s:Qs) (j:Jq) (b:Nat):Option ak:=
 if b<16 then Fb K s j b
 else if b<32 then (if b-16<K.P.n∧K.nc (b-16)≠0 then some (.row true (K.lst (b-16)) 3 (some 1)) else none)
 else if b<33 then none
 else if b<49 then (if b-33<K.P.n then Uw s j (b-33) else none)
 else if b<65 then none
 else if b<81 then (if b-65<K.P.n then (s.cur (b-65)).bind (λo=>wG K.P j (b-65) o.st) else none)
 else if b<97 then (if b-81<K.P.n then (s.cur (b-81)).bind (λo=>wH K.P j (b-81) o.st) else none)
 else none
section
variable {K:KC} {s:Qs} {j:Jq} {b u:Nat}
theorem dj (h:b<16):b7 K s j b=Fb K s j b:=by unfold b7;rw [if_pos h]
theorem oe (h:u<16):b7 K s j (16+u)=if u<K.P.n∧K.nc u≠0 then some (.row true (K.lst u) 3 (some 1)) else none:=by
 unfold b7;rw [if_neg (by omega),if_pos (by omega),show 16+u-16=u by omega]
theorem vm (h:u<16):b7 K s j (33+u)=if u<K.P.n then Uw s j u else none:=by
 unfold b7;rw [if_neg (by omega),if_neg (by omega),if_neg (by omega),if_pos (by omega),show 33+u-33=u by omega]
theorem qD (h:u<16):b7 K s j (65+u)=if u<K.P.n then (s.cur u).bind (λo=>wG K.P j u o.st) else none:=by
 unfold b7;rw [if_neg (by omega),if_neg (by omega),if_neg (by omega),if_neg (by omega),if_neg (by omega),if_pos (by omega),show 65+u-65=u by omega]
theorem qE (h:u<16):b7 K s j (81+u)=if u<K.P.n then (s.cur u).bind (λo=>wH K.P j u o.st) else none:=by
 unfold b7;rw [if_neg (by omega),if_neg (by omega),if_neg (by omega),if_neg (by omega),if_neg (by omega),if_neg (by omega),if_pos (by omega),show 81+u-81=u by omega]
theorem mC (hn:K.P.n<=4) {o:ak} (h:b7 K s j b=some o):b<16∨(∃ u,u<K.P.n∧b=16+u)∨(∃ u,u<K.P.n∧b=33+u)∨(∃ u,u<K.P.n∧b=65+u)∨ ∃ u,u<K.P.n∧b=81+u:=by
 unfold b7 at h
 repeat' split at h
 all_goals first
  | cases h;done
  | (left;omega)
  | (right;left;exact ⟨b-16,by omega,by omega⟩)
  | (right;right;left;exact ⟨b-33,by omega,by omega⟩)
  | (right;right;right;left;exact ⟨b-65,by omega,by omega⟩)
  | (right;right;right;right;exact ⟨b-81,by omega,by omega⟩)
end
structure EvK (K:KC) (s:Qs) (j:Jq):Prop where
 len:j.evs.length=8*j.evl
 all: ∀ v∈j.evs,v.flat=true∧v.aD (λ_=>False)
 ev: ∀ i,i<j.evl-> ∃ (r stp err:Int) (val:Int),j.evs[8*i]?=some (.aa .i64 (K.at_ (j.own i).1 (j.own i).2:Nat))∧j.evs[8*i+2]?=some (.aa .i64 r)∧j.evs[8*i+3]?=some (.aa .i64 stp)∧
  j.evs[8*i+4]?=some (.aa .i64 err)∧j.evs[8*i+5]?=some (.aa .u64 val)∧((j.own i).2<s.pos (j.own i).1->r≠0∧err=((s.out (j.own i).1 (j.own i).2).1:Nat)∧val=((s.out (j.own i).1 (j.own i).2).2:Nat))
 own: ∀ i,i<j.evl->(j.own i).1<K.P.n∧((j.own i).2<s.pos (j.own i).1∨((j.own i).2=s.pos (j.own i).1∧s.cur (j.own i).1≠none))
 inj: ∀ i k,i<j.evl->k<j.evl->j.own i=j.own k->i=k
 ats: ∀ u,u<K.P.n->s.cur u≠none->j.ats u<j.evl∧j.own (j.ats u)=(u,s.pos u)
def busy (s:Qs) (u:Nat):Nat:=match s.cur u with | some _=>1 | none=>0
structure kY (K:KC) (s:Qs) (j:Jq) (k:Nat):Prop where
 aA:0<=j.aA∧j.aA<=k
 evl:j.evl=gU K.P.n (λu=>s.pos u+busy s u)
 evs:EvK K s j
 lm: ∀ u,u<K.P.n->K.nc u≠0->cR (u:Int) j.lmap=some (.ae (16+u) 1 (s.pos u) (if s.pos u=K.nc u then s.pos u-1 else 0) (K.nc u-s.pos u) (K.nc u))
 TL: ∀ x:Int,(∀ u:Nat,u<K.P.n->K.nc u≠0->x≠u)->cR x j.lmap=none
 mD: ∀ p∈j.lmap,p.2.aD λi=>16<=i∧i<20
 oth: ∀ b o,j.oth b=some o->o.aD λ_=>False
open Go.IntKind (i64 u64)
theorem Ru (err val:Int):(AV.agg [.aa .i64 err,.aa .u64 val,.au]).cells=[.aa .i64 err,.aa .u64 val,.au]:=rfl
theorem Rv {l m:List AV} {o k:Nat} (ho:o+m.length<=l.length) (hk:k<m.length):(l.take o++m++l.drop (o+m.length))[o+k]?=m[k]?:=by
 rw [List.getElem?_append_left (by simp;omega),List.getElem?_append_right (by simp;omega)]
 congr 1
 simp;omega
section
variable {evs:List AV} {a:Nat} {stp err val aA:Int}
theorem m8:(ta evs (a:Nat) stp).length=evs.length:=by unfold ta;simp
theorem Dv {i:Nat} (h:i≠8*a+3):(ta evs (a:Nat) stp)[i]?=evs[i]?:=by
 unfold ta
 rw [List.getElem?_set_ne (by simp;omega)]
theorem J1 (h:8*a+3<evs.length):(ta evs (a:Nat) stp)[8*a+3]?=some (.aa .i64 (i64.wrap (stp+1))):=by
 unfold ta
 have e:(0+(a:Int).toNat)*8+(2+1)=8*a+3:=by simp;omega
 rw [e,List.getElem?_set_self h]
theorem wI:dM evs (a:Nat) stp err val=(ta evs (a:Nat) stp).take (8*a+4)++[.aa .i64 err,.aa .u64 val,.au]++(ta evs (a:Nat) stp).drop (8*a+4+3):=by
 unfold dM
 have e:(0+(a:Int).toNat)*8+(3+1)=8*a+4:=by simp;omega
 rw [e,Ru]
 rfl
theorem Dw (h:8*a+8<=evs.length):(dM evs (a:Nat) stp err val).length=evs.length:=by
 rw [wI]
 have:=Ol (l:=ta evs (a:Nat) stp) (m:=[.aa .i64 err,.aa .u64 val,.au]) (o:=8*a+4) (by rw [m8];simp;omega)
 rw [m8] at this
 exact this
theorem Dx (h:8*a+8<=evs.length) {i:Nat} (hi:i<8*a+4∨8*a+7<=i):(dM evs (a:Nat) stp err val)[i]?=(ta evs (a:Nat) stp)[i]?:=by
 rw [wI]
 exact Ok (l:=ta evs (a:Nat) stp) (m:=[.aa .i64 err,.aa .u64 val,.au]) (o:=8*a+4) (by rw [m8];simp;omega) (by simp;omega)
theorem J2 (h:8*a+8<=evs.length) {r:Nat} (hr:r<3):(dM evs (a:Nat) stp err val)[8*a+4+r]?=[.aa .i64 err,.aa .u64 val,.au][r]?:=by
 rw [wI]
 exact Rv (l:=ta evs (a:Nat) stp) (m:=[.aa .i64 err,.aa .u64 val,.au]) (o:=8*a+4) (by rw [m8];simp;omega) (by simp;omega)
structure EvT (evs lL:List AV) (a:Nat) (stp:Int):Prop where
 len:lL.length=evs.length
 oth: ∀ i,i≠8*a+3->lL[i]?=evs[i]?
 at_:lL[8*a+3]?=some (.aa .i64 (i64.wrap (stp+1)))
structure On (evs lL:List AV) (a:Nat) (stp aA err val:Int):Prop where
 len:lL.length=evs.length
 oth: ∀ i,i<8*a+2∨8*a+8<=i->lL[i]?=evs[i]?
 j8:lL[8*a+2]?=some (.aa .i64 (i64.wrap (aA+1)))
 stp:lL[8*a+3]?=some (.aa .i64 (i64.wrap (stp+1)))
 err:lL[8*a+4]?=some (.aa .i64 err)
 val:lL[8*a+5]?=some (.aa .u64 val)
 flat:(∀ v∈evs,v.flat=true)-> ∀ v∈lL,v.flat=true
theorem evT (h:8*a+8<=evs.length):EvT evs (ta evs (a:Nat) stp) a stp:=⟨m8,λ_ h=>Dv h,J1 (by omega)⟩
theorem zR (h: ∀ v∈evs,v.flat=true): ∀ v∈ta evs (a:Nat) stp,v.flat=true:=mB h rfl
theorem X0 (h:8*a+8<=evs.length) {key:AV} (hk:key.flat=true):On evs (((dM evs (a:Nat) stp err val).set (8*a+7) key).set (8*a+2) (.aa .i64 (i64.wrap (aA+1)))) a stp aA err val:=by
 have hl:=Dw (stp:=stp) (err:=err) (val:=val) h
 refine ⟨by simp [hl],λi hi=> ?_,?_,?_,?_,?_,λhf=> ?_⟩
 ·rw [List.getElem?_set_ne (by omega),List.getElem?_set_ne (by omega),Dx h (by omega),Dv (by omega)]
 ·rw [List.getElem?_set_self (by simp [hl];omega)]
 ·rw [List.getElem?_set_ne (by omega),List.getElem?_set_ne (by omega),Dx h (by omega),J1 (by omega)]
 ·rw [List.getElem?_set_ne (by omega),List.getElem?_set_ne (by omega)]
  exact J2 h (r:=0) (by omega)
 ·rw [List.getElem?_set_ne (by omega),List.getElem?_set_ne (by omega)]
  exact J2 h (r:=1) (by omega)
 ·refine mB (mB ?_ hk) rfl
  rw [wI]
  exact JZ (zR hf) (λv hv=>by simp only [List.mem_cons,List.not_mem_nil,or_false] at hv;rcases hv with rfl | rfl | rfl<;>rfl)
theorem On.Ux {lL:List AV} (h:On evs lL a stp aA err val) {key:AV} (hk:key.flat=true):On evs (lL.set (8*a+7) key) a stp aA err val:=
 ⟨by simp [h.len],λi hi=>by rw [List.getElem?_set_ne (by omega)];exact h.oth i hi,by rw [List.getElem?_set_ne (by omega)];exact h.j8,by rw [List.getElem?_set_ne (by omega)];exact h.stp,by rw [List.getElem?_set_ne (by omega)];exact h.err,by rw [List.getElem?_set_ne (by omega)];exact h.val,λhf=>mB (h.flat hf) hk⟩
end
section
open Go.Proofs.Tryz (prog)
variable {l subs subs':List (Nat×ak)} {a t at_ evl lk ll lt:Nat} {ob cl turn:AV} {m ats cn inv:Nat->AV} {idle aA call stp:Int} {evs lst:List AV} {lmap:List (Int×AV)} {xr xm ym xs ys xq:ak}
theorem Oo (h:l.map (·.1)=[]):l=[]:=List.map_eq_nil_iff.1 h
theorem Rw (h:l.map (·.1)=[a]): ∃ x,l=[(a,x)]:=by
 cases l with
 | nil=>cases h
 | cons p l=>simp only [List.map_cons,List.cons.injEq] at h;obtain ⟨rfl,h⟩:=h;exact ⟨p.2,by rw [Oo h]⟩
theorem Uy {b:Nat} (h:l.map (·.1)=[a,b]): ∃ x z,l=[(a,x),(b,z)]:=by
 cases l with
 | nil=>cases h
 | cons p l=>
  simp only [List.map_cons,List.cons.injEq] at h
  obtain ⟨rfl,h⟩:=h
  obtain ⟨z,rfl⟩:=Rw h
  exact ⟨p.2,z,rfl⟩
theorem Rx (ht:t<4) {wd:AV} {af marks2:Nat->AV} {left:Int} {yr:ak} {aN:List (Nat×ak)} (kr:subs=[]∨(∃ x,subs=[(64,x)])∨ ∃ x z,subs=[(64,x),(80,z)]) (nM:subs'.map (·.1)=subs.map (·.1)) (lQ:aN=[]∨ ∃ y,aN=[(100,y)]) (lg:cR (t:Int) lmap=some (.ae (16+t) 1 lk 0 ll lt)) (Wl:0<ll) (dA:lk+ll<=lt) (Lz:lst[lk]?=some (.aa .i64 call)) (bf:at_<evl) (dP:evs.length=8*evl) (FO:evs[8*at_+3]?=some (.aa .i64 stp)):
  ∃ oo s1,aW prog (dw [(231,{ args:=[.ptr 32 0,.ptr 1 0],ins:=(32,xr)::(subs++[(12,xq),(1,wW (i64.wrap (aA+1)) inv af),(2,xm),(3,xs)]),v:= .bool false,outs:=(32,yr)::(subs'++([(12,xq),(1,wW (i64.wrap (aA+1)) inv marks2),(2,ym),(3,ys)]++aN)),nx:=96,k:=6 })] bz) 60 22 [.ptr 0 0,.int .i64 (t:Nat)] ⟨mk ([(0,.row false (PK ob cl turn (bm m t (.iface 283 (.ptr 32 0))) (bm ats t (.aa .i64 (at_:Nat))) (.ae 8 8 0 0 evl evl) wd cn idle) 83 none),(1,wW aA inv af),(2,xm),(3,xs),(4,.row false [.ed 5,.aa .i64 left] 113 none),(5,.map true lmap),(16+t,.row true lst 3 (some 1)),(8,.row true evs 48 (some 8)),(12,xq),(32,xr)]++subs),96,0,0,True,oo⟩= .ok (.bool false) s1∧s1.pre∧s1.next=102∧
   ∀ p∈[(0,.row false (PK ob cl (.int .i64 (t:Nat)) (bm m t (.iface 283 (.ptr 32 0))) (bm ats t (.aa .i64 (at_:Nat))) (.ae 8 8 0 0 evl evl) wd cn idle) 83 none),(1,wW (i64.wrap (aA+1)) inv marks2),(2,ym),(3,ys),(4,.row false [.ed 5,.aa .i64 left] 113 none),(5,.map true lmap),(16+t,.row true lst 3 (some 1)),(8,.row true (ta evs (at_:Nat) stp) 48 (some 8)),(12,xq),(32,yr)]++subs'++aN,s1.get p.1=some p.2:=by
 have hc:aq .eql (ll:Int) (0:Int)=false:=by rw [show (0:Int)=((0:Nat):Int) from rfl,iC];exact decide_eq_false (by omega)
 have CG: ∀ i:Nat,i<1->lst[(lk+Int.toNat (0:Int))*1+i]?=[AV.aa .i64 call][i]?:=pg Lz (by simp)
 have nB: ∀ i:Nat,i<1->evs[(0+(at_:Int).toNat)*8+(2+1)+i]?=[AV.aa .i64 stp][i]?:=pg FO (by simp;omega)
 have xk:(0+(at_:Int).toNat)*8+(2+1)<evs.length:=by simp;omega
 rcases kr with rfl | ⟨x,rfl⟩ | ⟨x,z,rfl⟩
 ·have hn:=Oo nM
  subst hn
  rcases lQ with rfl | ⟨y,rfl⟩
  ·obtain ⟨s1,cW,aQ,eP,dc,aI⟩:=b9 (Jn t ht ob cl turn m ats (at_:Nat) wd cn idle aA inv af marks2 evl evs left lmap lst lk ll lt call stp xr yr xm ym xs ys xq)
   exact ⟨_,s1,cW,(by rw [aQ];(repeat' apply And.intro);all_goals first | exact True.intro | rfl | omega | assumption),eP,eW aI rfl rfl⟩
  ·obtain ⟨s1,cW,aQ,eP,dc,aI⟩:=b9 (Jo t ht ob cl turn m ats (at_:Nat) wd cn idle aA inv af marks2 evl evs left lmap lst lk ll lt call stp xr yr xm ym xs ys xq y)
   exact ⟨_,s1,cW,(by rw [aQ];(repeat' apply And.intro);all_goals first | exact True.intro | rfl | omega | assumption),eP,eW aI rfl rfl⟩
 ·obtain ⟨x2,rfl⟩:=Rw nM
  rcases lQ with rfl | ⟨y,rfl⟩
  ·obtain ⟨s1,cW,aQ,eP,dc,aI⟩:=b9 (Jp t ht ob cl turn m ats (at_:Nat) wd cn idle aA inv af marks2 evl evs left lmap lst lk ll lt call stp xr yr xm ym xs ys xq x x2)
   exact ⟨_,s1,cW,(by rw [aQ];(repeat' apply And.intro);all_goals first | exact True.intro | rfl | omega | assumption),eP,eW aI rfl rfl⟩
  ·obtain ⟨s1,cW,aQ,eP,dc,aI⟩:=b9 (Jr t ht ob cl turn m ats (at_:Nat) wd cn idle aA inv af marks2 evl evs left lmap lst lk ll lt call stp xr yr xm ym xs ys xq x x2 y)
   exact ⟨_,s1,cW,(by rw [aQ];(repeat' apply And.intro);all_goals first | exact True.intro | rfl | omega | assumption),eP,eW aI rfl rfl⟩
 ·obtain ⟨x2,z2,rfl⟩:=Uy nM
  rcases lQ with rfl | ⟨y,rfl⟩
  ·obtain ⟨s1,cW,aQ,eP,dc,aI⟩:=b9 (Js t ht ob cl turn m ats (at_:Nat) wd cn idle aA inv af marks2 evl evs left lmap lst lk ll lt call stp xr yr xm ym xs ys xq x x2 z z2)
   exact ⟨_,s1,cW,(by rw [aQ];(repeat' apply And.intro);all_goals first | exact True.intro | rfl | omega | assumption),eP,eW aI rfl rfl⟩
  ·obtain ⟨s1,cW,aQ,eP,dc,aI⟩:=b9 (Jt t ht ob cl turn m ats (at_:Nat) wd cn idle aA inv af marks2 evl evs left lmap lst lk ll lt call stp xr yr xm ym xs ys xq x x2 z z2 y)
   exact ⟨_,s1,cW,(by rw [aQ];(repeat' apply And.intro);all_goals first | exact True.intro | rfl | omega | assumption),eP,eW aI rfl rfl⟩
theorem Oq (ht:t<4) {wd:AV} {af:Nat->AV} {left:Int} {o1 o2 o3 o4 o5 o6 o7 o8 o9 Md Me Mh Mi FY Mb Mc key:AV} {err val:Int} {marks':Nat->AV} (kr:subs=[]∨(∃ x,subs=[(64,x)])∨ ∃ x z,subs=[(64,x),(80,z)]) (nM:subs'.map (·.1)=subs.map (·.1)) (LP:(∃ kb,key= .slice kb 0 1 1)∨(key= .au∧((∃ m2,marks'=bm m2 t .au)∨ ∃ m2 mb,marks'=bm m2 t (.aF mb 1 0 0 1 1)))) (lg:cR (t:Int) lmap=some (.ae (16+t) 1 lk 0 ll lt)) (Wl:0<ll) (dA:lk+ll<=lt) (Lz:lst[lk]?=some (.aa .i64 call)) (bf:at_<evl) (dP:evs.length=8*evl) (FO:evs[8*at_+3]?=some (.aa .i64 stp)):
  ∃ oo s1 nx lL,aW prog (dw [(231,{ args:=[.ptr 32 0,.ptr 1 0],ins:=(32,xr)::(subs++[(12,xq),(1,wW (i64.wrap (aA+1)) inv af),(2,xm),(3,xs)]),v:= .bool true,outs:=(32,.row false [o1,o2,o3,o4,o5,o6,.aX,o7,o8,o9,Md,Me,Mh,Mi,FY,Mb,Mc,.aa .i64 err,.aa .u64 val,.au,key] 287 none)::(subs'++([(12,xq),(1,wW (i64.wrap (aA+1)) inv marks'),(2,ym),(3,ys)])),nx:=96,k:=6 })] bz) 60 22 [.ptr 0 0,.int .i64 (t:Nat)] ⟨mk ([(0,.row false (PK ob cl turn (bm m t (.iface 283 (.ptr 32 0))) (bm ats t (.aa .i64 (at_:Nat))) (.ae 8 8 0 0 evl evl) wd cn idle) 83 none),(1,wW aA inv af),(2,xm),(3,xs),(4,.row false [.ed 5,.aa .i64 left] 113 none),(5,.map true lmap),(16+t,.row true lst 3 (some 1)),(8,.row true evs 48 (some 8)),(12,xq),(32,xr)]++subs),96,0,0,True,oo⟩= .ok (.bool true) s1∧s1.pre∧s1.next=nx∧nx<=104∧On evs lL at_ stp aA err val∧
   ∀ p∈[(0,.row false (PK ob cl (.int .i64 (t:Nat)) (bm m t .aX) (bm ats t (.aa .i64 (at_:Nat))) (.ae 8 8 0 0 evl evl) wd cn idle) 83 none),(1,wW (i64.wrap (aA+1)) inv marks'),(2,ym),(3,ys),(4,.row false [.ed 5,.aa .i64 (i64.wrap (left-1))] 113 none),(5,.map true (eh (t:Int) (.ae (16+t) 1 (lk+1) lk (ll-1) lt) lmap)),(16+t,.row true lst 3 (some 1)),(8,.row true lL 48 (some 8)),(12,xq)],s1.get p.1=some p.2:=by
 have hc:aq .eql (ll:Int) (0:Int)=false:=by rw [show (0:Int)=((0:Nat):Int) from rfl,iC];exact decide_eq_false (by omega)
 have CG: ∀ i:Nat,i<1->lst[(lk+Int.toNat (0:Int))*1+i]?=[AV.aa .i64 call][i]?:=pg Lz (by simp)
 have nB: ∀ i:Nat,i<1->evs[(0+(at_:Int).toNat)*8+(2+1)+i]?=[AV.aa .i64 stp][i]?:=pg FO (by simp;omega)
 have xk:(0+(at_:Int).toNat)*8+(2+1)<evs.length:=by simp;omega
 have e7:(0+(at_:Int).toNat)*8+(6+1)=8*at_+7:=by simp;omega
 have e2:(0+(at_:Int).toNat)*8+(1+1)=8*at_+2:=by simp;omega
 have hl8:8*at_+8<=evs.length:=by omega
 have hA:=Dw (stp:=stp) (err:=err) (val:=val) hl8
 have Ap:(0+(at_:Int).toNat)*8+(3+1)+3<=(ta evs (at_:Nat) stp).length:=by rw [m8];simp;omega
 have OX:(0+(at_:Int).toNat)*8+(6+1)<(dM evs (at_:Nat) stp err val).length:=by rw [hA];omega
 have O3: ∀ k:AV,(0+(at_:Int).toNat)*8+(1+1)<((dM evs (at_:Nat) stp err val).set ((0+(at_:Int).toNat)*8+(6+1)) k).length:=λk=>by simp only [List.length_set,hA];omega
 have Ed: ∀ k v:AV,(0+(at_:Int).toNat)*8+(6+1)<(((dM evs (at_:Nat) stp err val).set ((0+(at_:Int).toNat)*8+(6+1)) k).set ((0+(at_:Int).toNat)*8+(1+1)) v).length:=λk v=>by simp only [List.length_set,hA];omega
 have LC: ∀ k v x:AV,(0+(at_:Int).toNat)*8+(6+1)<((((dM evs (at_:Nat) stp err val).set ((0+(at_:Int).toNat)*8+(6+1)) k).set ((0+(at_:Int).toNat)*8+(1+1)) v).set ((0+(at_:Int).toNat)*8+(6+1)) x).length:=λk v x=>by simp only [List.length_set,hA];omega
 have O2: ∀ k v:AV,∀ i:Nat,i<1->(((dM evs (at_:Nat) stp err val).set ((0+(at_:Int).toNat)*8+(6+1)) k).set ((0+(at_:Int).toNat)*8+(1+1)) v)[(0+(at_:Int).toNat)*8+(6+1)+i]?=[k][i]?:=λk v=>pg (by rw [e2,e7,List.getElem?_set_ne (by omega),List.getElem?_set_self (by rw [hA];omega)]) rfl
 have OU: ∀ k v x:AV,∀ i:Nat,i<1->((((dM evs (at_:Nat) stp err val).set ((0+(at_:Int).toNat)*8+(6+1)) k).set ((0+(at_:Int).toNat)*8+(1+1)) v).set ((0+(at_:Int).toNat)*8+(6+1)) x)[(0+(at_:Int).toNat)*8+(6+1)+i]?=[x][i]?:=λk v x=>pg (List.getElem?_set_self (Ed k v)) rfl
 have d0: ∀ k:AV,k.flat=true->On evs (((dM evs (at_:Nat) stp err val).set ((0+(at_:Int).toNat)*8+(6+1)) k).set ((0+(at_:Int).toNat)*8+(1+1)) (.aa .i64 (i64.wrap (aA+1)))) at_ stp aA err val:=λk hk=>by rw [e7,e2];exact X0 hl8 hk
 have d1: ∀ k x:AV,k.flat=true->x.flat=true->On evs ((((dM evs (at_:Nat) stp err val).set ((0+(at_:Int).toNat)*8+(6+1)) k).set ((0+(at_:Int).toNat)*8+(1+1)) (.aa .i64 (i64.wrap (aA+1)))).set ((0+(at_:Int).toNat)*8+(6+1)) x) at_ stp aA err val:=λk x hk hx=>by have:=(d0 k hk).Ux hx;rw [<- e7] at this;exact this
 have d2: ∀ k x y:AV,k.flat=true->x.flat=true->y.flat=true->On evs (((((dM evs (at_:Nat) stp err val).set ((0+(at_:Int).toNat)*8+(6+1)) k).set ((0+(at_:Int).toNat)*8+(1+1)) (.aa .i64 (i64.wrap (aA+1)))).set ((0+(at_:Int).toNat)*8+(6+1)) x).set ((0+(at_:Int).toNat)*8+(6+1)) y) at_ stp aA err val:=λk x y hk hx hy=>by have:=(d1 k x hk hx).Ux hy;rw [<- e7] at this;exact this
 rcases kr with rfl | ⟨x,rfl⟩ | ⟨x,z,rfl⟩
 ·have hn:=Oo nM
  subst hn
  rcases LP with ⟨kb,rfl⟩ | ⟨rfl,⟨marks2,rfl⟩ | ⟨marks2,mb,rfl⟩⟩
  ·obtain ⟨s1,cW,aQ,eP,dc,aI⟩:=b9 (Ju t ht ob cl turn m ats (at_:Nat) wd cn idle aA inv af marks' evl evs left lmap lst lk ll lt call stp xr xm ym xs ys xq kb o1 o2 o3 o4 o5 o6 o7 o8 o9 Md Me Mh Mi FY Mb Mc err val)
   exact ⟨_,s1,_,_,cW,(by rw [aQ];(repeat' apply And.intro);all_goals first | exact True.intro | rfl | omega | assumption | exact O3 _ | exact Ed _ _ | exact LC _ _ _ | exact O2 _ _ | exact OU _ _ _),eP,by omega,d0 _ rfl,ab (ah aI 0 rfl rfl)<|ab (ah aI 1 rfl rfl)<|ab (ah aI 2 rfl rfl)<|ab (ah aI 3 rfl rfl)<|ab (ah aI 4 rfl rfl)<|ab (ah aI 5 rfl rfl)<|ab (ah aI 6 rfl rfl)<|ab (ah aI 7 rfl rfl)<|ab (ah aI 8 rfl rfl)<|aC⟩
  ·obtain ⟨s1,cW,aQ,eP,dc,aI⟩:=b9 (Jv t ht ob cl turn m ats (at_:Nat) wd cn idle aA inv af marks2 evl evs left lmap lst lk ll lt call stp xr xm ym xs ys xq o1 o2 o3 o4 o5 o6 o7 o8 o9 Md Me Mh Mi FY Mb Mc err val)
   exact ⟨_,s1,_,_,cW,(by rw [aQ];(repeat' apply And.intro);all_goals first | exact True.intro | rfl | omega | assumption | exact O3 _ | exact Ed _ _ | exact LC _ _ _ | exact O2 _ _ | exact OU _ _ _),eP,by omega,d2 _ _ _ rfl (by rw [cu,if_pos rfl];rfl) rfl,ab (ah aI 0 rfl rfl)<|ab (ah aI 1 rfl rfl)<|ab (ah aI 2 rfl rfl)<|ab (ah aI 3 rfl rfl)<|ab (ah aI 4 rfl rfl)<|ab (ah aI 5 rfl rfl)<|ab (ah aI 6 rfl rfl)<|ab (ah aI 7 rfl rfl)<|ab (ah aI 8 rfl rfl)<|aC⟩
  ·obtain ⟨s1,cW,aQ,eP,dc,aI⟩:=b9 (Jw t ht ob cl turn m ats (at_:Nat) wd cn idle aA inv af marks2 evl evs left lmap lst lk ll lt call stp xr xm ym xs ys xq mb o1 o2 o3 o4 o5 o6 o7 o8 o9 Md Me Mh Mi FY Mb Mc err val)
   exact ⟨_,s1,_,_,cW,(by rw [aQ];(repeat' apply And.intro);all_goals first | exact True.intro | rfl | omega | assumption | exact O3 _ | exact Ed _ _ | exact LC _ _ _ | exact O2 _ _ | exact OU _ _ _),eP,by omega,d1 _ _ rfl (by rw [cu,if_pos rfl];rfl),ab (ah aI 0 rfl rfl)<|ab (ah aI 1 rfl rfl)<|ab (ah aI 2 rfl rfl)<|ab (ah aI 3 rfl rfl)<|ab (ah aI 4 rfl rfl)<|ab (ah aI 5 rfl rfl)<|ab (ah aI 6 rfl rfl)<|ab (ah aI 7 rfl rfl)<|ab (ah aI 8 rfl rfl)<|aC⟩
 ·obtain ⟨x2,rfl⟩:=Rw nM
  rcases LP with ⟨kb,rfl⟩ | ⟨rfl,⟨marks2,rfl⟩ | ⟨marks2,mb,rfl⟩⟩
  ·obtain ⟨s1,cW,aQ,eP,dc,aI⟩:=b9 (Jx t ht ob cl turn m ats (at_:Nat) wd cn idle aA inv af marks' evl evs left lmap lst lk ll lt call stp xr xm ym xs ys xq x x2 kb o1 o2 o3 o4 o5 o6 o7 o8 o9 Md Me Mh Mi FY Mb Mc err val)
   exact ⟨_,s1,_,_,cW,(by rw [aQ];(repeat' apply And.intro);all_goals first | exact True.intro | rfl | omega | assumption | exact O3 _ | exact Ed _ _ | exact LC _ _ _ | exact O2 _ _ | exact OU _ _ _),eP,by omega,d0 _ rfl,ab (ah aI 0 rfl rfl)<|ab (ah aI 1 rfl rfl)<|ab (ah aI 2 rfl rfl)<|ab (ah aI 3 rfl rfl)<|ab (ah aI 4 rfl rfl)<|ab (ah aI 5 rfl rfl)<|ab (ah aI 6 rfl rfl)<|ab (ah aI 7 rfl rfl)<|ab (ah aI 8 rfl rfl)<|aC⟩
  ·obtain ⟨s1,cW,aQ,eP,dc,aI⟩:=b9 (Jz t ht ob cl turn m ats (at_:Nat) wd cn idle aA inv af marks2 evl evs left lmap lst lk ll lt call stp xr xm ym xs ys xq x x2 o1 o2 o3 o4 o5 o6 o7 o8 o9 Md Me Mh Mi FY Mb Mc err val)
   exact ⟨_,s1,_,_,cW,(by rw [aQ];(repeat' apply And.intro);all_goals first | exact True.intro | rfl | omega | assumption | exact O3 _ | exact Ed _ _ | exact LC _ _ _ | exact O2 _ _ | exact OU _ _ _),eP,by omega,d2 _ _ _ rfl (by rw [cu,if_pos rfl];rfl) rfl,ab (ah aI 0 rfl rfl)<|ab (ah aI 1 rfl rfl)<|ab (ah aI 2 rfl rfl)<|ab (ah aI 3 rfl rfl)<|ab (ah aI 4 rfl rfl)<|ab (ah aI 5 rfl rfl)<|ab (ah aI 6 rfl rfl)<|ab (ah aI 7 rfl rfl)<|ab (ah aI 8 rfl rfl)<|aC⟩
  ·obtain ⟨s1,cW,aQ,eP,dc,aI⟩:=b9 (JA t ht ob cl turn m ats (at_:Nat) wd cn idle aA inv af marks2 evl evs left lmap lst lk ll lt call stp xr xm ym xs ys xq x x2 mb o1 o2 o3 o4 o5 o6 o7 o8 o9 Md Me Mh Mi FY Mb Mc err val)
   exact ⟨_,s1,_,_,cW,(by rw [aQ];(repeat' apply And.intro);all_goals first | exact True.intro | rfl | omega | assumption | exact O3 _ | exact Ed _ _ | exact LC _ _ _ | exact O2 _ _ | exact OU _ _ _),eP,by omega,d1 _ _ rfl (by rw [cu,if_pos rfl];rfl),ab (ah aI 0 rfl rfl)<|ab (ah aI 1 rfl rfl)<|ab (ah aI 2 rfl rfl)<|ab (ah aI 3 rfl rfl)<|ab (ah aI 4 rfl rfl)<|ab (ah aI 5 rfl rfl)<|ab (ah aI 6 rfl rfl)<|ab (ah aI 7 rfl rfl)<|ab (ah aI 8 rfl rfl)<|aC⟩
 ·obtain ⟨x2,z2,rfl⟩:=Uy nM
  rcases LP with ⟨kb,rfl⟩ | ⟨rfl,⟨marks2,rfl⟩ | ⟨marks2,mb,rfl⟩⟩
  ·obtain ⟨s1,cW,aQ,eP,dc,aI⟩:=b9 (Jy t ht ob cl turn m ats (at_:Nat) wd cn idle aA inv af marks' evl evs left lmap lst lk ll lt call stp xr xm ym xs ys xq x x2 z z2 kb o1 o2 o3 o4 o5 o6 o7 o8 o9 Md Me Mh Mi FY Mb Mc err val)
   exact ⟨_,s1,_,_,cW,(by rw [aQ];(repeat' apply And.intro);all_goals first | exact True.intro | rfl | omega | assumption | exact O3 _ | exact Ed _ _ | exact LC _ _ _ | exact O2 _ _ | exact OU _ _ _),eP,by omega,d0 _ rfl,ab (ah aI 0 rfl rfl)<|ab (ah aI 1 rfl rfl)<|ab (ah aI 2 rfl rfl)<|ab (ah aI 3 rfl rfl)<|ab (ah aI 4 rfl rfl)<|ab (ah aI 5 rfl rfl)<|ab (ah aI 6 rfl rfl)<|ab (ah aI 7 rfl rfl)<|ab (ah aI 8 rfl rfl)<|aC⟩
  ·obtain ⟨s1,cW,aQ,eP,dc,aI⟩:=b9 (JB t ht ob cl turn m ats (at_:Nat) wd cn idle aA inv af marks2 evl evs left lmap lst lk ll lt call stp xr xm ym xs ys xq x x2 z z2 o1 o2 o3 o4 o5 o6 o7 o8 o9 Md Me Mh Mi FY Mb Mc err val)
   exact ⟨_,s1,_,_,cW,(by rw [aQ];(repeat' apply And.intro);all_goals first | exact True.intro | rfl | omega | assumption | exact O3 _ | exact Ed _ _ | exact LC _ _ _ | exact O2 _ _ | exact OU _ _ _),eP,by omega,d2 _ _ _ rfl (by rw [cu,if_pos rfl];rfl) rfl,ab (ah aI 0 rfl rfl)<|ab (ah aI 1 rfl rfl)<|ab (ah aI 2 rfl rfl)<|ab (ah aI 3 rfl rfl)<|ab (ah aI 4 rfl rfl)<|ab (ah aI 5 rfl rfl)<|ab (ah aI 6 rfl rfl)<|ab (ah aI 7 rfl rfl)<|ab (ah aI 8 rfl rfl)<|aC⟩
  ·obtain ⟨s1,cW,aQ,eP,dc,aI⟩:=b9 (JC t ht ob cl turn m ats (at_:Nat) wd cn idle aA inv af marks2 evl evs left lmap lst lk ll lt call stp xr xm ym xs ys xq x x2 z z2 mb o1 o2 o3 o4 o5 o6 o7 o8 o9 Md Me Mh Mi FY Mb Mc err val)
   exact ⟨_,s1,_,_,cW,(by rw [aQ];(repeat' apply And.intro);all_goals first | exact True.intro | rfl | omega | assumption | exact O3 _ | exact Ed _ _ | exact LC _ _ _ | exact O2 _ _ | exact OU _ _ _),eP,by omega,d1 _ _ rfl (by rw [cu,if_pos rfl];rfl),ab (ah aI 0 rfl rfl)<|ab (ah aI 1 rfl rfl)<|ab (ah aI 2 rfl rfl)<|ab (ah aI 3 rfl rfl)<|ab (ah aI 4 rfl rfl)<|ab (ah aI 5 rfl rfl)<|ab (ah aI 6 rfl rfl)<|ab (ah aI 7 rfl rfl)<|ab (ah aI 8 rfl rfl)<|aC⟩
end
open Go.Proofs.Tryz (prog)
structure X1 (evs L:List AV) (evl ci:Nat):Prop where
 len:L.length=8*(evl+1)
 oth: ∀ i,i<8*evl->L[i]?=evs[i]?
 call:L[8*evl]?=some (.aa .i64 (ci:Nat))
 j8:L[8*evl+2]?=some (.int .i64 0)
 stp: ∃ x,L[8*evl+3]?=some (.int .i64 x)
 err:L[8*evl+4]?=some (.int .i64 0)
 val:L[8*evl+5]?=some (.int .u64 0)
 flat:(∀ v∈evs,v.flat=true)-> ∀ v∈L,v.flat=true
theorem PH {evs:List AV} {evl ci:Nat} {aA x:Int} (h:evs.length=8*evl):X1 evs ((evs++[AV.aa .i64 (ci:Nat),.aa .i64 (i64.wrap (aA+1)),.int .i64 0,.int .i64 0,.int .i64 0,.int .u64 0,.au,.au]).set (8*evl+3) (.int .i64 x)) evl ci:=by
 have g: ∀ r,r<8->(evs++[AV.aa .i64 (ci:Nat),.aa .i64 (i64.wrap (aA+1)),.int .i64 0,.int .i64 0,.int .i64 0,.int .u64 0,.au,.au])[8*evl+r]?=[AV.aa .i64 (ci:Nat),.aa .i64 (i64.wrap (aA+1)),.int .i64 0,.int .i64 0,.int .i64 0,.int .u64 0,.au,.au][r]?:=λr hr=>by
  rw [List.getElem?_append_right (by omega)];congr 1;omega
 refine ⟨by simp [h];omega,λi hi=> ?_,?_,?_,⟨x,?_⟩,?_,?_,λhf=>mB (J0 hf λv hv=> ?_) rfl⟩
 ·rw [List.getElem?_set_ne (by omega),List.getElem?_append_left (by omega)]
 ·rw [List.getElem?_set_ne (by omega)];exact g 0 (by omega)
 ·rw [List.getElem?_set_ne (by omega)];exact g 2 (by omega)
 ·rw [List.getElem?_set_self (by simp [h])]
 ·rw [List.getElem?_set_ne (by omega)];exact g 4 (by omega)
 ·rw [List.getElem?_set_ne (by omega)];exact g 5 (by omega)
 ·simp only [List.mem_cons,List.not_mem_nil,or_false] at hv
  rcases hv with rfl | rfl | rfl | rfl | rfl | rfl | rfl | rfl<;>rfl
set_option maxRecDepth 10000 in
theorem Fc {t:Nat} (ht:t<4) {turn:AV} {m ats:Nat->AV} {at1:Int} {wd:AV} {cn:Nat->AV} {idle aA:Int} {inv af marks2:Nat->AV} {evl:Nat} {evs:List AV} {left:Int} {lmap:List (Int×AV)} {lst calls:List AV} {lk ll lt nc ci:Nat} {ay:Nat->AV} {n k att li a th:Int} {take:Bool} {yr xm ym xs ys:ak} {aN Mo:List (Nat×ak)} {E0:AV} (lQ:aN=[]∨ ∃ y,aN=[(105,y)]) (cW:(evl=0∧E0= .au∧Mo=[])∨(evl≠0∧E0= .ae 8 8 0 0 evl evl∧Mo=[(8,.row true evs 48 (some 8))]))
  (lg:cR (t:Int) lmap=some (.ae (16+t) 1 lk 0 ll lt)) (Wl:0<ll) (dA:lk+ll<=lt) (Lz:lst[lk]?=some (.aa .i64 (ci:Nat))) (dP:evs.length=8*evl) (SU:evl<100000) (Zs:ci<nc) (kf: ∀ r,r<6->calls[ci*6+r]?=[AV.aa .i64 th,.int .i64 0,.int .i64 (Om take),.aa .u64 a,.int .u64 0,.int .u64 0][r]?) (hn:n≠0) (ha:a<16777216):
  ∃ oo s1 A E sy L,aW prog (dw [(231,{ args:=[.ptr 100 0,.ptr 1 0],ins:=[(100,.row false [.ptr 12 0,.int .i64 (t:Nat),.int .i64 0,.int .i64 0,.bool take,.aa .u64 a,.aX,.aa .i64 li,.int .i64 0,.int .u64 0,.int .u64 0,.int .u64 0,.int .u64 0,.int .u64 0,.int .u64 0,.int .u64 0,.int .i64 0,.int .i64 0,.int .u64 0,.au,.au] 287 none),(12,.row false ([.aa .i64 0,.aa .i64 n,.aa .i64 k,.aa .i64 att]++cP (bm ay t (.aa .i64 ((i64.wrap (li+1)).tmod n)))) 192 none),(1,wW (i64.wrap (aA+1)) (bm inv t (.aa .i64 (i64.wrap (aA+1)))) (bm af t .au)),(2,xm),(3,xs)],v:= .bool false,outs:=[(100,yr),(12,.row false ([.aa .i64 0,.aa .i64 n,.aa .i64 k,.aa .i64 att]++cP (bm ay t (.aa .i64 ((i64.wrap (li+1)).tmod n)))) 192 none),(1,wW (i64.wrap (aA+1)) (bm inv t (.aa .i64 (i64.wrap (aA+1)))) marks2),(2,ym),(3,ys)]++aN,nx:=101,k:=6 })] bz) 60 22 [.ptr 0 0,.int .i64 (t:Nat)] ⟨mk ([(0,.row false (PK wF (.ae 7 6 0 0 nc nc) turn (bm m t .aX) (bm ats t (.aa .i64 at1)) E0 wd cn idle) 83 none),(1,wW aA inv af),(2,xm),(3,xs),(4,.row false [.ed 5,.aa .i64 left] 113 none),(5,.map true lmap),(16+t,.row true lst 3 (some 1)),(7,.row true calls 42 (some 6))]++Mo++[(9,.row false [.iface 162 (.ptr 12 0)] 107 (some 1)),(12,.row false ([.aa .i64 0,.aa .i64 n,.aa .i64 k,.aa .i64 att]++cP (bm ay t (.aa .i64 li))) 192 none)]),96,0,0,True,oo⟩= .ok (.bool false) s1∧s1.pre∧s1.next=107∧(∀ φ,Jb1 φ A= .int .i64 (evl:Nat))∧(∀ φ,Jb1 φ E=Jb1 φ (.ae 98 8 0 0 (evl+1) (evl+1)))∧X1 evs L evl ci∧A.flat=true∧
   ∀ p∈[(0,.row false (PK wF (.ae 7 6 0 0 nc nc) (.int .i64 (t:Nat)) (bm m t (.iface 283 (.ptr 100 0))) (bm ats t A) E wd cn idle) 83 none),(1,wW (i64.wrap (aA+1)) (bm inv t (.aa .i64 (i64.wrap (aA+1)))) marks2),(2,ym),(3,ys),(4,.row false [.ed 5,.aa .i64 left] 113 none),(5,.map true lmap),(16+t,.row true lst 3 (some 1)),(7,.row true calls 42 (some 6)),(9,.row false [.iface 162 (.ptr 12 0)] 107 (some 1)),(12,.row false ([.aa .i64 0,.aa .i64 n,.aa .i64 k,.aa .i64 att]++cP (bm ay t (.aa .i64 ((i64.wrap (li+1)).tmod n)))) 192 none),(98,.row sy L 48 (some 8)),(100,yr)]++aN,s1.get p.1=some p.2:=by
 have hc:aq .eql (ll:Int) (0:Int)=false:=by rw [show (0:Int)=((0:Nat):Int) from rfl,iC];exact decide_eq_false (by omega)
 have CG: ∀ i:Nat,i<1->lst[(lk+Int.toNat (0:Int))*1+i]?=[AV.aa .i64 (ci:Nat)][i]?:=pg Lz (by simp)
 have AQ:(n != (0:Int))=true:=by simpa using hn
 have Mg:aq .geq a (16777216:Int)=false:=by show decide (a>=16777216)=false;exact decide_eq_false (by omega)
 have AB:aK prog (42:Nat)=6:=by kernel_rfl
 have rK:aK prog (48:Nat)=8:=by kernel_rfl
 have An:prog.bytesOf (48:Nat)=96:=by kernel_rfl
 have DX:(evl+(0+1))*96<=room:=by rw [kG];omega
 have Jaq:evl+(0+1)<=maxLen:=by rw [gy];omega
 have P1:evs.length=evl*8:=by omega
 have e3:(0+(evl:Int).toNat)*8+(2+1)=8*evl+3:=by simp;omega
 have OX: ∀ l:List AV,l.length=8->(0+(evl:Int).toNat)*8+(2+1)<(evs++l).length:=λl hl=>by rw [e3];simp [dP,hl]
 have Qz: ∀ i:Nat,i<1->(evs++[AV.aa .i64 (ci:Nat),.aa .i64 (i64.wrap (aA+1)),.int .i64 0,.int .i64 0,.int .i64 0,.int .u64 0,.au,.au])[(0+(evl:Int).toNat)*8+(2+1)+i]?=[AV.int .i64 0][i]?:=pg (k:=8*evl+3) (by rw [List.getElem?_append_right (by omega),dP,show 8*evl+3-8*evl=3 by omega];rfl) e3
 have FP: ∀ i:Nat,i<6->calls[(0+(ci:Int).toNat)*6+i]?=[AV.aa .i64 th,.int .i64 0,.int .i64 (Om take),.aa .u64 a,.int .u64 0,.int .u64 0][i]?:=λi hi=>by
  have:=kf i hi
  simpa using this
 cases take
 ·rcases cW with ⟨he,rfl,rfl⟩ | ⟨he,rfl,rfl⟩
  ·subst he
   have hz:evs=[]:=List.length_eq_zero_iff.1 (by omega)
   subst hz
   rcases lQ with rfl | ⟨y,rfl⟩
   ·obtain ⟨s1,cW,aQ,eP,dc,aI⟩:=b9 (BF t ht nc turn m ats at1 wd cn idle aA inv af marks2 left lmap lst lk ll lt (ci:Nat) yr xm ym xs ys calls ay n k att li a th)
    have hP:s1.pre:=by
     rw [aQ]
     try rw [AB]
     try rw [rK]
     try rw [An]
     (repeat' apply And.intro)
     all_goals first | exact True.intro | omega | rfl | exact lg | exact hc | exact CG | exact FP | exact Qz | exact OX _ rfl | exact AQ | exact Mg | assumption
    exact ⟨_,s1,.int .i64 0,.aF 98 8 0 0 1 1,false,[AV.aa .i64 (ci:Nat),.aa .i64 (i64.wrap (aA+1)),.int .i64 0,.int .i64 1,.int .i64 0,.int .u64 0,.au,.au],cW,hP,eP,(λφ=>rfl),(λφ=>rfl),PH (evs:=[]) (evl:=0) (aA:=aA) (x:=1) (ci:=ci) rfl,rfl,eW aI rfl rfl⟩
   ·obtain ⟨s1,cW,aQ,eP,dc,aI⟩:=b9 (BG t ht nc turn m ats at1 wd cn idle aA inv af marks2 left lmap lst lk ll lt (ci:Nat) yr xm ym xs ys y calls ay n k att li a th)
    have hP:s1.pre:=by
     rw [aQ]
     try rw [AB]
     try rw [rK]
     try rw [An]
     (repeat' apply And.intro)
     all_goals first | exact True.intro | omega | rfl | exact lg | exact hc | exact CG | exact FP | exact Qz | exact OX _ rfl | exact AQ | exact Mg | assumption
    exact ⟨_,s1,.int .i64 0,.aF 98 8 0 0 1 1,false,[AV.aa .i64 (ci:Nat),.aa .i64 (i64.wrap (aA+1)),.int .i64 0,.int .i64 1,.int .i64 0,.int .u64 0,.au,.au],cW,hP,eP,(λφ=>rfl),(λφ=>rfl),PH (evs:=[]) (evl:=0) (aA:=aA) (x:=1) (ci:=ci) rfl,rfl,eW aI rfl rfl⟩
  ·skip
   rcases lQ with rfl | ⟨y,rfl⟩
   ·obtain ⟨s1,cW,aQ,eP,dc,aI⟩:=b9 (BC t ht nc turn m ats at1 wd cn idle aA inv af marks2 evl evs left lmap lst lk ll lt (ci:Nat) yr xm ym xs ys calls ay n k att li a th)
    have hP:s1.pre:=by
     rw [aQ]
     try rw [AB]
     try rw [rK]
     try rw [An]
     (repeat' apply And.intro)
     all_goals first | exact True.intro | omega | rfl | exact lg | exact hc | exact CG | exact FP | exact Qz | exact OX _ rfl | exact AQ | exact Mg | assumption
    exact ⟨_,s1,_,_,_,_,cW,hP,eP,(λφ=>rfl),(λφ=>rfl),(by have:=PH (aA:=aA) (x:=i64.wrap ((0:Int)+1)) (ci:=ci) dP;rw [<- e3,<- rK] at this;exact this),rfl,eW aI rfl rfl⟩
   ·obtain ⟨s1,cW,aQ,eP,dc,aI⟩:=b9 (BE t ht nc turn m ats at1 wd cn idle aA inv af marks2 evl evs left lmap lst lk ll lt (ci:Nat) yr xm ym xs ys y calls ay n k att li a th)
    have hP:s1.pre:=by
     rw [aQ]
     try rw [AB]
     try rw [rK]
     try rw [An]
     (repeat' apply And.intro)
     all_goals first | exact True.intro | omega | rfl | exact lg | exact hc | exact CG | exact FP | exact Qz | exact OX _ rfl | exact AQ | exact Mg | assumption
    exact ⟨_,s1,_,_,_,_,cW,hP,eP,(λφ=>rfl),(λφ=>rfl),(by have:=PH (aA:=aA) (x:=i64.wrap ((0:Int)+1)) (ci:=ci) dP;rw [<- e3,<- rK] at this;exact this),rfl,eW aI rfl rfl⟩
 ·rcases cW with ⟨he,rfl,rfl⟩ | ⟨he,rfl,rfl⟩
  ·subst he
   have hz:evs=[]:=List.length_eq_zero_iff.1 (by omega)
   subst hz
   rcases lQ with rfl | ⟨y,rfl⟩
   ·obtain ⟨s1,cW,aQ,eP,dc,aI⟩:=b9 (BK t ht nc turn m ats at1 wd cn idle aA inv af marks2 left lmap lst lk ll lt (ci:Nat) yr xm ym xs ys calls ay n k att li a th)
    have hP:s1.pre:=by
     rw [aQ]
     try rw [AB]
     try rw [rK]
     try rw [An]
     (repeat' apply And.intro)
     all_goals first | exact True.intro | omega | rfl | exact lg | exact hc | exact CG | exact FP | exact Qz | exact OX _ rfl | exact AQ | exact Mg | assumption
    exact ⟨_,s1,.int .i64 0,.aF 98 8 0 0 1 1,false,[AV.aa .i64 (ci:Nat),.aa .i64 (i64.wrap (aA+1)),.int .i64 0,.int .i64 1,.int .i64 0,.int .u64 0,.au,.au],cW,hP,eP,(λφ=>rfl),(λφ=>rfl),PH (evs:=[]) (evl:=0) (aA:=aA) (x:=1) (ci:=ci) rfl,rfl,eW aI rfl rfl⟩
   ·obtain ⟨s1,cW,aQ,eP,dc,aI⟩:=b9 (BL t ht nc turn m ats at1 wd cn idle aA inv af marks2 left lmap lst lk ll lt (ci:Nat) yr xm ym xs ys y calls ay n k att li a th)
    have hP:s1.pre:=by
     rw [aQ]
     try rw [AB]
     try rw [rK]
     try rw [An]
     (repeat' apply And.intro)
     all_goals first | exact True.intro | omega | rfl | exact lg | exact hc | exact CG | exact FP | exact Qz | exact OX _ rfl | exact AQ | exact Mg | assumption
    exact ⟨_,s1,.int .i64 0,.aF 98 8 0 0 1 1,false,[AV.aa .i64 (ci:Nat),.aa .i64 (i64.wrap (aA+1)),.int .i64 0,.int .i64 1,.int .i64 0,.int .u64 0,.au,.au],cW,hP,eP,(λφ=>rfl),(λφ=>rfl),PH (evs:=[]) (evl:=0) (aA:=aA) (x:=1) (ci:=ci) rfl,rfl,eW aI rfl rfl⟩
  ·skip
   rcases lQ with rfl | ⟨y,rfl⟩
   ·obtain ⟨s1,cW,aQ,eP,dc,aI⟩:=b9 (BH t ht nc turn m ats at1 wd cn idle aA inv af marks2 evl evs left lmap lst lk ll lt (ci:Nat) yr xm ym xs ys calls ay n k att li a th)
    have hP:s1.pre:=by
     rw [aQ]
     try rw [AB]
     try rw [rK]
     try rw [An]
     (repeat' apply And.intro)
     all_goals first | exact True.intro | omega | rfl | exact lg | exact hc | exact CG | exact FP | exact Qz | exact OX _ rfl | exact AQ | exact Mg | assumption
    exact ⟨_,s1,_,_,_,_,cW,hP,eP,(λφ=>rfl),(λφ=>rfl),(by have:=PH (aA:=aA) (x:=i64.wrap ((0:Int)+1)) (ci:=ci) dP;rw [<- e3,<- rK] at this;exact this),rfl,eW aI rfl rfl⟩
   ·obtain ⟨s1,cW,aQ,eP,dc,aI⟩:=b9 (BJ t ht nc turn m ats at1 wd cn idle aA inv af marks2 evl evs left lmap lst lk ll lt (ci:Nat) yr xm ym xs ys y calls ay n k att li a th)
    have hP:s1.pre:=by
     rw [aQ]
     try rw [AB]
     try rw [rK]
     try rw [An]
     (repeat' apply And.intro)
     all_goals first | exact True.intro | omega | rfl | exact lg | exact hc | exact CG | exact FP | exact Qz | exact OX _ rfl | exact AQ | exact Mg | assumption
    exact ⟨_,s1,_,_,_,_,cW,hP,eP,(λφ=>rfl),(λφ=>rfl),(by have:=PH (aA:=aA) (x:=i64.wrap ((0:Int)+1)) (ci:=ci) dP;rw [<- e3,<- rK] at this;exact this),rfl,eW aI rfl rfl⟩
section
variable {κ:Ev.dE}
section
variable {φ φ':bo}
theorem wJ {ob ob' cl cl' turn Qi E E' wd wd':AV} {m m' a a' cn cn':Nat->AV} {idle:Int} {y y':Bool} (h1:φ' 1=φ 1) (h4:φ' 4=φ 4) (YU:Jb1 φ ob=Jb1 φ' ob') (jV:Jb1 φ cl=Jb1 φ' cl') (ht:Jb1 φ turn=Jb1 φ' Qi) (hm: ∀ u,u<16->Jb1 φ (m u)=Jb1 φ' (m' u)) (ha: ∀ u,u<16->Jb1 φ (a u)=Jb1 φ' (a' u)) (hE:Jb1 φ E=Jb1 φ' E') (Gc:Jb1 φ wd=Jb1 φ' wd') (AS: ∀ i,Jb1 φ (cn i)=Jb1 φ' (cn' i)):
  bW φ φ' (.row y (PK ob cl turn m a E wd cn idle) 83 none) (.row y' (PK ob' cl' Qi m' a' E' wd' cn' idle) 83 none):=by
 refine ⟨?_,rfl,rfl⟩
 unfold PK
 rw [bZ,bZ,bZ,bZ,BP hm ha]
 simp only [az,YU,jV,ht,hE,Gc,AS]
 simp only [Jb1,h1,h4]
theorem wL {t a b a' b':Nat} {j:Nat->Int} {o:Op} (js:φ' 12=φ 12) (ha:(∃ s f,o.st= .sub s f)->φ' a'=φ a) (hb:o.st= .mark->φ' b'=φ b):bW φ φ' (bp t a b j o) (bp t a' b' j o):=by
 obtain ⟨take,v,tries,ref,i,ag,err,val,os⟩:=o
 cases os with
 | mark=>
  have hb:=hb rfl
  unfold bp
  refine ⟨?_,rfl,rfl⟩
  simp only [az,Jb1,js]
  split<;>simp only [Jb1,hb]
 | sub s f=>
  have Ee:=ha ⟨s,f,rfl⟩
  clear ha hb
  cases s with
  | fn x=>cases x<;>exact ⟨by simp only [az,Jb1,js,Ee],rfl,rfl⟩
  | hp take u ph x=>cases take<;>exact ⟨by simp only [az,Jb1,js,Ee],rfl,rfl⟩
 | _=>exact ⟨by simp only [az,Jb1,js],rfl,rfl⟩
theorem wM {P:cv} {a a':Nat} {j:Nat->Int} {take:Bool} {u ph:Nat} {s:Hs} (ha:s.sX=true->φ' a'=φ a):bW φ φ' (aY P a j take u ph s) (aY P a' j take u ph s):=by
 cases s with
 | sub f bM=>
  have Ee:=ha rfl
  clear ha
  cases f<;>exact ⟨by simp only [az,Jb1,Ee],rfl,rfl⟩
 | _=>exact ⟨rfl,rfl,rfl⟩
theorem bl {o:ak} (h:o.aD (λ_=>False)):bW φ φ' o o:=bW.jt h (λi hi=>hi.elim)
theorem pj {D:Nat->Prop} {o:ak} (h:o.aD D) (hφ: ∀ i,D i->φ' i=φ i):bW φ φ' o o:=bW.jt h hφ
end
theorem m9 {P:cv} {j:Nat->Int} {f:Fn}:(bk P j f).aD (λ_=>False):=dY
theorem j9 (K:KC) (t:Nat):(ak.row true (K.lst t) 3 (some 1)).aD (λ_=>False):=by
 show aR _ (K.lst t)
 exact JX _ _ _
theorem ka (K:KC):(ak.row true K.calls 42 (some 6)).aD (λ_=>False):=by
 show aR _ K.calls
 rw [cS]
 intro v hv
 obtain ⟨c,_,h⟩:=List.mem_flatMap.1 hv
 unfold bj at h
 simp only [List.mem_cons,List.not_mem_nil,or_false] at h
 rcases h with h | h | h | h | h | h<;>(subst h;trivial)
theorem pq {K:KC} {s:Qs} {j:Jq} (h:EvK K s j):(ak.row true j.evs 48 (some 8)).aD (λ_=>False):=cS.2 λv hv=>(h.all v hv).2
def Dy (P:cv) (a a2:Nat) (j2 j3:Nat->Int) (outs:List (Nat×ak)):Os->Prop
 | .sub (.fn f) _=>(a,bk P j2 f)∈outs
 | .sub (.hp take u ph x) _=>(a,aY P a2 j2 take u ph x)∈outs∧ ∀ f ov,x= .sub f ov->(a2,bk P j3 f)∈outs
 | _=>True
theorem X2 {t a a' b:Nat} {j:Nat->Int} {o:Op} (h: ∀ s f,o.st≠ .sub s f):bp t a b j o=bp t a' b j o:=by
 obtain ⟨take,v,tries,ref,i,ag,err,val,os⟩:=o
 cases os with
 | sub s f=>exact absurd rfl (h s f)
 | _=>rfl
theorem X3 {t a b b':Nat} {j:Nat->Int} {o:Op} (h: ¬ (o.st= .mark∧o.i≠0)):bp t a b j o=bp t a b' j o:=by
 obtain ⟨take,v,tries,ref,i,ag,err,val,os⟩:=o
 cases os with
 | mark=>
  have hi:i=0:=Classical.byContradiction λhh=>h ⟨rfl,hh⟩
  subst hi
  rfl
 | sub s f=>
  cases s with
  | fn x=>cases x<;>rfl
  | hp take u ph x=>cases take<;>rfl
 | _=>rfl
theorem Jl.names {P:cv} {t:Nat} {af marks':Nat->AV} {o:Op} {row':ak} {subs' aN:List (Nat×ak)} (h:Jl P t af o false row' marks' subs' aN):
  ∃ a a2 b jn j2 j3,row'=bp t a b jn o∧(b=48∨b=96)∧(a=64∨a=100)∧(a2=80∨a2=100)∧a≠a2∧Dy P a a2 j2 j3 (subs'++aN) o.st:=by
 obtain ⟨a,a2,b,jn,h1,h2,h3⟩:=h.go rfl
 have key: ∃ b',(b'=48∨b'=96)∧row'=bp t a b' jn o:=by
  by_cases hm:o.st= .mark∧o.i≠0
  ·exact ⟨b,h2 hm.1 hm.2,h1⟩
  ·exact ⟨48,.inl rfl,h1.trans (X3 hm)⟩
 obtain ⟨b',oE,qN⟩:=key
 rcases h3 with h3 | ⟨s,f,eF,bf,ha,Ee,bq⟩
 ·refine ⟨64,80,b',jn,λ_=>0,λ_=>0,qN.trans (X2 h3),oE,.inl rfl,.inl rfl,by omega,?_⟩
  revert h3
  cases o.st with
  | sub s f=>exact λh=>absurd rfl (h s f)
  | _=>exact λ_=>trivial
 ·rw [eF]
  cases s with
  | fn x=>
   obtain ⟨j2,hm⟩:=bf
   exact ⟨a,a2,b',jn,j2,λ_=>0,qN,oE,ha,Ee,bq,hm⟩
  | hp take u ph x=>
   obtain ⟨⟨j2,hm⟩,hi⟩:=bf
   by_cases hx: ∃ f ov,x= .sub f ov
   ·obtain ⟨f,ov,rfl⟩:=hx
    obtain ⟨j3,hm3⟩:=hi f ov rfl
    exact ⟨a,a2,b',jn,j2,j3,qN,oE,ha,Ee,bq,hm,λf' TR e=>by cases e;exact hm3⟩
   ·exact ⟨a,a2,b',jn,j2,λ_=>0,qN,oE,ha,Ee,bq,hm,λf ov e=>absurd ⟨f,ov,e⟩ hx⟩
section
variable {K:KC} {s s':Qs} {j j':Jq} {t:Nat} {φ φ1 φ':bo} {w':World}
theorem tq {H : Nat -> Option ak} {ρ τ : Nat -> Nat} {L : Nat -> Bool} {Aq fk : Nat -> Option ak}
    (hQ : ∀ (H' : Nat -> Option ak) (φ' : bo) (src : Nat -> Nat ⊕ Nat), (∀ c o', H' c = some o' -> match src c with
          | .inl d => φ' c = φ d ∧ (∀ b x, Aq b = some x -> ρ b ≠ d) ∧ ∃ o, H d = some o ∧ bW φ φ' o o'
          | .inr d => φ' c = φ1 d ∧ ∃ o, fk d = some o ∧ bW φ1 φ' o o') ->
        (∀ b c x y, H' b = some x -> H' c = some y -> src b = src c -> b = c) -> cz κ H' φ' w')
    {H' : Nat -> Option ak} (hL : ∀ b x, Aq b = some x -> L (ρ b) = true) (lY : ∀ b c x y, H' b = some x -> H' c = some y -> L b = true -> L c = true -> τ b = τ c -> b = c)
    (fI : ∀ c o', L c = true -> H' c = some o' -> φ' c = φ1 (τ c) ∧ ∃ o, fk (τ c) = some o ∧ bW φ1 φ' o o') (WY : ∀ c o', L c = false -> H' c = some o' -> φ' c = φ c ∧ H c = some o' ∧ bW φ φ' o' o') : cz κ H' φ' w' := by
  refine hQ _ φ' (λc => if L c then .inr (τ c) else .inl c) (λc o' hc => ?_) (λb c x y hb hc he => ?_)
  · by_cases h : L c = true
    · rw [if_pos h]; exact fI c o' h hc
    · have h' : L c = false := by simpa using h
      rw [if_neg h]
      obtain ⟨h1, h2, h3⟩ := WY c o' h' hc
      exact ⟨h1, λb x hb e => h (by rw [<- e]; exact hL b x hb), o', h2, h3⟩
  · by_cases h : L b = true <;> by_cases h2 : L c = true
    · rw [if_pos h, if_pos h2] at he
      exact lY b c x y hb hc h h2 (Sum.inr.inj he)
    · rw [if_pos h, if_neg h2] at he; cases he
    · rw [if_neg h, if_pos h2] at he; cases he
    · rw [if_neg h, if_neg h2] at he
      exact Sum.inl.inj he
structure BQ (t:Nat) (s s':Qs) (j j':Jq):Prop where
 cur: ∀ u,u≠t->s'.cur u=s.cur u
 jr: ∀ u,u≠t->j'.jr u=j.jr u
 j2: ∀ u,u≠t->j'.j2 u=j.j2 u
 j3: ∀ u,u≠t->j'.j3 u=j.j3 u
 oth:j'.oth=j.oth
def jb (t c:Nat):Bool:=c==0||c==1||c==2||c==3||c==4||c==5||c==8||c==12||c==33+t||c==65+t||c==81+t
theorem zS (hn:K.P.n<=4) (nw:BQ t s s' j j') (cC: ∀ b o,j.oth b=some o->o.aD λ_=>False) {c:Nat} {o':ak} (hc:jb t c=false) (h:b7 K s' j' c=some o')
  (js:φ' 12=φ 12) (hφ: ∀ u,u<4->u≠t->φ' (65+u)=φ (65+u)∧φ' (81+u)=φ (81+u)∧φ' (24+u)=φ (24+u)):b7 K s j c=some o'∧bW φ φ' o' o':=by
 simp only [jb,Bool.or_eq_false_iff,beq_eq_false_iff_ne,ne_eq] at hc
 obtain ⟨⟨⟨⟨⟨⟨⟨⟨⟨⟨c0,c1⟩,c2⟩,c3⟩,c4⟩,c5⟩,c8⟩,c12⟩,c33⟩,c65⟩,c81⟩:=hc
 rcases mC hn h with hb | ⟨u,hu,rfl⟩ | ⟨u,hu,rfl⟩ | ⟨u,hu,rfl⟩ | ⟨u,hu,rfl⟩
 ·rw [dj hb] at h ⊢
  have ni:c=6∨c=7∨c=9∨c=10∨c=11∨c=13∨c=14∨c=15:=by omega
  rcases ni with rfl | rfl | rfl | rfl | rfl | rfl | rfl | rfl
  ·replace h:j'.oth 6=some o':=h
   rw [nw.oth] at h
   exact ⟨h,bl (cC _ _ h)⟩
  ·refine ⟨h,?_⟩
   cases h
   exact bl (ka K)
  ·refine ⟨h,?_⟩
   cases h
   exact ⟨by simp only [az,Jb1,js],rfl,rfl⟩
  ·refine ⟨h,?_⟩
   cases h
   rfl
  ·cases h
  ·replace h:j'.oth 13=some o':=h
   rw [nw.oth] at h
   exact ⟨h,bl (cC _ _ h)⟩
  ·replace h:j'.oth 14=some o':=h
   rw [nw.oth] at h
   exact ⟨h,bl (cC _ _ h)⟩
  ·replace h:j'.oth 15=some o':=h
   rw [nw.oth] at h
   exact ⟨h,bl (cC _ _ h)⟩
 ·rw [oe (by omega)] at h ⊢
  refine ⟨h,?_⟩
  split at h
  ·cases h;exact bl (j9 K u)
  ·cases h
 ·have bq:u≠t:=λe=>c33 (by rw [e])
  rw [vm (by omega),if_pos hu] at h ⊢
  unfold Uw at h ⊢
  rw [nw.cur u bq,nw.jr u bq] at h
  refine ⟨h,?_⟩
  cases ho:s.cur u with
  | none=>rw [ho] at h;cases h
  | some o=>
   rw [ho] at h
   cases h
   obtain ⟨q1,q2,q3⟩:=hφ u (by omega) bq
   exact wL js (λ_=>q1) (λ_=>q3)
 ·have bq:u≠t:=λe=>c65 (by rw [e])
  rw [qD (by omega),if_pos hu] at h ⊢
  rw [nw.cur u bq] at h
  cases ho:s.cur u with
  | none=>rw [ho] at h;cases h
  | some o=>
   rw [ho] at h
   replace h:wG K.P j' u o.st=some o':=h
   show wG K.P j u o.st=some o'∧_
   unfold wG at h ⊢
   split at h
   ·rw [nw.j2 u bq] at h
    refine ⟨h,?_⟩
    cases h;exact bl m9
   ·rw [nw.j2 u bq] at h
    refine ⟨h,?_⟩
    cases h;exact wM (λ_=>(hφ u (by omega) bq).2.1)
   ·cases h
 ·have bq:u≠t:=λe=>c81 (by rw [e])
  rw [qE (by omega),if_pos hu] at h ⊢
  rw [nw.cur u bq] at h
  cases ho:s.cur u with
  | none=>rw [ho] at h;cases h
  | some o=>
   rw [ho] at h
   replace h:wH K.P j' u o.st=some o':=h
   show wH K.P j u o.st=some o'∧_
   unfold wH at h ⊢
   split at h
   ·rw [nw.j3 u bq] at h
    refine ⟨h,?_⟩
    cases h;exact bl m9
   ·cases h
end
end
end Qk
end Go.Proofs.YtpkfimijnkkbjaaGreat
