/- putter.Step and getter.Step: what they make of the words. -/
import Derived.Test.YtpkfimijnkkbjaaGreatJ11
set_option linter.unusedVariables false
namespace Go.Proofs.YtpkfimijnkkbjaaGreat
namespace Qk
open Ev Ct
open Go.IntKind (i64 u64)
section
variable {P:cv} {f:FuncId} {p:Part} {D:Nat->Prop} {aA:Int} {inv marks':Nat->AV} {u k a ph:Nat} {row row':ak} {c c':Nat->Int} {M M':Mm} {aN:List (Nat×ak)} {take:Bool}
theorem u7 {P:Program} {b:Bool} (hp:bP P f p) (hv:p.v= .eS b):bP P f { p with v:= .bool b }:=by
 refine ⟨hp.fn,λhq D h1 h2 h3=>⟨trivial,(hp.ids hq D h1 h2 h3).2⟩,λhq n φ w h1 h2 h3 h4=> ?_⟩
 refine (hp.nX hq n φ w h1 h2 h3 h4).mono ?_
 rintro e w' ⟨φ',he,hr⟩
 refine ⟨φ',?_,hr⟩
 rw [he,hv];rfl
def wW (aA:Int) (inv af:Nat->AV):ak:= .row false (WL aA inv af) 92 none
def eV:AV:= .aF 98 1 0 0 1 1
def bU (z:Int):ak:= .row false [.aa .i64 z] 3 (some 1)
def wk (P:cv) (row row':ak) (aA:Int) (inv af marks':Nat->AV) (c c':Nat->Int) (M M':Mm) (v:AV) (k:Nat) (aN:List (Nat×ak)):Part:=
 { args:=[.ptr 64 0,.ptr 1 0],ins:=[(64,row),(1,wW aA inv af),(2,mR P c),(3,Jb5 (aG P M))],v:=v,outs:=[(64,row'),(1,wW aA inv marks'),(2,mR P c'),(3,Jb5 (aG P M'))]++aN,nx:=96,k:=k }
theorem Bv {af:Nat->AV} {x:AV} (h:(wW aA inv af).aD D) (hx:x.aD D):(wW aA inv (Jb2 af u x)).aD D:=by
 have h:aR D (WL aA inv af):=h
 show aR D (WL aA inv (Jb2 af u x))
 rw [cS] at h ⊢
 intro v hv
 unfold WL at hv h
 rw [List.mem_append,List.mem_append] at hv
 rcases hv with (hv | hv) | hv
 ·exact h v (by rw [List.mem_append,List.mem_append];exact .inl (.inl hv))
 ·unfold cP at hv
  obtain ⟨i,hi,rfl⟩:=List.mem_map.1 hv
  unfold Jb2
  split
  ·exact hx
  ·exact h _ (by rw [List.mem_append,List.mem_append];exact .inl (.inr (List.mem_map.2 ⟨i,hi,rfl⟩)))
 ·exact h v (by rw [List.mem_append,List.mem_append];exact .inr hv)
theorem Ja4 {af:Nat->AV} {v:AV} (hv: ∀ D:Nat->Prop,v.aD D)
  (hr: ∀ D:Nat->Prop,(∀ i,96<=i->i<96+k->D i)->row'.aD D) (hm:marks'=af∨ ∃ u,3<=k∧marks'=Jb2 af u eV) (hn: ∀ D:Nat->Prop,∀ x∈aN,x.2.aD D):
  ∀ D:Nat->Prop,aR D (wk P row row' aA inv af marks' c c' M M' v k aN).args->(∀ x∈(wk P row row' aA inv af marks' c c' M M' v k aN).ins,x.2.aD D)->(∀ i,(wk P row row' aA inv af marks' c c' M M' v k aN).nx<=i->i<(wk P row row' aA inv af marks' c c' M M' v k aN).nx+(wk P row row' aA inv af marks' c c' M M' v k aN).k->D i)->
   (wk P row row' aA inv af marks' c c' M M' v k aN).v.aD D∧ ∀ x∈(wk P row row' aA inv af marks' c c' M M' v k aN).outs,x.2.aD D:=by
 intro D _ hi hk
 have h2:=hi (2,mR P c) (by simp [wk])
 have h1:=hi (1,wW aA inv af) (by simp [wk])
 simp only [mR,bQ,ak.aD,aR,AV.aD] at h2
 refine ⟨hv D,λx hx=> ?_⟩
 have hx:x∈[(64,row'),(1,wW aA inv marks'),(2,mR P c'),(3,Jb5 (aG P M'))]++aN:=hx
 rcases List.mem_append.1 hx with hx | hx
 ·simp only [List.mem_cons,List.not_mem_nil,or_false] at hx
  rcases hx with rfl | rfl | rfl | rfl
  ·exact hr D hk
  ·rcases hm with rfl | ⟨u,hu,rfl⟩
   ·exact h1
   ·exact Bv h1 (hk 98 (by show 96<=98;omega) (by show 98<96+k;omega))
  ·exact dK h2.1
  ·exact gT
 ·exact hn D x hx
def rY (P:cv) (take:Bool) (u:Nat) (pc:Int) (ph:Nat) (d first last w when:Int) (sub:AV) (bM:Bool):ak:=
 .row false [.aa .i64 0,.aa .i64 (P.n:Nat),.aa .i64 (P.k:Nat),.int .i64 (u:Nat),.int .i64 pc,.aa .u64 (ph:Nat),.aa .u64 d,.aa .u64 first,.aa .u64 last,.aa .u64 w,.aa .i64 when,sub,.bool bM] (cond take 331 333) none
def aY (P:cv) (a:Nat) (j:Nat->Int) (take:Bool) (u ph:Nat):Hs->ak
 | .look=>rY P take u 0 ph (j 0) (j 1) (j 2) (j 3) (j 4) .aX false
 | .iw=>rY P take u 1 ph (j 0) (j 1) (j 2) (j 3) (j 4) .aX false
 | .gG last=>rY P take u 3 ph (j 0) (j 1) (last:Nat) (j 3) (j 4) .aX false
 | .fv last=>rY P take u 5 ph (j 0) (j 1) (last:Nat) (st (bH last,0):Nat) (j 4) .aX false
 | .kL last d=>rY P take u 6 ph (cd d:Nat) (j 1) (last:Nat) (st (bH last,0):Nat) (j 4) .aX false
 | .iz d=>rY P take u 2 ph (cd d:Nat) (j 1) (j 2) (j 3) (j 4) .aX false
 | .ji d first=>rY P take u 1 ph (cd d:Nat) (first:Nat) (j 2) (j 3) (j 4) .aX false
 | .jj d first last=>rY P take u 3 ph (cd d:Nat) (first:Nat) (last:Nat) (j 3) (j 4) .aX false
 | .ey d first last w=>rY P take u 4 ph (cd d:Nat) (first:Nat) (last:Nat) (st w:Nat) (j 4) .aX false
 | .ff d=>rY P take u 7 ph (cd d:Nat) (j 1) (j 2) (j 3) (j 4) .aX false
 | .hZ d first=>rY P take u 8 ph (cd d:Nat) (first:Nat) (j 2) (j 3) (j 4) .aX false
 | .eJ first=>rY P take u 9 ph (j 0) (first:Nat) (j 2) (j 3) (j 4) .aX false
 | .sub (.tl _) bM=>rY P take u 0 ph (j 0) (j 1) (j 2) (j 3) (j 4) (.iface 318 (.ptr a 0)) bM
 | .sub (.hd _) bM=>rY P take u 0 ph (j 0) (j 1) (j 2) (j 3) (j 4) (.iface 323 (.ptr a 0)) bM
def Hs.sX:Hs->Bool
 | .sub _ _=>true
 | _=>false
def Uj (P:cv) (M:Mm) (take:Bool):Hs->Prop
 | .look=>True
 | .iw=>take=false
 | .gG last=>take=false∧P.okp last∧last<1073741824
 | .fv last=>take=false∧P.okp last∧last<1073741824
 | .kL last d=>take=false∧P.okp last∧last<1073741824∧BD d
 | .iz d=>take=true∧BD d
 | .ji d first=>take=true∧BD d∧P.okp first∧first<1073741824
 | .jj d first last=>take=true∧BD d∧P.okp first∧first<1073741824∧last<1073741824
 | .ey d first last w=>take=true∧BD d∧P.okp first∧first<1073741824∧last<1073741824∧w.1<1048576∧w.2<1073741824
 | .ff d=>take=true∧BD d
 | .hZ d first=>take=true∧BD d∧P.okp first∧first<1073741824
 | .eJ first=>take=true∧P.okp first∧first<1073741824
 | .sub (.tl t) bM=>Xh P M t∧(bM=true->take=false)
 | .sub (.hd t) bM=>Xi P M t∧bM=false∧take=true
inductive cL (P:cv) (take:Bool) (u ph:Nat) (af:Nat->AV):Option Hs->ak->(Nat->AV)->Nat->List (Nat×ak)->Prop
 | fin {row:ak}:(∀ D:Nat->Prop,row.aD D)->cL P take u ph af none row af 0 []
 | Bw {row:ak} {z:Int} (h: ∀ D:Nat->Prop,row.aD D) (ht:take=true:=by rfl):cL P take u ph af none row (Jb2 af u eV) 3 [(98,bU z)]
 | go {s:Hs} {k:Nat} {j:Nat->Int}:s.sX=false->k=0∨(take=true∧k=1)->cL P take u ph af (some s) (aY P 80 j take u ph s) af k []
 | tl {a k:Nat} {j j':Nat->Int}:(a=97∧k=2)∨(take=true∧a=98∧k=3)->cL P take u ph af (some (.sub (.tl .e) false)) (aY P a j take u ph (.sub (.tl .e) false)) af k [(a,fw P j' .e)]
 | Rf {z:Int} {j j':Nat->Int}:cL P take u ph af (some (.sub (.tl .e) true)) (aY P 100 j take u ph (.sub (.tl .e) true)) (Jb2 af u eV) 5 [(98,bU z),(100,fw P j' .e)]
 | hd {j j':Nat->Int}:cL P take u ph af (some (.sub (.hd .e) false)) (aY P 97 j take u ph (.sub (.hd .e) false)) af 2 [(97,ep P j' .e)]
 | Rg {z:Int} {j j':Nat->Int}:cL P take u ph af (some (.sub (.hd .e) false)) (aY P 100 j take u ph (.sub (.hd .e) false)) (Jb2 af u eV) 5 [(98,bU z),(100,ep P j' .e)]
theorem dh {j:Nat->Int} {s:Hs} (h:s.sX=true->D a):(aY P a j take u ph s).aD D:=by
 cases s with
 | sub f bM=>cases f<;>simp only [aY,rY,ak.aD,aR,AV.aD,and_true,true_and]<;>exact h rfl
 | _=>simp [aY,rY,ak.aD,aR,AV.aD]
theorem cL.ids {af:Nat->AV} {o:Option Hs} (h:cL P take u ph af o row' marks' k aN):
  (∀ D:Nat->Prop,(∀ i,96<=i->i<96+k->D i)->row'.aD D)∧(marks'=af∨ ∃ u,3<=k∧marks'=Jb2 af u eV)∧(∀ D:Nat->Prop,∀ x∈aN,x.2.aD D):=by
 have mk: ∀ (D:Nat->Prop) (z:Int),(bU z).aD D:=λD z=>by simp [bU,ak.aD,aR,AV.aD]
 cases h with
 | fin h=>exact ⟨λD _=>h D,.inl rfl,λD x hx=>by cases hx⟩
 | Bw h _=>exact ⟨λD _=>h D,.inr ⟨u,by omega,rfl⟩,λD x hx=>by simp only [List.mem_cons,List.not_mem_nil,or_false] at hx;subst hx;exact mk D _⟩
 | go hs hk=>exact ⟨λD _=>dh (λh=>by rw [hs] at h;cases h),.inl rfl,λD x hx=>by cases hx⟩
 | tl h=>exact ⟨λD hD=>dh (λ_=>by rcases h with ⟨rfl,rfl⟩ | ⟨_,rfl,rfl⟩<;>exact hD _ (by omega) (by omega)),.inl rfl,λD x hx=>by simp only [List.mem_cons,List.not_mem_nil,or_false] at hx;subst hx;show (fw P _ .e).aD D;exact bS⟩
 | Rf=>exact ⟨λD hD=>dh (λ_=>hD _ (by omega) (by omega)),.inr ⟨u,by omega,rfl⟩,λD x hx=>by
   simp only [List.mem_cons,List.not_mem_nil,or_false] at hx
   rcases hx with rfl | rfl
   ·exact mk D _
   ·show (fw P _ .e).aD D;exact bS⟩
 | hd=>exact ⟨λD hD=>dh (λ_=>hD _ (by omega) (by omega)),.inl rfl,λD x hx=>by simp only [List.mem_cons,List.not_mem_nil,or_false] at hx;subst hx;show (ep P _ .e).aD D;exact bg⟩
 | Rg=>exact ⟨λD hD=>dh (λ_=>hD _ (by omega) (by omega)),.inr ⟨u,by omega,rfl⟩,λD x hx=>by
   simp only [List.mem_cons,List.not_mem_nil,or_false] at hx
   rcases hx with rfl | rfl
   ·exact mk D _
   ·show (ep P _ .e).aD D;exact bg⟩
theorem u9 {P:Program} {outs':List (Nat×ak)} (hp:bP P f p) (kr: ∀ y∈outs',∃ x∈p.outs,x.1=y.1∧(∀ φ:bo,bW φ φ x.2 y.2)∧ ∀ D:Nat->Prop,x.2.aD D->y.2.aD D) (Ws: ∀ x∈p.outs,∃ y∈outs',y.1=x.1):bP P f { p with outs:=outs' }:=by
 refine ⟨hp.fn,λhq D h1 h2 h3=>⟨(hp.ids hq D h1 h2 h3).1,λy hy=> ?_⟩,λhq n φ w h1 h2 h3 h4=> ?_⟩
 ·obtain ⟨x,hx,_,_,ha⟩:=kr y hy
  exact ha D ((hp.ids hq D h1 h2 h3).2 x hx)
 ·refine (hp.nX hq n φ w h1 h2 h3 h4).mono ?_
  rintro e w' ⟨φ',he,hA,hH,hI,hS,hF,hr⟩
  refine ⟨φ',he,hA,λy hy=> ?_,λy hy z hz h=> ?_,λy hy=> ?_,λr hr bq=>hF r hr λx hx hz=> ?_,hr⟩
  ·obtain ⟨x,hx,hn,hs,_⟩:=kr y hy
   have:=(hH x hx).same rfl (hs φ')
   rw [hn] at this
   exact this
  ·obtain ⟨x,hx,hn,_,_⟩:=kr y hy
   obtain ⟨x',jx,FL,_,_⟩:=kr z hz
   rw [<- hn,<- FL] at h ⊢
   exact hI x hx x' jx h
  ·obtain ⟨x,hx,hn,_,_⟩:=kr y hy
   rw [<- hn]
   rcases hS x hx with h | ⟨x',jx,hz,h⟩
   ·exact .inl h
   ·obtain ⟨y',l0,FL⟩:=Ws x' jx
    exact .inr ⟨y',l0,by rw [FL];exact hz,by rw [FL];exact h⟩
  ·obtain ⟨y',l0,FL⟩:=Ws x hx
   rw [<- FL] at hz ⊢
   exact bq y' l0 hz
def fT (P:cv):ak:= .row false (fg P++[.int .i64 0,.int .i64 0,.int .u64 0,.int .u64 0,.int .u64 0]) 340 none
def gf (P:cv):ak:= .row false (fg P++[.int .i64 0,.int .i64 0,.int .u64 0,.int .u64 0,.int .u64 0,.int .u64 0]) 342 none
def zB (P:cv):Nat×ak->Nat×ak
 | (a,.row s l t q)=>(a,if t=340 then fw P (λ_=>0) .e else if t=342 then ep P (λ_=>0) .e else .row s l t q)
 | x=>x
theorem va {x:Nat×ak}:(zB P x).1=x.1:=by
 obtain ⟨a,o⟩:=x
 cases o<;>rfl
theorem Jd4 {pr:Program} {af:Nat->AV} {v:AV} (hp:bP pr f (wk P row row' aA inv af marks' c c' M M' v k aN)) (hn: ∀ x∈aN,x.2=fT P∨x.2=gf P∨ ∃ z,x.2=bU z):
  bP pr f (wk P row row' aA inv af marks' c c' M M' v k (aN.map (zB P))):=by
 refine u9 (outs':=[(64,row'),(1,wW aA inv marks'),(2,mR P c'),(3,Jb5 (aG P M'))]++aN.map (zB P)) hp (λy hy=> ?_) (λx hx=> ?_)
 ·rcases List.mem_append.1 hy with h | h
  ·exact ⟨y,List.mem_append.2 (.inl h),rfl,λφ=>by cases y.2 with
    | row s l t q=>exact ⟨rfl,rfl,rfl⟩
    | map s l=>exact rfl,λD h=>h⟩
  ·obtain ⟨x,hx,rfl⟩:=List.mem_map.1 h
   refine ⟨x,List.mem_append.2 (.inr hx),va.symm,?_⟩
   obtain ⟨a,o⟩:=x
   rcases hn _ hx with h | h | ⟨z,h⟩
   ·have h:o=fT P:=h
    subst h
    exact ⟨λφ=>⟨rfl,rfl,rfl⟩,λD _=>bS (t:= .e)⟩
   ·have h:o=gf P:=h
    subst h
    exact ⟨λφ=>⟨rfl,rfl,rfl⟩,λD _=>bg (t:= .e)⟩
   ·have h:o=bU z:=h
    subst h
    exact ⟨λφ=>⟨rfl,rfl,rfl⟩,λD h=>h⟩
 ·rcases List.mem_append.1 hx with h | h
  ·exact ⟨x,List.mem_append.2 (.inl h),rfl⟩
  ·exact ⟨zB P x,List.mem_append.2 (.inr (List.mem_map.2 ⟨x,h,rfl⟩)),va⟩
theorem mw {z:Int} {o:ak} (h:o=fT P∨o=gf P): ∀ x∈[(98,bU z),(100,o)],x.2=fT P∨x.2=gf P∨ ∃ z,x.2=bU z:=by
 intro x hx
 simp only [List.mem_cons,List.not_mem_nil,or_false] at hx
 rcases hx with rfl | rfl
 ·exact .inr (.inr ⟨z,rfl⟩)
 ·exact h.elim .inl λh=> .inr (.inl h)
theorem zC {d:Ds} (h:BD d) (ph:Nat) (take:Bool):(((cd d:Nat):Int)%2==1&&(((cd d:Nat):Int)/2%2==1)==take&&((cd d:Nat):Int)/4294967296==(ph:Nat))=d.waits ph take:=by
 obtain ⟨d1,d2,d3,d4⟩:=Jd1 h
 rw [d1,d2,d4,gx]
 rfl
theorem qx {x y:Nat×Nat} (h:x.2<1073741824) (h':y.2<1073741824):(((st x:Nat):Int)==((st y:Nat):Int))=decide (x=y):=by
 rw [gx]
 by_cases e:x=y
 ·rw [e];simp
 ·rw [decide_eq_false e,decide_eq_false (λh2=>e ((Q9 h h').1 h2))]
theorem zD {x:Nat} (ha:a<1048576) (hx:x<1073741824):u64.wrap ((BitVec.ofInt u64.bits ((st (a,0):Nat):Int) ||| BitVec.ofInt u64.bits (x:Int)).toNat:Int)=((st (a,x):Nat):Int):=by
 show u64.wrap (((BitVec.ofInt 64 ((st (a,0):Nat):Int) ||| BitVec.ofInt 64 (x:Int)).toNat:Nat):Int)=_
 rw [BitVec.ofInt_natCast,BitVec.ofInt_natCast,BitVec.toNat_or,BitVec.toNat_ofNat,BitVec.toNat_ofNat,Nat.mod_eq_of_lt (by unfold st;omega),Nat.mod_eq_of_lt (by omega)]
 have e:st (a,0) ||| x=st (a,x):=by
  have h1:=Nat.two_pow_add_eq_or_of_lt (i:=30) (b:=x) (by omega) a
  have e1:st (a,0)=2^30*a:=by unfold st;omega
  have e2:st (a,x)=2^30*a+x:=by unfold st;omega
  rw [e1,e2,h1]
 rw [e,fm (by omega) (by unfold st;omega)]
end
open Go.Proofs.Tryz (prog)
theorem Nh {P:cv} {b:Nat} {M:Mm} (hP:PB P) (iN:P.n<=4) (hb:b<524288) (bi:BI P b M) {u ph:Nat} (hu:u<P.n) {s:Hs} (hs:s.sX=false) (tb:Uj P M false s) (j:Nat->Int) (aA:Int) (inv af:Nat->AV) (c:Nat->Int):
  ∃ c' row' marks' k aN,bP prog 286 (wk P (aY P 80 j false u ph s) row' aA inv af marks' c c' M (ax P M false u ph s).1 (.bool (ax P M false u ph s).2.isNone) k aN)∧
   cL P false u ph af (ax P M false u ph s).2 row' marks' k aN:=by
 obtain ⟨n1,n2⟩:=hP.n
 obtain ⟨k1,k2⟩:=hP.k
 have lW: ∃ fn,prog.funcs[286]?=some fn∧fn.body.isSome=true:=⟨_,Tryz.func286,by kernel_rfl⟩
 have nB:1<sz P:=by unfold sz;omega
 have TT:(0:Int)<(sz P:Int):=by omega
 have key: ∀ {o:Option Hs} {row':ak} {marks':Nat->AV} {c':Nat->Int} {M':Mm} {av:AV} {b:Bool} {k:Nat} (aN:List (Nat×ak)),(∀ x∈aN,x.2=fT P∨x.2=gf P∨ ∃ z,x.2=bU z)->cL P false u ph af o row' marks' k (aN.map (zB P))->(av= .bool b∨av= .eS b)->b=o.isNone->
   rh prog bz 286 (wk P (aY P 80 j false u ph s) row' aA inv af marks' c c' M M' av k aN)->
   ∃ c' row' marks' k aN,bP prog 286 (wk P (aY P 80 j false u ph s) row' aA inv af marks' c c' M M' (.bool o.isNone) k aN)∧cL P false u ph af o row' marks' k aN:=by
  intro o row' marks' c' M' av b k aN xH ho O0 Vx hw
  obtain ⟨h1,h2,h3⟩:=ho.ids
  have La: ∀ D:Nat->Prop,∀ x∈aN,x.2.aD D:=λD x hx=>by
   rcases xH x hx with h | h | ⟨z,h⟩<;>rw [h]<;>simp [fT,gf,bU,fg,ak.aD,aR,AV.aD]
  have cC: ∀ D:Nat->Prop,av.aD D:=λD=>by rcases O0 with rfl | rfl<;>trivial
  have hp:=cK named mixed dx lW (λ_=>hw) (λ_=>Ja4 cC h1 h2 La)
  refine ⟨c',row',marks',k,aN.map (zB P),?_,ho⟩
  rcases O0 with rfl | rfl
  ·rw [<- Vx];exact Jd4 hp xH
  ·rw [<- Vx];exact Jd4 (u7 hp rfl) xH
 obtain ⟨f1,f2,f3⟩:=sW (P:=P) hu
 have nv:=Jc3 hb bi u
 have dA:=jY nv
 have Gc:(aG P M)[(0+2+(u:Int)).toNat]?=some (.aa .u64 ((cd (M.ds u):Nat):Int)):=by
  rw [f3,cr (by unfold sz;omega),gA hu]
 have Sv:=zC nv ph false
 cases s with
 | sub f bM=>cases hs
 | look=>
  by_cases h:(M.ds u).waits ph false=true
  ·have e:ax P M false u ph .look=(M,some .iw):=by simp only [ax];rw [if_pos h];rfl
   rw [e]
   have hv:(!((((cd (M.ds u):Nat):Int)%2==1&&(((cd (M.ds u):Nat):Int)/2%2==1)==false&&((cd (M.ds u):Nat):Int)/4294967296==(ph:Nat))))=false:=by rw [Sv,h];rfl
   refine key (c':=bw c 0) (M':=M) [] (by simp) (cL.go (s:= .iw) (j:=λi=>if i=0 then ((cd (M.ds u):Nat):Int) else j i) rfl (.inl rfl)) (.inr rfl) hv (bs (wA HU P c M aA inv af 0 P.n P.k ph (j 0) (j 1) (j 2) (j 3) (j 4) (cd (M.ds u):Nat) u) ?_ rfl rfl [64,1,2,3] rfl rfl rfl)
   (repeat' apply And.intro);all_goals first | assumption | exact True.intro | omega | rfl
  ·have h':(M.ds u).waits ph false=false:=by simpa using h
   have e:ax P M false u ph .look=(M,none):=by simp only [ax];rw [if_neg h]
   rw [e]
   have hv:(!((((cd (M.ds u):Nat):Int)%2==1&&(((cd (M.ds u):Nat):Int)/2%2==1)==false&&((cd (M.ds u):Nat):Int)/4294967296==(ph:Nat))))=true:=by rw [Sv,h'];rfl
   refine key (c':=bw c 0) (M':=M) [] (by simp) (cL.fin (row:=aY P 80 (λi=>if i=0 then ((cd (M.ds u):Nat):Int) else j i) false u ph .iw) (λD=>dh (λh=>by cases h))) (.inr rfl) hv (bs (wA HU P c M aA inv af 0 P.n P.k ph (j 0) (j 1) (j 2) (j 3) (j 4) (cd (M.ds u):Nat) u) ?_ rfl rfl [64,1,2,3] rfl rfl rfl)
   (repeat' apply And.intro);all_goals first | assumption | exact True.intro | omega | rfl
 | iw=>
  have hw:(aG P M)[(0+1:Int).toNat]?=some (.aa .u64 (M.tail:Int)):=by
   have:=cr (P:=P) (M:=M) (a:=1) nB
   rw [mZ] at this;exact this
  refine key (c':=bw c 0) (M':=M) [] (by simp) (cL.go (s:= .gG M.tail) (j:=j) rfl (.inl rfl)) (.inl rfl) rfl (bs (wA Rb P c M aA inv af 0 P.n P.k ph (j 0) (j 1) (j 2) (j 3) (j 4) M.tail u) ?_ rfl rfl [64,1,2,3] rfl rfl rfl)
  (repeat' apply And.intro);all_goals first | assumption | exact True.intro | omega | rfl
 | gG last=>
  obtain ⟨-,ho,hl⟩:=tb
  obtain ⟨i1,i2⟩:=gH ho
  have hf:=lT (f:=0) ho (by omega)
  simp only [Int.natCast_zero] at hf
  obtain ⟨g1,g2,g3⟩:=hf
  have hw:(aG P M)[(0+(2+(P.n:Int)+4*((last:Int)%1024-1)+0)).toNat]?=some (.aa .u64 ((st (M.nx (aO last)):Nat):Int)):=by
   rw [g3,cr (fH ho.1 ho.2 (by omega)),ek ho.1 (by omega),if_pos rfl]
  obtain ⟨x1,x2⟩:=bi.nx (aO last)
  have hU:=sV x2 x1
  obtain ⟨s1,s2⟩:=Bs x2
  have eqv:(((st (M.nx (aO last)):Nat):Int)/1073741824==(last:Int)/1024)=decide ((M.nx (aO last)).1=bH last):=by rw [s1,jy,gx]
  by_cases hv:(M.nx (aO last)).1=bH last
  ·have c1:(!((st (M.nx (aO last)):Nat):Int)/1073741824==(last:Int)/1024)=false:=by rw [eqv,decide_eq_true hv];rfl
   by_cases h0:(M.nx (aO last)).2=0
   ·have e:ax P M false u ph (.gG last)=(M,some (.fv last)):=by simp only [ax];rw [if_pos hv,if_neg (λh=>h h0)]
    rw [e]
    have c2:aq .neq (((st (M.nx (aO last)):Nat):Int)%1073741824) 0=false:=by rw [s2,h0];rfl
    have eF:st (M.nx (aO last))=st (bH last,0):=by rw [show M.nx (aO last)=(bH last,0) from Prod.ext hv h0]
    refine key (c':=bw c 0) (M':=M) [] (by simp) (cL.go (s:= .fv last) (j:=λi=>if i=4 then aA else j i) rfl (.inl rfl)) (.inl rfl) rfl (bs (wA MY P c M aA inv af 0 P.n P.k ph (j 0) (j 1) last (j 3) (j 4) (st (M.nx (aO last)):Nat) u) ?_ rfl (by rw [eF];rfl) [64,1,2,3] rfl rfl rfl)
    (repeat' apply And.intro);all_goals first | assumption | exact True.intro | omega | rfl
   ·have e:ax P M false u ph (.gG last)=(M,some (.sub (.tl .e) false)):=by simp only [ax];rw [if_pos hv,if_pos h0]
    rw [e]
    have c2:aq .neq (((st (M.nx (aO last)):Nat):Int)%1073741824) 0=true:=by rw [s2];exact bne_iff_ne.2 (by omega)
    refine key (c':=bw c 0) (M':=M) [(97,fT P)] (by simp) (cL.tl (a:=97) (j:=λi=>if i=2 then (last:Nat) else if i=3 then ((st (M.nx (aO last)):Nat):Int) else if i=4 then aA else j i) (j':=λ_=>0) (.inl ⟨rfl,rfl⟩)) (.inl rfl) rfl (bs (wA MX P c M aA inv af 0 P.n P.k ph (j 0) (j 1) last (j 3) (j 4) (st (M.nx (aO last)):Nat) u) ?_ rfl rfl [64,1,2,3] rfl rfl rfl)
    (repeat' apply And.intro);all_goals first | assumption | exact True.intro | omega | rfl
  ·have c1:(!((st (M.nx (aO last)):Nat):Int)/1073741824==(last:Int)/1024)=true:=by rw [eqv,decide_eq_false hv];rfl
   have e:ax P M false u ph (.gG last)=(M,some .look):=by simp only [ax];rw [if_neg hv]
   rw [e]
   refine key (c':=bw c 0) (M':=M) [] (by simp) (cL.go (s:= .look) (j:=λi=>if i=2 then (last:Nat) else if i=3 then ((st (M.nx (aO last)):Nat):Int) else if i=4 then aA else j i) rfl (.inl rfl)) (.inl rfl) rfl (bs (wA MW P c M aA inv af 0 P.n P.k ph (j 0) (j 1) last (j 3) (j 4) (st (M.nx (aO last)):Nat) u) ?_ rfl rfl [64,1,2,3] rfl rfl rfl)
   (repeat' apply And.intro);all_goals first | assumption | exact True.intro | omega | rfl
 | fv last=>
  by_cases h:(M.ds u).waits ph false=true
  ·have e:ax P M false u ph (.fv last)=(M,some (.kL last (M.ds u))):=by simp only [ax];rw [if_pos h]
   rw [e]
   have hv:(!((((cd (M.ds u):Nat):Int)%2==1&&(((cd (M.ds u):Nat):Int)/2%2==1)==false&&((cd (M.ds u):Nat):Int)/4294967296==(ph:Nat))))=false:=by rw [Sv,h];rfl
   refine key (c':=bw c 0) (M':=M) [] (by simp) (cL.go (s:= .kL last (M.ds u)) (j:=j) rfl (.inl rfl)) (.inr rfl) hv (bs (wA HV P c M aA inv af 0 P.n P.k ph (j 0) (j 1) last (st (bH last,0):Nat) (j 4) (cd (M.ds u):Nat) u) ?_ rfl rfl [64,1,2,3] rfl rfl rfl)
   (repeat' apply And.intro);all_goals first | assumption | exact True.intro | omega | rfl
  ·have h':(M.ds u).waits ph false=false:=by simpa using h
   have e:ax P M false u ph (.fv last)=(M,none):=by simp only [ax];rw [if_neg h]
   rw [e]
   have hv:(!((((cd (M.ds u):Nat):Int)%2==1&&(((cd (M.ds u):Nat):Int)/2%2==1)==false&&((cd (M.ds u):Nat):Int)/4294967296==(ph:Nat))))=true:=by rw [Sv,h'];rfl
   refine key (c':=bw c 0) (M':=M) [] (by simp) (cL.fin (row:=aY P 80 j false u ph (.kL last (M.ds u))) (λD=>dh (λh=>by cases h))) (.inr rfl) hv (bs (wA HV P c M aA inv af 0 P.n P.k ph (j 0) (j 1) last (st (bH last,0):Nat) (j 4) (cd (M.ds u):Nat) u) ?_ rfl rfl [64,1,2,3] rfl rfl rfl)
   (repeat' apply And.intro);all_goals first | assumption | exact True.intro | omega | rfl
 | kL last d=>
  obtain ⟨-,ho,hl,hd⟩:=tb
  obtain ⟨i1,i2⟩:=gH ho
  have hf:=lT (f:=0) ho (by omega)
  simp only [Int.natCast_zero] at hf
  obtain ⟨g1,g2,g3⟩:=hf
  have hw:(aG P M)[(0+(2+(P.n:Int)+4*((last:Int)%1024-1)+0)).toNat]?=some (.aa .u64 ((st (M.nx (aO last)):Nat):Int)):=by
   rw [g3,cr (fH ho.1 ho.2 (by omega)),ek ho.1 (by omega),if_pos rfl]
  obtain ⟨x1,x2⟩:=bi.nx (aO last)
  have ir:=qx (x:=M.nx (aO last)) (y:=(bH last,0)) x2 (by show 0<1073741824;omega)
  have FR:=jY hd
  by_cases hc:M.nx (aO last)=(bH last,0)
  ·have e:ax P M false u ph (.kL last d)=({ M with nx:=Jb2 M.nx (aO last) (bH last,d.load) },some (.sub (.tl .e) true)):=by simp only [ax];rw [if_pos hc]
   rw [e]
   rw [decide_eq_true hc] at ir
   have dV:(aG P M).set (0+(2+(P.n:Int)+4*((last:Int)%1024-1)+0)).toNat (.aa .u64 (u64.wrap ((BitVec.ofInt u64.bits ((st (bH last,0):Nat):Int) ||| BitVec.ofInt u64.bits (((cd d:Nat):Int)/4%1073741824)).toNat:Int)))=aG P { M with nx:=Jb2 M.nx (aO last) (bH last,d.load) }:=by
    rw [g3,(Jd1 hd).2.2.1]
    exact Br ho.1 ho.2 (zD (by unfold bH;omega) hd.1)
   have Wk:u=0∨u=1∨u=2∨u=3:=by omega
   rcases Wk with rfl | rfl | rfl | rfl
   ·refine key (c':=bw c 2) (M':={ M with nx:=Jb2 M.nx (aO last) (bH last,d.load) }) [(98,bU (i64.wrap (2*aA))),(100,fT P)] (mw (.inl rfl)) (cL.Rf (j:=λi=>if i=0 then ((cd d:Nat):Int) else if i=2 then (last:Nat) else if i=3 then ((st (bH last,0):Nat):Int) else j i) (j':=λ_=>0)) (.inl rfl) rfl (bs (wA HW P c M aA inv af 0 P.n P.k ph (cd d:Nat) (j 1) last (st (bH last,0):Nat) (j 4) 0) ?_ rfl (by rw [dV];rfl) [64,1,2,3] rfl rfl rfl)
    (repeat' apply And.intro);all_goals first | assumption | exact True.intro | omega | rfl | exact ⟨_,hw,ir⟩
   ·refine key (c':=bw c 2) (M':={ M with nx:=Jb2 M.nx (aO last) (bH last,d.load) }) [(98,bU (i64.wrap (2*aA))),(100,fT P)] (mw (.inl rfl)) (cL.Rf (j:=λi=>if i=0 then ((cd d:Nat):Int) else if i=2 then (last:Nat) else if i=3 then ((st (bH last,0):Nat):Int) else j i) (j':=λ_=>0)) (.inl rfl) rfl (bs (wA HX P c M aA inv af 0 P.n P.k ph (cd d:Nat) (j 1) last (st (bH last,0):Nat) (j 4) 0) ?_ rfl (by rw [dV];rfl) [64,1,2,3] rfl rfl rfl)
    (repeat' apply And.intro);all_goals first | assumption | exact True.intro | omega | rfl | exact ⟨_,hw,ir⟩
   ·refine key (c':=bw c 2) (M':={ M with nx:=Jb2 M.nx (aO last) (bH last,d.load) }) [(98,bU (i64.wrap (2*aA))),(100,fT P)] (mw (.inl rfl)) (cL.Rf (j:=λi=>if i=0 then ((cd d:Nat):Int) else if i=2 then (last:Nat) else if i=3 then ((st (bH last,0):Nat):Int) else j i) (j':=λ_=>0)) (.inl rfl) rfl (bs (wA HY P c M aA inv af 0 P.n P.k ph (cd d:Nat) (j 1) last (st (bH last,0):Nat) (j 4) 0) ?_ rfl (by rw [dV];rfl) [64,1,2,3] rfl rfl rfl)
    (repeat' apply And.intro);all_goals first | assumption | exact True.intro | omega | rfl | exact ⟨_,hw,ir⟩
   ·refine key (c':=bw c 2) (M':={ M with nx:=Jb2 M.nx (aO last) (bH last,d.load) }) [(98,bU (i64.wrap (2*aA))),(100,fT P)] (mw (.inl rfl)) (cL.Rf (j:=λi=>if i=0 then ((cd d:Nat):Int) else if i=2 then (last:Nat) else if i=3 then ((st (bH last,0):Nat):Int) else j i) (j':=λ_=>0)) (.inl rfl) rfl (bs (wA HZ P c M aA inv af 0 P.n P.k ph (cd d:Nat) (j 1) last (st (bH last,0):Nat) (j 4) 0) ?_ rfl (by rw [dV];rfl) [64,1,2,3] rfl rfl rfl)
    (repeat' apply And.intro);all_goals first | assumption | exact True.intro | omega | rfl | exact ⟨_,hw,ir⟩
  ·have e:ax P M false u ph (.kL last d)=(M,some .look):=by simp only [ax];rw [if_neg hc]
   rw [e]
   rw [decide_eq_false hc] at ir
   refine key (c':=bw c 2) (M':=M) [] (by simp) (cL.go (s:= .look) (j:=λi=>if i=0 then ((cd d:Nat):Int) else if i=2 then (last:Nat) else if i=3 then ((st (bH last,0):Nat):Int) else j i) rfl (.inl rfl)) (.inl rfl) rfl (bs (wA MZ P c M aA inv af 0 P.n P.k ph (cd d:Nat) (j 1) last (st (bH last,0):Nat) (j 4) 0 u) ?_ rfl rfl [64,1,2,3] rfl rfl rfl)
   (repeat' apply And.intro);all_goals first | assumption | exact True.intro | omega | rfl | exact ⟨_,hw,ir⟩
 | _=>exact absurd tb.1 (by decide)
theorem Ni {P:cv} {b:Nat} {M:Mm} (hP:PB P) (iN:P.n<=4) (hb:b<524288) (bi:BI P b M) {u ph:Nat} (hu:u<P.n) {s:Hs} (hs:s.sX=false) (tb:Uj P M true s) (j:Nat->Int) (aA:Int) (inv af:Nat->AV) (c:Nat->Int):
  ∃ c' row' marks' k aN,bP prog 279 (wk P (aY P 80 j true u ph s) row' aA inv af marks' c c' M (ax P M true u ph s).1 (.bool (ax P M true u ph s).2.isNone) k aN)∧
   cL P true u ph af (ax P M true u ph s).2 row' marks' k aN:=by
 obtain ⟨n1,n2⟩:=hP.n
 obtain ⟨k1,k2⟩:=hP.k
 have lW: ∃ fn,prog.funcs[279]?=some fn∧fn.body.isSome=true:=⟨_,Tryz.func279,by kernel_rfl⟩
 have nB:1<sz P:=by unfold sz;omega
 have TT:(0:Int)<(sz P:Int):=by omega
 have key: ∀ {o:Option Hs} {row':ak} {marks':Nat->AV} {c':Nat->Int} {M':Mm} {av:AV} {b:Bool} {k:Nat} (aN:List (Nat×ak)),(∀ x∈aN,x.2=fT P∨x.2=gf P∨ ∃ z,x.2=bU z)->cL P true u ph af o row' marks' k (aN.map (zB P))->(av= .bool b∨av= .eS b)->b=o.isNone->
   rh prog bz 279 (wk P (aY P 80 j true u ph s) row' aA inv af marks' c c' M M' av k aN)->
   ∃ c' row' marks' k aN,bP prog 279 (wk P (aY P 80 j true u ph s) row' aA inv af marks' c c' M M' (.bool o.isNone) k aN)∧cL P true u ph af o row' marks' k aN:=by
  intro o row' marks' c' M' av b k aN xH ho O0 Vx hw
  obtain ⟨h1,h2,h3⟩:=ho.ids
  have La: ∀ D:Nat->Prop,∀ x∈aN,x.2.aD D:=λD x hx=>by
   rcases xH x hx with h | h | ⟨z,h⟩<;>rw [h]<;>simp [fT,gf,bU,fg,ak.aD,aR,AV.aD]
  have cC: ∀ D:Nat->Prop,av.aD D:=λD=>by rcases O0 with rfl | rfl<;>trivial
  have hp:=cK named mixed dx lW (λ_=>hw) (λ_=>Ja4 cC h1 h2 La)
  refine ⟨c',row',marks',k,aN.map (zB P),?_,ho⟩
  rcases O0 with rfl | rfl
  ·rw [<- Vx];exact Jd4 hp xH
  ·rw [<- Vx];exact Jd4 (u7 hp rfl) xH
 obtain ⟨f1,f2,f3⟩:=sW (P:=P) hu
 have nv:=Jc3 hb bi u
 have dA:=jY nv
 have Gc:(aG P M)[(0+2+(u:Int)).toNat]?=some (.aa .u64 ((cd (M.ds u):Nat):Int)):=by
  rw [f3,cr (by unfold sz;omega),gA hu]
 have Sv:=zC nv ph true
 have hwh:(aG P M)[(0:Int).toNat]?=some (.aa .u64 (M.head:Int)):=by
  have:=cr (P:=P) (M:=M) (a:=0) (by omega)
  rw [rX] at this;exact this
 cases s with
 | sub f bM=>cases hs
 | look=>
  by_cases h:(M.ds u).waits ph true=true
  ·have e:ax P M true u ph .look=(M,some (.iz (M.ds u))):=by simp only [ax];rw [if_pos h];rfl
   rw [e]
   have hv:(!((((cd (M.ds u):Nat):Int)%2==1&&(((cd (M.ds u):Nat):Int)/2%2==1)==true&&((cd (M.ds u):Nat):Int)/4294967296==(ph:Nat))))=false:=by rw [Sv,h];rfl
   refine key (c':=bw c 0) (M':=M) [] (by simp) (cL.go (s:= .iz (M.ds u)) (j:=j) rfl (.inl rfl)) (.inr rfl) hv (bs (wA Ja2 P c M aA inv af 0 P.n P.k ph (j 0) (j 1) (j 2) (j 3) (j 4) (cd (M.ds u):Nat) u) ?_ rfl rfl [64,1,2,3] rfl rfl rfl)
   (repeat' apply And.intro);all_goals first | exact True.intro | omega | assumption | rfl
  ·have h':(M.ds u).waits ph true=false:=by simpa using h
   have e:ax P M true u ph .look=(M,none):=by simp only [ax];rw [if_neg h]
   rw [e]
   have hv:(!((((cd (M.ds u):Nat):Int)%2==1&&(((cd (M.ds u):Nat):Int)/2%2==1)==true&&((cd (M.ds u):Nat):Int)/4294967296==(ph:Nat))))=true:=by rw [Sv,h'];rfl
   refine key (c':=bw c 0) (M':=M) [] (by simp) (cL.fin (row:=aY P 80 j true u ph (.iz (M.ds u))) (λD=>dh (λh=>by cases h))) (.inr rfl) hv (bs (wA Ja2 P c M aA inv af 0 P.n P.k ph (j 0) (j 1) (j 2) (j 3) (j 4) (cd (M.ds u):Nat) u) ?_ rfl rfl [64,1,2,3] rfl rfl rfl)
   (repeat' apply And.intro);all_goals first | exact True.intro | omega | assumption | rfl
 | iz d=>
  refine key (c':=bw c 0) (M':=M) [] (by simp) (cL.go (s:= .ji d M.head) (j:=j) rfl (.inr ⟨rfl,rfl⟩)) (.inl rfl) rfl (bs (wA Rc P c M aA inv af 0 P.n P.k ph (cd d:Nat) (j 1) (j 2) (j 3) (j 4) M.head u) ?_ rfl rfl [64,1,2,3] rfl rfl rfl)
  (repeat' apply And.intro);all_goals first | exact True.intro | omega | assumption | rfl
 | ji d first=>
  have hw:(aG P M)[(0+1:Int).toNat]?=some (.aa .u64 (M.tail:Int)):=by
   have:=cr (P:=P) (M:=M) (a:=1) nB
   rw [mZ] at this;exact this
  refine key (c':=bw c 0) (M':=M) [] (by simp) (cL.go (s:= .jj d first M.tail) (j:=j) rfl (.inl rfl)) (.inl rfl) rfl (bs (wA Rd P c M aA inv af 0 P.n P.k ph (cd d:Nat) first (j 2) (j 3) (j 4) M.tail u) ?_ rfl rfl [64,1,2,3] rfl rfl rfl)
  (repeat' apply And.intro);all_goals first | exact True.intro | omega | assumption | rfl
 | jj d first last=>
  obtain ⟨-,hd,ho,hl,Tz⟩:=tb
  obtain ⟨i1,i2⟩:=gH ho
  have hf:=lT (f:=0) ho (by omega)
  simp only [Int.natCast_zero] at hf
  obtain ⟨g1,g2,g3⟩:=hf
  have hw:(aG P M)[(0+(2+(P.n:Int)+4*((first:Int)%1024-1)+0)).toNat]?=some (.aa .u64 ((st (M.nx (aO first)):Nat):Int)):=by
   rw [g3,cr (fH ho.1 ho.2 (by omega)),ek ho.1 (by omega),if_pos rfl]
  refine key (c':=bw c 0) (M':=M) [] (by simp) (cL.go (s:= .ey d first last (M.nx (aO first))) (j:=(λi=>if i=4 then aA else j i)) rfl (.inl rfl)) (.inl rfl) rfl (bs (wA Re P c M aA inv af 0 P.n P.k ph (cd d:Nat) first last (j 3) (j 4) (st (M.nx (aO first)):Nat) u) ?_ rfl rfl [64,1,2,3] rfl rfl rfl)
  (repeat' apply And.intro);all_goals first | exact True.intro | omega | assumption | rfl
 | ey d first last w=>
  obtain ⟨-,hd,ho,hl,Tz,D2,O1⟩:=tb
  have hU:=sV O1 D2
  have FR:=jY hd
  obtain ⟨s1,s2⟩:=Bs O1
  obtain ⟨d1,d2,d3,d4⟩:=Jd1 hd
  by_cases hh:M.head=first
  ·have c1:aq .eql (M.head:Int) (first:Int)=true:=by rw [hh];exact beq_self_eq_true _
   by_cases h0:w.2=0
   ·have e:ax P M true u ph (.ey d first last w)=(M,some (.ff d)):=by simp only [ax];rw [if_pos hh,if_pos h0]
    rw [e]
    have c2:aq .eql (((st w:Nat):Int)%1073741824) 0=true:=by rw [s2,h0];rfl
    refine key (c':=bw c 0) (M':=M) [] (by simp) (cL.go (s:= .ff d) (j:=(λi=>if i=1 then (first:Int) else if i=2 then (last:Int) else if i=3 then ((st w:Nat):Int) else j i)) rfl (.inr ⟨rfl,rfl⟩)) (.inl rfl) rfl (bs (wA M4 P c M aA inv af 0 P.n P.k ph (cd d:Nat) first last (st w:Nat) (j 4) M.head u) ?_ rfl rfl [64,1,2,3] rfl rfl rfl)
    (repeat' apply And.intro);all_goals first | exact True.intro | omega | assumption | rfl
   ·have c2:aq .eql (((st w:Nat):Int)%1073741824) 0=false:=by rw [s2];exact beq_eq_false_iff_ne.2 (by omega)
    by_cases vz:first=last
    ·have e:ax P M true u ph (.ey d first last w)=(M,some (.sub (.tl .e) false)):=by simp only [ax];rw [if_pos hh,if_neg h0,if_pos vz]
     rw [e]
     have c3:aq .eql (first:Int) (last:Int)=true:=by rw [vz];exact beq_self_eq_true _
     refine key (c':=bw c 0) (M':=M) [(98,fT P)] (by simp) (cL.tl (a:=98) (j:=(λi=>if i=0 then ((cd d:Nat):Int) else if i=1 then (first:Int) else if i=2 then (last:Int) else if i=3 then ((st w:Nat):Int) else j i)) (j':=λ_=>0) (.inr ⟨rfl,rfl,rfl⟩)) (.inl rfl) rfl (bs (wA M5 P c M aA inv af 0 P.n P.k ph (cd d:Nat) first last (st w:Nat) (j 4) M.head u) ?_ rfl rfl [64,1,2,3] rfl rfl rfl)
     (repeat' apply And.intro);all_goals first | exact True.intro | omega | assumption | rfl
    ·have c3:aq .eql (first:Int) (last:Int)=false:=beq_eq_false_iff_ne.2 (by omega)
     by_cases F7:d.load=first
     ·have e:ax P M true u ph (.ey d first last w)=(M,some (.eJ first)):=by simp only [ax];rw [if_pos hh,if_neg h0,if_neg vz,if_neg (λh=>h F7)]
      rw [e]
      have c4:aq .neq (((cd d:Nat):Int)/4%1073741824) (first:Int)=false:=by rw [d3,F7];exact bne_self_eq_false _
      refine key (c':=bw c 0) (M':=M) [] (by simp) (cL.go (s:= .eJ first) (j:=(λi=>if i=0 then ((cd d:Nat):Int) else if i=2 then (last:Int) else if i=3 then ((st w:Nat):Int) else j i)) rfl (.inr ⟨rfl,rfl⟩)) (.inl rfl) rfl (bs (wA M7 P c M aA inv af 0 P.n P.k ph (cd d:Nat) first last (st w:Nat) (j 4) M.head u) ?_ rfl rfl [64,1,2,3] rfl rfl rfl)
      (repeat' apply And.intro);all_goals first | exact True.intro | omega | assumption | rfl
     ·have e:ax P M true u ph (.ey d first last w)=(M,some (.hZ d first)):=by simp only [ax];rw [if_pos hh,if_neg h0,if_neg vz,if_pos F7]
      rw [e]
      have c4:aq .neq (((cd d:Nat):Int)/4%1073741824) (first:Int)=true:=by rw [d3];exact bne_iff_ne.2 (by omega)
      refine key (c':=bw c 0) (M':=M) [] (by simp) (cL.go (s:= .hZ d first) (j:=(λi=>if i=2 then (last:Int) else if i=3 then ((st w:Nat):Int) else j i)) rfl (.inr ⟨rfl,rfl⟩)) (.inl rfl) rfl (bs (wA M6 P c M aA inv af 0 P.n P.k ph (cd d:Nat) first last (st w:Nat) (j 4) M.head u) ?_ rfl rfl [64,1,2,3] rfl rfl rfl)
      (repeat' apply And.intro);all_goals first | exact True.intro | omega | assumption | rfl
  ·have c1:aq .eql (M.head:Int) (first:Int)=false:=beq_eq_false_iff_ne.2 (by omega)
   have e:ax P M true u ph (.ey d first last w)=(M,some .look):=by simp only [ax];rw [if_neg hh]
   rw [e]
   refine key (c':=bw c 0) (M':=M) [] (by simp) (cL.go (s:= .look) (j:=(λi=>if i=0 then ((cd d:Nat):Int) else if i=1 then (first:Int) else if i=2 then (last:Int) else if i=3 then ((st w:Nat):Int) else j i)) rfl (.inr ⟨rfl,rfl⟩)) (.inl rfl) rfl (bs (wA M3 P c M aA inv af 0 P.n P.k ph (cd d:Nat) first last (st w:Nat) (j 4) M.head u) ?_ rfl rfl [64,1,2,3] rfl rfl rfl)
   (repeat' apply And.intro);all_goals first | exact True.intro | omega | assumption | rfl
 | ff d=>
  obtain ⟨-,hd⟩:=tb
  have FR:=jY hd
  have ir:=wi nv hd
  by_cases hc:M.ds u=d
  ·have e:ax P M true u ph (.ff d)=({ M with ds:=Jb2 M.ds u (d.fin 0) },none):=by simp only [ax];rw [if_pos hc]
   rw [e]
   rw [decide_eq_true hc] at ir
   have dV:(aG P M).set (0+2+(u:Int)).toNat (.aa .u64 (((cd d:Nat):Int)-((cd d:Nat):Int)%2-((cd d:Nat):Int)/4%1073741824*4+(0:Int)*4))=aG P { M with ds:=Jb2 M.ds u (d.fin 0) }:=by
    rw [f3];exact qv hu (Bt (l:=0) hd)
   have Wk:u=0∨u=1∨u=2∨u=3:=by omega
   rcases Wk with rfl | rfl | rfl | rfl
   ·have VP:(0:Int)<=0+2+(0:Int):=f1
    have VG:(0:Int)+2+(0:Int)<(sz P:Int):=f2
    have Cq:(aG P M)[(0+2+(0:Int)).toNat]?=some (.aa .u64 ((cd (M.ds 0):Nat):Int)):=Gc
    have kk:(aG P M).set (0+2+(0:Int)).toNat (.aa .u64 (((cd d:Nat):Int)-((cd d:Nat):Int)%2-((cd d:Nat):Int)/4%1073741824*4+(0:Int)*4))=aG P { M with ds:=Jb2 M.ds 0 (d.fin 0) }:=dV
    refine key (c':=bw c 2) (M':={ M with ds:=Jb2 M.ds 0 (d.fin 0) }) [(98,bU (i64.wrap (2*j 4)))] (by intro x hx;simp only [List.mem_cons,List.not_mem_nil,or_false] at hx;subst hx;exact .inr (.inr ⟨_,rfl⟩)) (cL.Bw (row:=aY P 80 (λi=>if i=0 then ((cd d:Nat):Int) else j i) true 0 ph .look) (λD=>dh (λh=>by cases h))) (.inl rfl) rfl (bs (wA H3 P c M aA inv af 0 P.n P.k ph (cd d:Nat) (j 1) (j 2) (j 3) (j 4) 0) ?_ rfl (by rw [kk];rfl) [64,1,2,3] rfl rfl rfl)
    (repeat' apply And.intro);all_goals first | exact True.intro | omega | assumption | rfl | exact ⟨_,Cq,ir⟩
   ·have VP:(0:Int)<=0+2+(1:Int):=f1
    have VG:(0:Int)+2+(1:Int)<(sz P:Int):=f2
    have Cq:(aG P M)[(0+2+(1:Int)).toNat]?=some (.aa .u64 ((cd (M.ds 1):Nat):Int)):=Gc
    have kk:(aG P M).set (0+2+(1:Int)).toNat (.aa .u64 (((cd d:Nat):Int)-((cd d:Nat):Int)%2-((cd d:Nat):Int)/4%1073741824*4+(0:Int)*4))=aG P { M with ds:=Jb2 M.ds 1 (d.fin 0) }:=dV
    refine key (c':=bw c 2) (M':={ M with ds:=Jb2 M.ds 1 (d.fin 0) }) [(98,bU (i64.wrap (2*j 4)))] (by intro x hx;simp only [List.mem_cons,List.not_mem_nil,or_false] at hx;subst hx;exact .inr (.inr ⟨_,rfl⟩)) (cL.Bw (row:=aY P 80 (λi=>if i=0 then ((cd d:Nat):Int) else j i) true 1 ph .look) (λD=>dh (λh=>by cases h))) (.inl rfl) rfl (bs (wA H4 P c M aA inv af 0 P.n P.k ph (cd d:Nat) (j 1) (j 2) (j 3) (j 4) 0) ?_ rfl (by rw [kk];rfl) [64,1,2,3] rfl rfl rfl)
    (repeat' apply And.intro);all_goals first | exact True.intro | omega | assumption | rfl | exact ⟨_,Cq,ir⟩
   ·have VP:(0:Int)<=0+2+(2:Int):=f1
    have VG:(0:Int)+2+(2:Int)<(sz P:Int):=f2
    have Cq:(aG P M)[(0+2+(2:Int)).toNat]?=some (.aa .u64 ((cd (M.ds 2):Nat):Int)):=Gc
    have kk:(aG P M).set (0+2+(2:Int)).toNat (.aa .u64 (((cd d:Nat):Int)-((cd d:Nat):Int)%2-((cd d:Nat):Int)/4%1073741824*4+(0:Int)*4))=aG P { M with ds:=Jb2 M.ds 2 (d.fin 0) }:=dV
    refine key (c':=bw c 2) (M':={ M with ds:=Jb2 M.ds 2 (d.fin 0) }) [(98,bU (i64.wrap (2*j 4)))] (by intro x hx;simp only [List.mem_cons,List.not_mem_nil,or_false] at hx;subst hx;exact .inr (.inr ⟨_,rfl⟩)) (cL.Bw (row:=aY P 80 (λi=>if i=0 then ((cd d:Nat):Int) else j i) true 2 ph .look) (λD=>dh (λh=>by cases h))) (.inl rfl) rfl (bs (wA H7 P c M aA inv af 0 P.n P.k ph (cd d:Nat) (j 1) (j 2) (j 3) (j 4) 0) ?_ rfl (by rw [kk];rfl) [64,1,2,3] rfl rfl rfl)
    (repeat' apply And.intro);all_goals first | exact True.intro | omega | assumption | rfl | exact ⟨_,Cq,ir⟩
   ·have VP:(0:Int)<=0+2+(3:Int):=f1
    have VG:(0:Int)+2+(3:Int)<(sz P:Int):=f2
    have Cq:(aG P M)[(0+2+(3:Int)).toNat]?=some (.aa .u64 ((cd (M.ds 3):Nat):Int)):=Gc
    have kk:(aG P M).set (0+2+(3:Int)).toNat (.aa .u64 (((cd d:Nat):Int)-((cd d:Nat):Int)%2-((cd d:Nat):Int)/4%1073741824*4+(0:Int)*4))=aG P { M with ds:=Jb2 M.ds 3 (d.fin 0) }:=dV
    refine key (c':=bw c 2) (M':={ M with ds:=Jb2 M.ds 3 (d.fin 0) }) [(98,bU (i64.wrap (2*j 4)))] (by intro x hx;simp only [List.mem_cons,List.not_mem_nil,or_false] at hx;subst hx;exact .inr (.inr ⟨_,rfl⟩)) (cL.Bw (row:=aY P 80 (λi=>if i=0 then ((cd d:Nat):Int) else j i) true 3 ph .look) (λD=>dh (λh=>by cases h))) (.inl rfl) rfl (bs (wA H8 P c M aA inv af 0 P.n P.k ph (cd d:Nat) (j 1) (j 2) (j 3) (j 4) 0) ?_ rfl (by rw [kk];rfl) [64,1,2,3] rfl rfl rfl)
    (repeat' apply And.intro);all_goals first | exact True.intro | omega | assumption | rfl | exact ⟨_,Cq,ir⟩
  ·have e:ax P M true u ph (.ff d)=(M,some .look):=by simp only [ax];rw [if_neg hc]
   rw [e]
   rw [decide_eq_false hc] at ir
   refine key (c':=bw c 2) (M':=M) [] (by simp) (cL.go (s:= .look) (j:=(λi=>if i=0 then ((cd d:Nat):Int) else j i)) rfl (.inl rfl)) (.inl rfl) rfl (bs (wA M8 P c M aA inv af 0 P.n P.k ph (cd d:Nat) (j 1) (j 2) (j 3) (j 4) 0 u) ?_ rfl rfl [64,1,2,3] rfl rfl rfl)
   (repeat' apply And.intro);all_goals first | exact True.intro | omega | assumption | rfl | exact ⟨_,Gc,ir⟩
 | hZ d first=>
  obtain ⟨-,hd,ho,hl⟩:=tb
  have FR:=jY hd
  have ir:=wi nv hd
  by_cases hc:M.ds u=d
  ·have e:ax P M true u ph (.hZ d first)=({ M with ds:=Jb2 M.ds u (d.lB first) },some (.eJ first)):=by simp only [ax];rw [if_pos hc]
   rw [e]
   rw [decide_eq_true hc] at ir
   have dV:(aG P M).set (0+2+(u:Int)).toNat (.aa .u64 (((cd d:Nat):Int)-((cd d:Nat):Int)/4%1073741824*4+(first:Int)*4))=aG P { M with ds:=Jb2 M.ds u (d.lB first) }:=by
    rw [f3];exact qv hu (MT hd)
   refine key (c':=bw c 2) (M':={ M with ds:=Jb2 M.ds u (d.lB first) }) [] (by simp) (cL.go (s:= .eJ first) (j:=(λi=>if i=0 then ((cd d:Nat):Int) else j i)) rfl (.inl rfl)) (.inl rfl) rfl (bs (wA M9 P c M aA inv af 0 P.n P.k ph (cd d:Nat) first (j 2) (j 3) (j 4) 0 u) ?_ rfl (by rw [dV];rfl) [64,1,2,3] rfl rfl rfl)
   (repeat' apply And.intro);all_goals first | exact True.intro | omega | assumption | rfl | exact ⟨_,Gc,ir⟩
  ·have e:ax P M true u ph (.hZ d first)=(M,some .look):=by simp only [ax];rw [if_neg hc]
   rw [e]
   rw [decide_eq_false hc] at ir
   refine key (c':=bw c 2) (M':=M) [] (by simp) (cL.go (s:= .look) (j:=(λi=>if i=0 then ((cd d:Nat):Int) else if i=1 then (first:Int) else j i)) rfl (.inl rfl)) (.inl rfl) rfl (bs (wA Na P c M aA inv af 0 P.n P.k ph (cd d:Nat) first (j 2) (j 3) (j 4) 0 u) ?_ rfl rfl [64,1,2,3] rfl rfl rfl)
   (repeat' apply And.intro);all_goals first | exact True.intro | omega | assumption | rfl | exact ⟨_,Gc,ir⟩
 | eJ first=>
  obtain ⟨-,ho,hl⟩:=tb
  obtain ⟨i1,i2⟩:=gH ho
  have hf:=lT (f:=1) ho (by omega)
  simp only [Int.natCast_one] at hf
  obtain ⟨g1,g2,g3⟩:=hf
  have hw:(aG P M)[(0+(2+(P.n:Int)+4*((first:Int)%1024-1)+1)).toNat]?=some (.aa .u64 ((st (M.tk (aO first)):Nat):Int)):=by
   rw [g3,cr (fH ho.1 ho.2 (by omega)),ek ho.1 (by omega),if_neg (by omega),if_pos rfl]
  obtain ⟨x1,x2⟩:=bi.tk (aO first)
  have V4:(0:Int)+(first:Int)/1024*1073741824=((st (bH first,0):Nat):Int):=by rw [jy];unfold st;omega
  have ir:(((st (M.tk (aO first)):Nat):Int)==(0:Int)+(first:Int)/1024*1073741824)=decide (M.tk (aO first)=(bH first,0)):=by
   rw [V4];exact qx x2 (by show 0<1073741824;omega)
  have q:u64.wrap (u64.wrap (u:Int)+1)=((u+1:Nat):Int):=by
   rw [fm (x:=(u:Int)) (by omega) (by omega),fm (by omega) (by omega)];omega
  have q1:(0:Int)<=u64.wrap (u64.wrap (u:Int)+1):=by rw [q];omega
  have q2:u64.wrap (u64.wrap (u:Int)+1)<1073741824:=by rw [q];omega
  by_cases hc:M.tk (aO first)=(bH first,0)
  ·have e:ax P M true u ph (.eJ first)=({ M with tk:=Jb2 M.tk (aO first) (bH first,u+1) },some (.sub (.hd .e) false)):=by simp only [ax];rw [if_pos hc]
   rw [e]
   rw [decide_eq_true hc] at ir
   have dV:(aG P M).set (0+(2+(P.n:Int)+4*((first:Int)%1024-1)+1)).toNat (.aa .u64 (u64.wrap (u64.wrap (u:Int)+1)+(first:Int)/1024*1073741824))=aG P { M with tk:=Jb2 M.tk (aO first) (bH first,u+1) }:=by
    rw [g3];exact qw ho.1 ho.2 (by rw [q,jy];unfold st;omega)
   have Wk:u=0∨u=1∨u=2∨u=3:=by omega
   rcases Wk with rfl | rfl | rfl | rfl
   ·have Zx:(0:Int)<=u64.wrap (u64.wrap (0:Int)+1):=q1
    have YW:u64.wrap (u64.wrap (0:Int)+1)<1073741824:=q2
    have kk:(aG P M).set (0+(2+(P.n:Int)+4*((first:Int)%1024-1)+1)).toNat (.aa .u64 (u64.wrap (u64.wrap (0:Int)+1)+(first:Int)/1024*1073741824))=aG P { M with tk:=Jb2 M.tk (aO first) (bH first,0+1) }:=dV
    refine key (c':=bw c 2) (M':={ M with tk:=Jb2 M.tk (aO first) (bH first,0+1) }) [(98,bU (i64.wrap (2*aA))),(100,gf P)] (mw (.inr rfl)) (cL.Rg (j:=(λi=>if i=1 then (first:Int) else j i)) (j':=λ_=>0)) (.inl rfl) rfl (bs (wA H9 P c M aA inv af 0 P.n P.k ph (j 0) first (j 2) (j 3) (j 4) 0) ?_ rfl (by rw [kk];rfl) [64,1,2,3] rfl rfl rfl)
    (repeat' apply And.intro);all_goals first | exact True.intro | omega | assumption | rfl | exact ⟨_,hw,ir⟩
   ·have Zx:(0:Int)<=u64.wrap (u64.wrap (1:Int)+1):=q1
    have YW:u64.wrap (u64.wrap (1:Int)+1)<1073741824:=q2
    have kk:(aG P M).set (0+(2+(P.n:Int)+4*((first:Int)%1024-1)+1)).toNat (.aa .u64 (u64.wrap (u64.wrap (1:Int)+1)+(first:Int)/1024*1073741824))=aG P { M with tk:=Jb2 M.tk (aO first) (bH first,1+1) }:=dV
    refine key (c':=bw c 2) (M':={ M with tk:=Jb2 M.tk (aO first) (bH first,1+1) }) [(98,bU (i64.wrap (2*aA))),(100,gf P)] (mw (.inr rfl)) (cL.Rg (j:=(λi=>if i=1 then (first:Int) else j i)) (j':=λ_=>0)) (.inl rfl) rfl (bs (wA Ia P c M aA inv af 0 P.n P.k ph (j 0) first (j 2) (j 3) (j 4) 0) ?_ rfl (by rw [kk];rfl) [64,1,2,3] rfl rfl rfl)
    (repeat' apply And.intro);all_goals first | exact True.intro | omega | assumption | rfl | exact ⟨_,hw,ir⟩
   ·have Zx:(0:Int)<=u64.wrap (u64.wrap (2:Int)+1):=q1
    have YW:u64.wrap (u64.wrap (2:Int)+1)<1073741824:=q2
    have kk:(aG P M).set (0+(2+(P.n:Int)+4*((first:Int)%1024-1)+1)).toNat (.aa .u64 (u64.wrap (u64.wrap (2:Int)+1)+(first:Int)/1024*1073741824))=aG P { M with tk:=Jb2 M.tk (aO first) (bH first,2+1) }:=dV
    refine key (c':=bw c 2) (M':={ M with tk:=Jb2 M.tk (aO first) (bH first,2+1) }) [(98,bU (i64.wrap (2*aA))),(100,gf P)] (mw (.inr rfl)) (cL.Rg (j:=(λi=>if i=1 then (first:Int) else j i)) (j':=λ_=>0)) (.inl rfl) rfl (bs (wA Ib P c M aA inv af 0 P.n P.k ph (j 0) first (j 2) (j 3) (j 4) 0) ?_ rfl (by rw [kk];rfl) [64,1,2,3] rfl rfl rfl)
    (repeat' apply And.intro);all_goals first | exact True.intro | omega | assumption | rfl | exact ⟨_,hw,ir⟩
   ·have Zx:(0:Int)<=u64.wrap (u64.wrap (3:Int)+1):=q1
    have YW:u64.wrap (u64.wrap (3:Int)+1)<1073741824:=q2
    have kk:(aG P M).set (0+(2+(P.n:Int)+4*((first:Int)%1024-1)+1)).toNat (.aa .u64 (u64.wrap (u64.wrap (3:Int)+1)+(first:Int)/1024*1073741824))=aG P { M with tk:=Jb2 M.tk (aO first) (bH first,3+1) }:=dV
    refine key (c':=bw c 2) (M':={ M with tk:=Jb2 M.tk (aO first) (bH first,3+1) }) [(98,bU (i64.wrap (2*aA))),(100,gf P)] (mw (.inr rfl)) (cL.Rg (j:=(λi=>if i=1 then (first:Int) else j i)) (j':=λ_=>0)) (.inl rfl) rfl (bs (wA Ic P c M aA inv af 0 P.n P.k ph (j 0) first (j 2) (j 3) (j 4) 0) ?_ rfl (by rw [kk];rfl) [64,1,2,3] rfl rfl rfl)
    (repeat' apply And.intro);all_goals first | exact True.intro | omega | assumption | rfl | exact ⟨_,hw,ir⟩
  ·have e:ax P M true u ph (.eJ first)=(M,some (.sub (.hd .e) false)):=by simp only [ax];rw [if_neg hc]
   rw [e]
   rw [decide_eq_false hc] at ir
   refine key (c':=bw c 2) (M':=M) [(97,gf P)] (by simp) (cL.hd (j:=(λi=>if i=1 then (first:Int) else j i)) (j':=λ_=>0)) (.inl rfl) rfl (bs (wA Nb P c M aA inv af 0 P.n P.k ph (j 0) first (j 2) (j 3) (j 4) 0 u) ?_ rfl rfl [64,1,2,3] rfl rfl rfl)
   (repeat' apply And.intro);all_goals first | exact True.intro | omega | assumption | rfl | exact ⟨_,hw,ir⟩
 | _=>exact absurd (by first | exact tb.1 | exact tb) (show ¬ (true=false) by decide)
section
variable {D:Nat->Prop} {P:cv} {j c c':Nat->Int} {b u ph:Nat} {M M':Mm} {f:Fn} {row row' sub:ak} {aA:Int} {inv:Nat->AV} {take:Bool}
def bk (P:cv) (j:Nat->Int):Fn->ak
 | .tl t=>fw P j t
 | .hd t=>ep P j t
def Xl (P:cv) (M:Mm):Fn->Prop
 | .tl t=>Xh P M t
 | .hd t=>Xi P M t
def wm:Fn->Nat
 | .tl _=>271
 | .hd _=>275
theorem dY {t:Fn}:(bk P j t).aD D:=by
 cases t
 ·exact bS
 ·exact bg
def LV (P:cv) (a:Nat) (row row':ak) (aA:Int) (inv af:Nat->AV) (c c':Nat->Int) (M M':Mm) (v:Bool):Part:=
 { args:=[.ptr a 0,.ptr 1 0],ins:=[(a,row),(1,wW aA inv af),(2,mR P c),(3,Jb5 (aG P M))],v:= .bool v,outs:=[(a,row'),(2,mR P c'),(3,Jb5 (aG P M'))],nx:=96,k:=0 }
theorem vb (hP:PB P) (hb:b<524288) (bi:BI P b M) (tb:Xl P M f) (j:Nat->Int) (aA:Int) (inv af:Nat->AV) (c:Nat->Int):
  ∃ c' row',bP prog (wm f) (LV P 64 (bk P j f) row' aA inv af c c' M (bu P M f).1 (bu P M f).2.isNone)∧(∀ D:Nat->Prop,row'.aD D)∧ ∀ f',(bu P M f).2=some f'->wm f'=wm f∧ ∃ j',row'=bk P j' f':=by
 cases f with
 | tl t=>
  obtain ⟨c',row',hp,ha,hn⟩:=MU hP hb bi (t:=t) tb j aA (cP inv++cP af++[.ed 10]) c
  refine ⟨c',row',?_,ha,λf' h=> ?_⟩
  ·have e:(bu P M (.tl t)).2.isNone=(aU P M t).2.isNone:=by show ((aU P M t).2.map Fn.tl).isNone=_;cases (aU P M t).2<;>rfl
   rw [e]
   exact hp
  ·have h:(aU P M t).2.map Fn.tl=some f':=h
   cases ht:(aU P M t).2 with
   | none=>rw [ht] at h;cases h
   | some t'=>
    rw [ht] at h
    cases h
    obtain ⟨j',hj⟩:=hn t' ht
    exact ⟨rfl,j',hj⟩
 | hd t=>
  obtain ⟨c',row',hp,ha,hn⟩:=MV hP hb bi (t:=t) tb j aA (cP inv++cP af++[.ed 10]) c
  refine ⟨c',row',?_,ha,λf' h=> ?_⟩
  ·have e:(bu P M (.hd t)).2.isNone=(aS P M t).2.isNone:=by show ((aS P M t).2.map Fn.hd).isNone=_;cases (aS P M t).2<;>rfl
   rw [e]
   exact hp
  ·have h:(aS P M t).2.map Fn.hd=some f':=h
   cases ht:(aS P M t).2 with
   | none=>rw [ht] at h;cases h
   | some t'=>
    rw [ht] at h
    cases h
    obtain ⟨j',hj⟩:=hn t' ht
    exact ⟨rfl,j',hj⟩
def iR (i:Nat):Nat:=if i=64 then 80 else i
theorem sY {i:Nat} (h:i≠64):iR i=i:=if_neg h
theorem Rh {af:Nat->AV} {v:Bool} (h1: ∀ D:Nat->Prop,row.aD D) (h2: ∀ D:Nat->Prop,row'.aD D) (hW:(wW aA inv af).aD (· ≠64)):
  (LV P 64 row row' aA inv af c c' M M' v).XV iR=LV P 80 row row' aA inv af c c' M M' v:=by
 have e1:dm iR row=row:=fS (h1 _)
 have e2:dm iR row'=row':=fS (h2 _)
 have e3:dm iR (wW aA inv af)=wW aA inv af:=fS (hW.mono λi hi=>sY hi)
 have e4: ∀ c,dm iR (mR P c)=mR P c:=λc=>fS (dK (sY (by omega)))
 have e5: ∀ M,dm iR (Jb5 (aG P M))=Jb5 (aG P M):=λM=>fS gT
 show Part.mk _ [(80,dm iR row),(1,dm iR (wW aA inv af)),(2,dm iR (mR P c)),(3,dm iR (Jb5 (aG P M)))] _ [(80,dm iR row'),(2,dm iR (mR P c')),(3,dm iR (Jb5 (aG P M')))] _ _ _=_
 rw [e1,e2,e3,e4,e4,e5,e5]
 rfl
theorem ET (hP:PB P) (hb:b<524288) (bi:BI P b M) (tb:Xl P M f) (j:Nat->Int) (aA:Int) (inv af:Nat->AV) (c:Nat->Int) (hW:(wW aA inv af).aD (· ≠64)):
  ∃ c' row',bP prog (wm f) (LV P 80 (bk P j f) row' aA inv af c c' M (bu P M f).1 (bu P M f).2.isNone)∧(∀ D:Nat->Prop,row'.aD D)∧ ∀ f',(bu P M f).2=some f'->wm f'=wm f∧ ∃ j',row'=bk P j' f':=by
 obtain ⟨c',row',hp,ha,hn⟩:=vb hP hb bi tb j aA inv af c
 refine ⟨c',row',?_,ha,hn⟩
 rw [<- Rh (λD=>dY) ha hW]
 refine Ie hp (λc=> ?_) ?_ (λc hc=> ?_) (λc hc=> ?_) ?_
 ·unfold iR;split<;>omega
 ·intro x hx y hy h
  simp only [LV,List.mem_cons,List.not_mem_nil,or_false] at hx hy
  rcases hx with rfl | rfl | rfl | rfl<;>rcases hy with rfl | rfl | rfl | rfl<;>first | rfl | (exfalso;revert h;simp [iR])
 ·have hc:96<=c:=hc
  exact sY (by omega)
 ·have hc:c<96:=hc
  show iR c<96
  unfold iR;split<;>omega
 ·intro x hx
  simp only [LV,List.mem_cons,List.not_mem_nil,or_false] at hx
  rcases hx with rfl | rfl | rfl<;>(simp only [LV];omega)
def AK (P:cv) (row row' sub eZ:ak) (aA:Int) (inv af:Nat->AV) (c c':Nat->Int) (M M':Mm) (v:Bool):Part:=
 { args:=[.ptr 64 0,.ptr 1 0],ins:=[(64,row),(80,sub),(1,wW aA inv af),(2,mR P c),(3,Jb5 (aG P M))],v:= .bool v,outs:=[(64,row'),(80,eZ),(1,wW aA inv af),(2,mR P c'),(3,Jb5 (aG P M'))],nx:=96,k:=0 }
def Nj (take:Bool):Nat:=cond take 279 286
inductive jz (P:cv) (take:Bool) (u ph:Nat):Option Hs->ak->ak->Prop
 | fin {row sub:ak} (h: ∀ D:Nat->Prop,row.aD D) (h': ∀ D:Nat->Prop,sub.aD D) (ht:take=false:=by rfl):jz P take u ph none row sub
 | look {j:Nat->Int} {sub:ak}:(∀ D:Nat->Prop,sub.aD D)->jz P take u ph (some .look) (aY P 80 j take u ph .look) sub
 | go {j j':Nat->Int} {f:Fn} {bM:Bool}:jz P take u ph (some (.sub f bM)) (aY P 80 j take u ph (.sub f bM)) (bk P j' f)
theorem jz.ids {o:Option Hs} (h:jz P take u ph o row sub):(∀ D:Nat->Prop,D 80->row.aD D)∧ ∀ D:Nat->Prop,sub.aD D:=by
 cases h with
 | fin h1 h2 _=>exact ⟨λD _=>h1 D,h2⟩
 | look h=>exact ⟨λD _=>dh (λh=>by cases h),h⟩
 | go=>exact ⟨λD hD=>dh (λ_=>hD),λD=>dY⟩
theorem Ri {eZ:ak} {af:Nat->AV} {v:Bool} (h: ∀ D:Nat->Prop,row.aD D->D 80) (h1: ∀ D:Nat->Prop,D 80->row'.aD D) (h2: ∀ D:Nat->Prop,eZ.aD D):
  ∀ D:Nat->Prop,aR D (AK P row row' sub eZ aA inv af c c' M M' v).args->(∀ x∈(AK P row row' sub eZ aA inv af c c' M M' v).ins,x.2.aD D)->(∀ i,(AK P row row' sub eZ aA inv af c c' M M' v).nx<=i->i<(AK P row row' sub eZ aA inv af c c' M M' v).nx+(AK P row row' sub eZ aA inv af c c' M M' v).k->D i)->
   (AK P row row' sub eZ aA inv af c c' M M' v).v.aD D∧ ∀ x∈(AK P row row' sub eZ aA inv af c c' M M' v).outs,x.2.aD D:=by
 intro D _ hi _
 have q0:=hi (64,row) (by simp [AK])
 have q1:=hi (1,wW aA inv af) (by simp [AK])
 have q2:=hi (2,mR P c) (by simp [AK])
 simp only [mR,bQ,ak.aD,aR,AV.aD] at q2
 refine ⟨trivial,λx hx=> ?_⟩
 simp only [AK,List.mem_cons,List.not_mem_nil,or_false] at hx
 rcases hx with rfl | rfl | rfl | rfl | rfl
 ·exact h1 D (h D q0)
 ·exact h2 D
 ·exact q1
 ·exact dK q2.1
 ·exact gT
theorem vc {bM:Bool} (h:(aY P 80 j take u ph (.sub f bM)).aD D):D 80:=by
 cases f<;>(simp only [aY,rY,ak.aD,aR,AV.aD,and_true,true_and] at h;exact h)
theorem C7 (hP:PB P) (hb:b<524288) (bi:BI P b M) {bM:Bool} (tb:Uj P M take (.sub f bM)) (j j2:Nat->Int) (aA:Int) (inv af:Nat->AV) (c:Nat->Int) (hW:(wW aA inv af).aD (· ≠64)):
  ∃ c' row' eZ,bP prog (Nj take) (AK P (aY P 80 j take u ph (.sub f bM)) row' (bk P j2 f) eZ aA inv af c c' M (ax P M take u ph (.sub f bM)).1 (ax P M take u ph (.sub f bM)).2.isNone)∧jz P take u ph (ax P M take u ph (.sub f bM)).2 row' eZ:=by
 have fb:Xl P M f:=by cases f<;>exact tb.1
 obtain ⟨c',eZ,hp,ha,hn⟩:=ET hP hb bi fb j2 aA inv af c hW
 have lW: ∃ fn,prog.funcs[Nj take]?=some fn∧fn.body.isSome=true:=by
  cases take
  ·exact ⟨_,Tryz.func286,by kernel_rfl⟩
  ·exact ⟨_,Tryz.func279,by kernel_rfl⟩
 have ij:eu prog (dw [(wm f,LV P 80 (bk P j2 f) eZ aA inv af c c' M (bu P M f).1 (bu P M f).2.isNone)] bz):=gu dx (λx hx=>by
  simp only [List.mem_cons,List.not_mem_nil,or_false] at hx
  subst hx;exact hp)
 have key: ∀ {o:Option Hs} {row':ak} {M':Mm} {v:Bool},jz P take u ph o row' eZ->v=o.isNone->
   rh prog (dw [(wm f,LV P 80 (bk P j2 f) eZ aA inv af c c' M (bu P M f).1 (bu P M f).2.isNone)] bz) (Nj take) (AK P (aY P 80 j take u ph (.sub f bM)) row' (bk P j2 f) eZ aA inv af c c' M M' v)->
   ∃ c' row' eZ,bP prog (Nj take) (AK P (aY P 80 j take u ph (.sub f bM)) row' (bk P j2 f) eZ aA inv af c c' M M' o.isNone)∧jz P take u ph o row' eZ:=by
  intro o row' M' v ho hv hw
  subst hv
  exact ⟨c',row',eZ,cK named mixed ij lW (λ_=>hw) (λ_=>Ri (λD=>vc) ho.ids.1 ho.ids.2),ho⟩
 cases hf:(bu P M f).2 with
 | some f'=>
  obtain ⟨h1,j',rfl⟩:=hn f' hf
  have e:ax P M take u ph (.sub f bM)=((bu P M f).1,some (.sub f' bM)):=by
   simp only [ax]
   rw [show bu P M f=((bu P M f).1,(bu P M f).2) from rfl,hf]
  rw [e]
  rw [hf] at key
  cases f with
  | tl t=>
   cases f' with
   | hd t'=>exact absurd h1 (show ¬ (275:Nat)=271 by decide)
   | tl t'=>
    cases take with
    | false=>
     cases bM with
     | false=>exact key (jz.go (j:=j) (j':=j')) rfl (bs (wA M0 P c M aA inv af 0 P.n P.k ph (j 0) (j 1) (j 2) (j 3) (j 4) 0 u (bk P j2 (.tl t)) _ (c' 0) (c' 1) (c' 2) (c' 3) (c' 4) (aG P (bu P M (.tl t)).1)) ⟨trivial,rfl,⟨rfl,rfl,rfl,rfl,trivial⟩,trivial⟩ rfl rfl [64,80,1,2,3] rfl rfl rfl)
     | true=>exact key (jz.go (j:=j) (j':=j')) rfl (bs (wA H0 P c M aA inv af 0 P.n P.k ph (j 0) (j 1) (j 2) (j 3) (j 4) 0 u (bk P j2 (.tl t)) _ (c' 0) (c' 1) (c' 2) (c' 3) (c' 4) (aG P (bu P M (.tl t)).1)) ⟨trivial,rfl,⟨rfl,rfl,rfl,rfl,trivial⟩,trivial⟩ rfl rfl [64,80,1,2,3] rfl rfl rfl)
    | true=>
     cases bM with
     | false=>exact key (jz.go (j:=j) (j':=j')) rfl (bs (wA Nc P c M aA inv af 0 P.n P.k ph (j 0) (j 1) (j 2) (j 3) (j 4) 0 u (bk P j2 (.tl t)) _ (c' 0) (c' 1) (c' 2) (c' 3) (c' 4) (aG P (bu P M (.tl t)).1)) ⟨trivial,rfl,⟨rfl,rfl,rfl,rfl,trivial⟩,trivial⟩ rfl rfl [64,80,1,2,3] rfl rfl rfl)
     | true=>exact absurd (tb.2 rfl) (by decide)
  | hd t=>
   cases f' with
   | tl t'=>exact absurd h1 (show ¬ (271:Nat)=275 by decide)
   | hd t'=>
    obtain ⟨_,ZP,fx⟩:=tb
    subst ZP fx
    exact key (jz.go (j:=j) (j':=j')) rfl (bs (wA Nf P c M aA inv af 0 P.n P.k ph (j 0) (j 1) (j 2) (j 3) (j 4) 0 u (bk P j2 (.hd t)) _ (c' 0) (c' 1) (c' 2) (c' 3) (c' 4) (aG P (bu P M (.hd t)).1)) ⟨trivial,rfl,⟨rfl,rfl,rfl,rfl,trivial⟩,trivial⟩ rfl rfl [64,80,1,2,3] rfl rfl rfl)
 | none=>
  rw [hf] at key
  have e:ax P M take u ph (.sub f bM)=((bu P M f).1,if bM then none else some .look):=by
   simp only [ax]
   rw [show bu P M f=((bu P M f).1,(bu P M f).2) from rfl,hf]
  rw [e]
  cases f with
  | tl t=>
   cases take with
   | false=>
    cases bM with
    | false=>exact key (jz.look (j:=j) ha) rfl (bs (wA M1 P c M aA inv af 0 P.n P.k ph (j 0) (j 1) (j 2) (j 3) (j 4) 0 u (bk P j2 (.tl t)) _ (c' 0) (c' 1) (c' 2) (c' 3) (c' 4) (aG P (bu P M (.tl t)).1)) ⟨trivial,rfl,⟨rfl,rfl,rfl,rfl,trivial⟩,trivial⟩ rfl rfl [64,80,1,2,3] rfl rfl rfl)
    | true=>exact key (jz.fin (row:=rY P false u 0 ph (j 0) (j 1) (j 2) (j 3) (j 4) .aX true) (λD=>by simp [rY,ak.aD,aR,AV.aD]) ha) rfl (bs (wA Ja5 P c M aA inv af 0 P.n P.k ph (j 0) (j 1) (j 2) (j 3) (j 4) 0 u (bk P j2 (.tl t)) _ (c' 0) (c' 1) (c' 2) (c' 3) (c' 4) (aG P (bu P M (.tl t)).1)) ⟨trivial,rfl,⟨rfl,rfl,rfl,rfl,trivial⟩,trivial⟩ rfl rfl [64,80,1,2,3] rfl rfl rfl)
   | true=>
    cases bM with
    | false=>exact key (jz.look (j:=j) ha) rfl (bs (wA Nd P c M aA inv af 0 P.n P.k ph (j 0) (j 1) (j 2) (j 3) (j 4) 0 u (bk P j2 (.tl t)) _ (c' 0) (c' 1) (c' 2) (c' 3) (c' 4) (aG P (bu P M (.tl t)).1)) ⟨trivial,rfl,⟨rfl,rfl,rfl,rfl,trivial⟩,trivial⟩ rfl rfl [64,80,1,2,3] rfl rfl rfl)
    | true=>exact absurd (tb.2 rfl) (by decide)
  | hd t=>
   obtain ⟨_,ZP,fx⟩:=tb
   subst ZP fx
   exact key (jz.look (j:=j) ha) rfl (bs (wA Ng P c M aA inv af 0 P.n P.k ph (j 0) (j 1) (j 2) (j 3) (j 4) 0 u (bk P j2 (.hd t)) _ (c' 0) (c' 1) (c' 2) (c' 3) (c' 4) (aG P (bu P M (.hd t)).1)) ⟨trivial,rfl,⟨rfl,rfl,rfl,rfl,trivial⟩,trivial⟩ rfl rfl [64,80,1,2,3] rfl rfl rfl)
end
end Qk
end Go.Proofs.YtpkfimijnkkbjaaGreat
