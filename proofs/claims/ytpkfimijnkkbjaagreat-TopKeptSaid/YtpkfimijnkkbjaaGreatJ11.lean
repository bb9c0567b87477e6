/- AtHead.Step: what it makes of the words. -/
import Derived.Test.YtpkfimijnkkbjaaGreatJ10
set_option linter.unusedVariables false
namespace Go.Proofs.YtpkfimijnkkbjaaGreat
namespace Qk
open Ev
open Go.IntKind (i64 u64)
open Go.Proofs.Tryz (prog)
theorem bg {D:Nat->Prop} {P:cv} {j:Nat->Int} {t:Hd}:(ep P j t).aD D:=by
 cases t<;>simp [ep,fg,ak.aD,aR,AV.aD]
def Xi (P:cv) (M:Mm):Hd->Prop
 | .e=>P.okp M.head
 | .n first=>P.okp first∧first<1073741824
 | .t first x=>P.okp first∧first<1073741824∧x<1073741824
 | .d first x u=>u<P.n∧first<1073741824∧x<1073741824
 | .v first x u d=>P.okp x∧first<1073741824∧x<1073741824∧BD d
 | .f first x u d y=>u<P.n∧first<1073741824∧x<1073741824∧BD d∧y<16777216
 | .s first x=>first<1073741824∧x<1073741824
 | .m first=>P.okp first∧first<1073741824
theorem own_okp' {P:cv} {r u:Nat} (h:P.own r=some u):P.okp r:=(CZ h).1
theorem nH {x:Int} (h: -9223372036854775808<=x) (h':x<9223372036854775808):i64.wrap x=x:=by
 rw [IntKind.wrap_i64];omega
theorem fm {x:Int} (h:0<=x) (h':x<18446744073709551616):u64.wrap x=x:=by
 rw [IntKind.wrap_u64];omega
theorem MV {P:cv} {b:Nat} {M:Mm} (hP:PB P) (hb:b<524288) (bi:BI P b M) {t:Hd} (tb:Xi P M t) (j:Nat->Int) (aA:Int) (rest:List AV) (c:Nat->Int):
  ∃ c' row',bP prog 275 (jZ P (ep P j t) row' aA rest c c' M (aS P M t).1 (aS P M t).2.isNone)∧(∀ D:Nat->Prop,row'.aD D)∧ ∀ t',(aS P M t).2=some t'-> ∃ j',row'=ep P j' t':=by
 obtain ⟨n1,n2⟩:=hP.n
 obtain ⟨k1,k2⟩:=hP.k
 have lW: ∃ fn,prog.funcs[275]?=some fn∧fn.body.isSome=true:=⟨_,Tryz.func275,by kernel_rfl⟩
 have nB:1<sz P:=by unfold sz;omega
 have TT:(0:Int)<(sz P:Int):=by omega
 have key: ∀ {row':ak} {c':Nat->Int} {M':Mm} {v:Bool},(∀ D:Nat->Prop,row'.aD D)->rh prog bz 275 (jZ P (ep P j t) row' aA rest c c' M M' v)->bP prog 275 (jZ P (ep P j t) row' aA rest c c' M M' v):=
  λhr hw=>cK named mixed dx lW (λ_=>hw) (λ_=>y4 hr)
 have hwh:(aG P M)[(0:Int).toNat]?=some (.aa .u64 (M.head:Int)):=by
  have:=cr (P:=P) (M:=M) (a:=0) (by omega)
  rw [rX] at this;exact this
 cases t with
 | e=>
  have ho:P.okp M.head:=tb
  have e:aS P M .e=(M,some (.n M.head)):=by simp only [aS,if_pos ho]
  rw [e]
  have ht:=bi.head
  obtain ⟨i1,i2⟩:=gH ho
  refine ⟨bw c 0,ep P j (.n M.head),key (λD=>bg) (bs (wA MN P c M aA rest 0 P.n P.k (j 2) (j 3) M.head (j 0) (j 1) (j 4)) ?_ rfl rfl [64,1,2,3] rfl rfl rfl),λD=>bg,λt' h=>by cases h;exact ⟨_,rfl⟩⟩
  (repeat' apply And.intro);all_goals first | assumption | exact True.intro | omega | rfl
 | n first=>
  obtain ⟨ho,hl⟩:=tb
  obtain ⟨i1,i2⟩:=gH ho
  have hf:=lT (f:=0) ho (by omega)
  simp only [Int.natCast_zero] at hf
  obtain ⟨f1,f2,f3⟩:=hf
  have hw:(aG P M)[(0+(2+(P.n:Int)+4*((first:Int)%1024-1)+0)).toNat]?=some (.aa .u64 ((st (M.nx (aO first)):Nat):Int)):=by
   rw [f3,cr (fH ho.1 ho.2 (by omega)),ek ho.1 (by omega),if_pos rfl]
  obtain ⟨x1,x2⟩:=bi.nx (aO first)
  have hU:=sV x2 x1
  obtain ⟨s1,s2⟩:=Bs x2
  have eqv:(((st (M.nx (aO first)):Nat):Int)/1073741824==(first:Int)/1024)=decide ((M.nx (aO first)).1=bH first):=by rw [s1,jy,gx]
  by_cases h0:(M.nx (aO first)).2=0
  ·have e:aS P M (.n first)=(M,none):=by simp only [aS];rw [if_neg (λh=>h.2.1 h0)]
   rw [e]
   have z1:((st (M.nx (aO first)):Nat):Int)%1073741824=0:=by rw [s2,h0];rfl
   by_cases hv:(M.nx (aO first)).1=bH first
   ·have c1:(!((st (M.nx (aO first)):Nat):Int)/1073741824==(first:Int)/1024)=false:=by rw [eqv,decide_eq_true hv];rfl
    have c2:aq .eql (((st (M.nx (aO first)):Nat):Int)%1073741824) 0=true:=by rw [z1];rfl
    refine ⟨bw c 0,ep P j (.t first 0),key (λD=>bg) (bs (wA Ho P c M aA rest 0 P.n P.k (j 2) (j 3) (st (M.nx (aO first)):Nat) (j 0) first (j 4)) ?_ rfl (by rw [z1];rfl) [64,1,2,3] rfl rfl rfl),λD=>bg,λt' h=>by cases h⟩
    (repeat' apply And.intro);all_goals first | assumption | exact True.intro | omega | rfl
   ·have c1:(!((st (M.nx (aO first)):Nat):Int)/1073741824==(first:Int)/1024)=true:=by rw [eqv,decide_eq_false hv];rfl
    refine ⟨bw c 0,ep P j (.t first 0),key (λD=>bg) (bs (wA EO P c M aA rest 0 P.n P.k (j 2) (j 3) (st (M.nx (aO first)):Nat) (j 0) first (j 4)) ?_ rfl (by rw [z1];rfl) [64,1,2,3] rfl rfl rfl),λD=>bg,λt' h=>by cases h⟩
    (repeat' apply And.intro);all_goals first | assumption | exact True.intro | omega | rfl
  ·obtain ⟨u,hu⟩:=(bi.own (aO first)).resolve_left h0
   have hox:=own_okp' hu
   obtain ⟨o1,o2⟩:=gH hox
   rw [<- s2] at o1 o2
   have fI: ∀ pc:Int,(ak.row false [.aa .i64 0,.aa .i64 (P.n:Nat),.aa .i64 (P.k:Nat),.int .i64 pc,.aa .i64 (j 0),.aa .u64 (first:Nat),.aa .u64 (((st (M.nx (aO first)):Nat):Int)%1073741824),.aa .u64 (j 3),.aa .u64 (j 4)] 342 none)= .row false [.aa .i64 0,.aa .i64 (P.n:Nat),.aa .i64 (P.k:Nat),.int .i64 pc,.aa .i64 (j 0),.aa .u64 (first:Nat),.aa .u64 ((M.nx (aO first)).2:Nat),.aa .u64 (j 3),.aa .u64 (j 4)] 342 none:=λpc=>by rw [s2]
   by_cases hv:(M.nx (aO first)).1=bH first
   ·have e:aS P M (.n first)=(M,some (.t first (M.nx (aO first)).2)):=by simp only [aS];rw [if_pos ⟨hv,h0,hox⟩]
    rw [e]
    have c1:(!((st (M.nx (aO first)):Nat):Int)/1073741824==(first:Int)/1024)=false:=by rw [eqv,decide_eq_true hv];rfl
    have c2:aq .eql (((st (M.nx (aO first)):Nat):Int)%1073741824) 0=false:=by rw [s2];exact decide_eq_false (by omega)
    refine ⟨bw c 0,ep P j (.t first (M.nx (aO first)).2),key (λD=>bg) (bs (wA MO P c M aA rest 0 P.n P.k (j 2) (j 3) (st (M.nx (aO first)):Nat) (j 0) first (j 4)) ?_ rfl (by unfold zc;rw [fI];rfl) [64,1,2,3] rfl rfl rfl),λD=>bg,λt' h=>by cases h;exact ⟨_,rfl⟩⟩
    (repeat' apply And.intro);all_goals first | assumption | exact True.intro | omega | rfl
   ·have e:aS P M (.n first)=(M,none):=by simp only [aS];rw [if_neg (λh=>hv h.1)]
    rw [e]
    have c1:(!((st (M.nx (aO first)):Nat):Int)/1073741824==(first:Int)/1024)=true:=by rw [eqv,decide_eq_false hv];rfl
    refine ⟨bw c 0,ep P j (.t first (M.nx (aO first)).2),key (λD=>bg) (bs (wA Hq P c M aA rest 0 P.n P.k (j 2) (j 3) (st (M.nx (aO first)):Nat) (j 0) first (j 4)) ?_ rfl (by unfold zc;rw [fI];rfl) [64,1,2,3] rfl rfl rfl),λD=>bg,λt' h=>by cases h⟩
    (repeat' apply And.intro);all_goals first | assumption | exact True.intro | omega | rfl
 | t first x=>
  obtain ⟨ho,hl,hx⟩:=tb
  obtain ⟨i1,i2⟩:=gH ho
  have hf:=lT (f:=1) ho (by omega)
  simp only [Int.natCast_one] at hf
  obtain ⟨f1,f2,f3⟩:=hf
  have hw:(aG P M)[(0+(2+(P.n:Int)+4*((first:Int)%1024-1)+1)).toNat]?=some (.aa .u64 ((st (M.tk (aO first)):Nat):Int)):=by
   rw [f3,cr (fH ho.1 ho.2 (by omega)),ek ho.1 (by omega),if_neg (by omega),if_pos rfl]
  obtain ⟨x1,x2⟩:=bi.tk (aO first)
  have hU:=sV x2 x1
  obtain ⟨s1,s2⟩:=Bs x2
  have eqv:(((st (M.tk (aO first)):Nat):Int)/1073741824==(first:Int)/1024)=decide ((M.tk (aO first)).1=bH first):=by rw [s1,jy,gx]
  by_cases hv:(M.tk (aO first)).1=bH first
  ·have c1:(!((st (M.tk (aO first)):Nat):Int)/1073741824==(first:Int)/1024)=false:=by rw [eqv,decide_eq_true hv];rfl
   by_cases h0:(M.tk (aO first)).2=0
   ·have e:aS P M (.t first x)=(M,none):=by simp only [aS];rw [if_neg (λh=>h.2 h0)]
    rw [e]
    have c2:aq .eql (((st (M.tk (aO first)):Nat):Int)%1073741824) 0=true:=by rw [s2,h0];rfl
    refine ⟨bw c 0,ep P j (.t first x),key (λD=>bg) (bs (wA Ht P c M aA rest 0 P.n P.k x (j 3) (st (M.tk (aO first)):Nat) (j 0) first (j 4)) ?_ rfl rfl [64,1,2,3] rfl rfl rfl),λD=>bg,λt' h=>by cases h⟩
    (repeat' apply And.intro);all_goals first | assumption | exact True.intro | omega | rfl
   ·have c2:aq .eql (((st (M.tk (aO first)):Nat):Int)%1073741824) 0=false:=by rw [s2];exact decide_eq_false (by omega)
    have hwn:u64.wrap (P.n:Int)=P.n:=fm (by omega) (by omega)
    by_cases hz:(M.tk (aO first)).2<=P.n
    ·have e:aS P M (.t first x)=(M,some (.d first x ((M.tk (aO first)).2-1))):=by simp only [aS];rw [if_pos ⟨hv,h0⟩,if_pos hz]
     rw [e]
     have c3:aq .leq (((st (M.tk (aO first)):Nat):Int)%1073741824) (u64.wrap (P.n:Int))=true:=by rw [hwn,s2];exact decide_eq_true (by omega)
     have Qm:i64.wrap (i64.wrap (((st (M.tk (aO first)):Nat):Int)%1073741824)-1)=(((M.tk (aO first)).2-1:Nat):Int):=by
      rw [s2,nH (x:=(((M.tk (aO first)).2:Nat):Int)) (by omega) (by omega),nH (by omega) (by omega)];omega
     refine ⟨bw c 0,ep P j (.d first x ((M.tk (aO first)).2-1)),key (λD=>bg) (bs (wA Hu P c M aA rest 0 P.n P.k x (j 3) (st (M.tk (aO first)):Nat) (j 0) first (j 4)) ?_ rfl (by rw [Qm];rfl) [64,1,2,3] rfl rfl rfl),λD=>bg,λt' h=>by cases h;exact ⟨_,rfl⟩⟩
     (repeat' apply And.intro);all_goals first | assumption | exact True.intro | omega | rfl
    ·have e:aS P M (.t first x)=(M,some (.s first x)):=by simp only [aS];rw [if_pos ⟨hv,h0⟩,if_neg hz]
     rw [e]
     have c3:aq .leq (((st (M.tk (aO first)):Nat):Int)%1073741824) (u64.wrap (P.n:Int))=false:=by rw [hwn,s2];exact decide_eq_false (by omega)
     refine ⟨bw c 0,ep P j (.s first x),key (λD=>bg) (bs (wA Hv P c M aA rest 0 P.n P.k x (j 3) (st (M.tk (aO first)):Nat) (j 0) first (j 4)) ?_ rfl rfl [64,1,2,3] rfl rfl rfl),λD=>bg,λt' h=>by cases h;exact ⟨_,rfl⟩⟩
     (repeat' apply And.intro);all_goals first | assumption | exact True.intro | omega | rfl
  ·have c1:(!((st (M.tk (aO first)):Nat):Int)/1073741824==(first:Int)/1024)=true:=by rw [eqv,decide_eq_false hv];rfl
   have e:aS P M (.t first x)=(M,none):=by simp only [aS];rw [if_neg (λh=>hv h.1)]
   rw [e]
   refine ⟨bw c 0,ep P j (.t first x),key (λD=>bg) (bs (wA Hr P c M aA rest 0 P.n P.k x (j 3) (st (M.tk (aO first)):Nat) (j 0) first (j 4)) ?_ rfl rfl [64,1,2,3] rfl rfl rfl),λD=>bg,λt' h=>by cases h⟩
   (repeat' apply And.intro);all_goals first | assumption | exact True.intro | omega | rfl
 | d first x u=>
  obtain ⟨hu,hl,hx⟩:=tb
  obtain ⟨f1,f2,f3⟩:=sW (P:=P) hu
  have nv:=Jc3 hb bi u
  have dA:=jY nv
  have hw:(aG P M)[(0+2+(u:Int)).toNat]?=some (.aa .u64 ((cd (M.ds u):Nat):Int)):=by
   rw [f3,cr (by unfold sz;omega),gA hu]
  obtain ⟨d1,d2,d3,d4⟩:=Jd1 nv
  by_cases hp:(M.ds u).bN=true
  ·rw [hp] at d1
   by_cases fx:(M.ds u).take=true
   ·rw [fx] at d2
    by_cases F7:(M.ds u).load=first
    ·have c2:aq .eql (((cd (M.ds u):Nat):Int)/4%1073741824) (first:Nat)=true:=by rw [d3,F7];exact decide_eq_true rfl
     have e:aS P M (.d first x u)=(M,some (.v first x u (M.ds u))):=by simp only [aS];rw [if_pos ⟨hp,fx,F7⟩]
     rw [e]
     refine ⟨bw c 0,ep P j (.v first x u (M.ds u)),key (λD=>bg) (bs (wA Hw P c M aA rest 0 P.n P.k x (j 3) (cd (M.ds u):Nat) u first (j 4)) ?_ rfl rfl [64,1,2,3] rfl rfl rfl),λD=>bg,λt' h=>by cases h;exact ⟨_,rfl⟩⟩
     (repeat' apply And.intro);all_goals first | assumption | exact True.intro | omega | rfl
    ·have c2:aq .eql (((cd (M.ds u):Nat):Int)/4%1073741824) (first:Nat)=false:=by rw [d3];exact decide_eq_false (by omega)
     have e:aS P M (.d first x u)=(M,some (.s first x)):=by simp only [aS];rw [if_neg (λh=>F7 h.2.2)]
     rw [e]
     refine ⟨bw c 0,ep P (λi=>if i=0 then (u:Int) else if i=3 then (cd (M.ds u):Nat) else j i) (.s first x),key (λD=>bg) (bs (wA Hz P c M aA rest 0 P.n P.k x (j 3) (cd (M.ds u):Nat) u first (j 4)) ?_ rfl rfl [64,1,2,3] rfl rfl rfl),λD=>bg,λt' h=>by cases h;exact ⟨_,rfl⟩⟩
     (repeat' apply And.intro);all_goals first | assumption | exact True.intro | omega | rfl
   ·replace fx:(M.ds u).take=false:=by simpa using fx
    rw [fx] at d2
    have e:aS P M (.d first x u)=(M,some (.s first x)):=by simp only [aS];rw [if_neg (λh=>by rw [fx] at h;cases h.2.1)]
    rw [e]
    refine ⟨bw c 0,ep P (λi=>if i=0 then (u:Int) else if i=3 then (cd (M.ds u):Nat) else j i) (.s first x),key (λD=>bg) (bs (wA Hy P c M aA rest 0 P.n P.k x (j 3) (cd (M.ds u):Nat) u first (j 4)) ?_ rfl rfl [64,1,2,3] rfl rfl rfl),λD=>bg,λt' h=>by cases h;exact ⟨_,rfl⟩⟩
    (repeat' apply And.intro);all_goals first | assumption | exact True.intro | omega | rfl
  ·replace hp:(M.ds u).bN=false:=by simpa using hp
   rw [hp] at d1
   have e:aS P M (.d first x u)=(M,some (.s first x)):=by simp only [aS];rw [if_neg (λh=>by rw [hp] at h;cases h.1)]
   rw [e]
   refine ⟨bw c 0,ep P (λi=>if i=0 then (u:Int) else if i=3 then (cd (M.ds u):Nat) else j i) (.s first x),key (λD=>bg) (bs (wA Hx P c M aA rest 0 P.n P.k x (j 3) (cd (M.ds u):Nat) u first (j 4)) ?_ rfl rfl [64,1,2,3] rfl rfl rfl),λD=>bg,λt' h=>by cases h;exact ⟨_,rfl⟩⟩
   (repeat' apply And.intro);all_goals first | assumption | exact True.intro | omega | rfl
 | v first x u d=>
  obtain ⟨ho,hl,hx,hd⟩:=tb
  obtain ⟨i1,i2⟩:=gH ho
  have hf:=lT (f:=2) ho (by omega)
  obtain ⟨f1,f2,f3⟩:=hf
  have hw:(aG P M)[(0+(2+(P.n:Int)+4*((x:Int)%1024-1)+2)).toNat]?=some (.aa .u64 ((vt (M.vl (aO x)):Nat):Int)):=by
   rw [show (0+(2+(P.n:Int)+4*((x:Int)%1024-1)+2))=0+(2+(P.n:Int)+4*((x:Int)%1024-1)+((2:Nat):Int)) from rfl,f3,cr (fH ho.1 ho.2 (by omega)),ek ho.1 (by omega),if_neg (by omega),if_neg (by omega),if_pos rfl]
  have VP:(0:Int)<=0+(2+(P.n:Int)+4*((x:Int)%1024-1)+2):=f1
  have VG:0+(2+(P.n:Int)+4*((x:Int)%1024-1)+2)<(sz P:Int):=f2
  obtain ⟨x1,x2⟩:=bi.vl (aO x)
  have hy:((vt (M.vl (aO x)):Nat):Int)=(((M.vl (aO x)).2:Nat):Int)+4294967296*((((M.vl (aO x)).1:Nat):Int)%1048576):=by unfold vt;omega
  have e:aS P M (.v first x u d)=(M,some (.f first x u d (M.vl (aO x)).2)):=rfl
  rw [e]
  refine ⟨bw c 0,ep P (λi=>(((M.vl (aO x)).1:Nat):Int)) (.f first x u d (M.vl (aO x)).2),key (λD=>bg) (bs (wA MP P c M aA rest 0 P.n P.k x (cd d:Nat) (vt (M.vl (aO x)):Nat) u first (j 4)) ?_ rfl (by rw [hy];rfl) [64,1,2,3] rfl rfl rfl),λD=>bg,λt' h=>by cases h;exact ⟨_,rfl⟩⟩
  (repeat' apply And.intro);all_goals first | assumption | exact True.intro | omega | rfl
 | f first x u d y=>
  obtain ⟨hu,hl,hx,hd,hy⟩:=tb
  obtain ⟨f1,f2,f3⟩:=sW (P:=P) hu
  have nv:=Jc3 hb bi u
  have hw:(aG P M)[(0+2+(u:Int)).toNat]?=some (.aa .u64 ((cd (M.ds u):Nat):Int)):=by
   rw [f3,cr (by unfold sz;omega),gA hu]
  have dA:=jY hd
  have ir:=wi nv hd
  have q1:((y:Nat)+4294967296*(j 5%1048576):Int)%4294967296=(y:Nat):=by omega
  have q2:u64.wrap ((((y:Nat)+4294967296*(j 5%1048576):Int)%4294967296).tmod 16777216+1)=((y%16777216+1:Nat):Int):=by
   rw [q1,Int.tmod_eq_emod_of_nonneg (by omega),fm (by omega) (by omega)];omega
  have q3:(0:Int)<=u64.wrap ((((y:Nat)+4294967296*(j 5%1048576):Int)%4294967296).tmod 16777216+1):=by rw [q2];omega
  have q4:u64.wrap ((((y:Nat)+4294967296*(j 5%1048576):Int)%4294967296).tmod 16777216+1)<1073741824:=by rw [q2];omega
  by_cases hc:M.ds u=d
  ·have e:aS P M (.f first x u d y)=({ M with ds:=Jb2 M.ds u (d.fin (y%16777216+1)) },some (.s first x)):=by simp only [aS];rw [if_pos hc]
   rw [e]
   rw [decide_eq_true hc] at ir
   have dV:(aG P M).set (0+2+(u:Int)).toNat (.aa .u64 (((cd d:Nat):Int)-((cd d:Nat):Int)%2-((cd d:Nat):Int)/4%1073741824*4+(u64.wrap ((((y:Nat)+4294967296*(j 5%1048576):Int)%4294967296).tmod 16777216+1))*4))=aG P { M with ds:=Jb2 M.ds u (d.fin (y%16777216+1)) }:=by
    rw [f3,q2];exact qv hu (Bt hd)
   refine ⟨bw c 2,ep P (λi=>if i=0 then (u:Int) else if i=3 then (cd d:Nat) else (y:Nat)+4294967296*(j 5%1048576)) (.s first x),key (λD=>bg) (bs (wA HA P c M aA rest 0 P.n P.k x (cd d:Nat) 0 u first ((y:Nat)+4294967296*(j 5%1048576))) ?_ rfl (by rw [dV];rfl) [64,1,2,3] rfl rfl rfl),λD=>bg,λt' h=>by cases h;exact ⟨_,rfl⟩⟩
   (repeat' apply And.intro);all_goals first | assumption | exact True.intro | omega | rfl | exact ⟨_,hw,ir⟩
  ·have e:aS P M (.f first x u d y)=(M,some (.s first x)):=by simp only [aS];rw [if_neg hc]
   rw [e]
   rw [decide_eq_false hc] at ir
   refine ⟨bw c 2,ep P (λi=>if i=0 then (u:Int) else if i=3 then (cd d:Nat) else (y:Nat)+4294967296*(j 5%1048576)) (.s first x),key (λD=>bg) (bs (wA HC P c M aA rest 0 P.n P.k x (cd d:Nat) 0 u first ((y:Nat)+4294967296*(j 5%1048576))) ?_ rfl rfl [64,1,2,3] rfl rfl rfl),λD=>bg,λt' h=>by cases h;exact ⟨_,rfl⟩⟩
   (repeat' apply And.intro);all_goals first | assumption | exact True.intro | omega | rfl | exact ⟨_,hw,ir⟩
 | s first x=>
  obtain ⟨hl,hx⟩:=tb
  have ir:=gx (a:=M.head) (b:=first)
  by_cases hc:M.head=first
  ·have e:aS P M (.s first x)=({ M with head:=x },some (.m first)):=by simp only [aS];rw [if_pos hc]
   rw [e]
   rw [decide_eq_true hc] at ir
   have dV:(aG P M).set (0:Int).toNat (.aa .u64 (x:Nat))=aG P { M with head:=x }:=HP
   refine ⟨bw c 2,ep P (λi=>if i=2 then (x:Int) else j i) (.m first),key (λD=>bg) (bs (wA HD P c M aA rest 0 P.n P.k x (j 3) 0 (j 0) first (j 4)) ?_ rfl (by rw [dV];rfl) [64,1,2,3] rfl rfl rfl),λD=>bg,λt' h=>by cases h;exact ⟨_,rfl⟩⟩
   exact ⟨⟨trivial,rfl⟩,by omega,TT,_,hwh,ir⟩
  ·have e:aS P M (.s first x)=(M,none):=by simp only [aS];rw [if_neg hc]
   rw [e]
   rw [decide_eq_false hc] at ir
   refine ⟨bw c 2,ep P (λi=>if i=2 then (x:Int) else j i) (.m first),key (λD=>bg) (bs (wA HE P c M aA rest 0 P.n P.k x (j 3) 0 (j 0) first (j 4)) ?_ rfl rfl [64,1,2,3] rfl rfl rfl),λD=>bg,λt' h=>by cases h⟩
   exact ⟨⟨trivial,rfl⟩,by omega,TT,_,hwh,ir⟩
 | m first=>
  obtain ⟨ho,hl⟩:=tb
  obtain ⟨i1,i2⟩:=gH ho
  have hf:=lT (f:=3) ho (by omega)
  obtain ⟨f1,f2,f3⟩:=hf
  have VP:(0:Int)<=0+(2+(P.n:Int)+4*((first:Int)%1024-1)+3):=f1
  have VG:0+(2+(P.n:Int)+4*((first:Int)%1024-1)+3)<(sz P:Int):=f2
  have f3':(0+(2+(P.n:Int)+4*((first:Int)%1024-1)+3)).toNat=fa P (aO first) 3:=f3
  have hw:(aG P M)[(0+(2+(P.n:Int)+4*((first:Int)%1024-1)+3)).toNat]?=some (.aa .u64 ((M.mr (aO first):Nat):Int)):=by
   rw [f3',cr (fH ho.1 ho.2 (by omega)),ek ho.1 (by omega),if_neg (by omega),if_neg (by omega),if_neg (by omega)]
  have hm:=bi.mr (aO first)
  have q1:u64.wrap ((2:Int)*((first:Int)/1024))=((2*bH first:Nat):Int):=by rw [jy,fm (by omega) (by unfold bH;omega)];omega
  have q2:u64.wrap (u64.wrap ((2:Int)*((first:Int)/1024))+1)=((2*bH first+1:Nat):Int):=by rw [q1,fm (by omega) (by unfold bH;omega)];omega
  have ir:(((M.mr (aO first):Nat):Int)==u64.wrap (u64.wrap ((2:Int)*((first:Int)/1024))+1))=decide (M.mr (aO first)=2*bH first+1):=by rw [q2,gx]
  by_cases hc:M.mr (aO first)=2*bH first+1
  ·have e:aS P M (.m first)=({ M with mr:=Jb2 M.mr (aO first) (2*bH first) },none):=by simp only [aS];rw [if_pos hc]
   rw [e]
   rw [decide_eq_true hc] at ir
   have dV:(aG P M).set (0+(2+(P.n:Int)+4*((first:Int)%1024-1)+3)).toNat (.aa .u64 (u64.wrap ((2:Int)*((first:Int)/1024))))=aG P { M with mr:=Jb2 M.mr (aO first) (2*bH first) }:=by
    rw [f3',q1];exact HR ho.1 ho.2 rfl
   refine ⟨bw c 2,ep P j (.m first),key (λD=>bg) (bs (wA HF P c M aA rest 0 P.n P.k (j 2) (j 3) 0 (j 0) first (j 4)) ?_ rfl (by rw [dV];rfl) [64,1,2,3] rfl rfl rfl),λD=>bg,λt' h=>by cases h⟩
   (repeat' apply And.intro);all_goals first | assumption | exact True.intro | omega | rfl | exact ⟨_,hw,ir⟩
  ·have e:aS P M (.m first)=(M,none):=by simp only [aS];rw [if_neg hc]
   rw [e]
   rw [decide_eq_false hc] at ir
   refine ⟨bw c 2,ep P j (.m first),key (λD=>bg) (bs (wA HG P c M aA rest 0 P.n P.k (j 2) (j 3) 0 (j 0) first (j 4)) ?_ rfl rfl [64,1,2,3] rfl rfl rfl),λD=>bg,λt' h=>by cases h⟩
   (repeat' apply And.intro);all_goals first | assumption | exact True.intro | omega | rfl | exact ⟨_,hw,ir⟩
end Qk
end Go.Proofs.YtpkfimijnkkbjaaGreat
namespace Go.Proofs.YtpkfimijnkkbjaaGreat
namespace Ct
def bm {α:Type} (f:Nat->α) (t:Nat) (v:α) (u:Nat):α:=match Nat.beq u t with | true=>v | false=>f u
theorem cu {α:Type} (f:Nat->α) (t:Nat) (v:α) (u:Nat):bm f t v u=if u=t then v else f u:=by
 unfold bm
 by_cases h:u=t
 ·subst h;simp
 ·cases hb:Nat.beq u t with
  | true=>exact absurd (Nat.eq_of_beq_eq_true hb) h
  | false=>rw [if_neg h]
def gU:Nat->(Nat->Nat)->Nat
 | 0,_=>0
 | k+1,f=>gU k f+f k
theorem j6 {f g:Nat->Nat}: ∀ k,(∀ u,u<k->f u=g u)->gU k f=gU k g
 | 0,_=>rfl
 | k+1,h=>by unfold gU;rw [j6 k λu hu=>h u (by omega),h k (by omega)]
theorem n8 (x:Nat): ∀ k,gU k (λ_=>x)=k*x
 | 0=>by simp [gU]
 | k+1=>by unfold gU;rw [n8 x k,Nat.succ_mul]
theorem zo (f:Nat->Nat) (t x:Nat): ∀ k,t<k->gU k (bm f t x)+f t=gU k f+x
 | 0,h=>by omega
 | k+1,h=>by
  unfold gU
  by_cases hk:t=k
  ·subst hk
   rw [j6 (f:=bm f t x) (g:=f) t λu hu=>by rw [cu,if_neg (by omega)],cu,if_pos rfl];omega
  ·have:=zo f t x k (by omega)
   rw [cu f t x k,if_neg (by omega)];omega
open Ev
def zA (m at':Nat->AV):List AV:=(List.range 16).flatMap λu=>[m u,at' u]
def cP (f:Nat->AV):List AV:=(List.range 16).map f
def WL (aA:Int) (inv af:Nat->AV):List AV:=[.ptr 2 0,.aa .i64 aA]++cP inv++cP af++[.ed 10]
end Ct
end Go.Proofs.YtpkfimijnkkbjaaGreat
namespace Go.Proofs.YtpkfimijnkkbjaaGreat
namespace Qk
open Ev Ct
open Go.IntKind (i64 u64)
open Go.Proofs.Tryz (prog)
abbrev TK (B u:Int):Prop:=True∧(v9 B)∧(0:Int)<=u∧u<=(16:Int)
abbrev fp (l:Int) (s t:Nat->AV):ak:= .row false (WL l s t) 92 none
abbrev Bu (r:Int):Prop:=(0:Int)<=r∧r<(1073741824:Int)
abbrev F4 (v r:Int):Bool:=v==(0:Int)+r/(1024:Int)*(1073741824:Int)
abbrev Xj (B u:Int) (a:Nat) (j:List AV) (v:Int):Prop:=((True∧(v9 B)∧(0:Int)<=u∧u<=(16:Int))∧a=a)∧(0:Int)<=B∧B<(a:Int)∧j[B.toNat]?=some (.aa .u64 v)
abbrev XU (B u:Int) (a:Nat) (j:List AV) (v r w:Int):Prop:=(((Xj B u a j v)∧aq .eql v r=true)∧(0:Int)<=w∧w<=(18446744073709551615:Int))∧aq .eql (w%(1073741824:Int)) (0:Int)=false
abbrev z8b (C:ak) (l:Int) (s t:Nat->AV) (a:Nat) (b c e f g:Int) (j:List AV):Prop:=True∧([.ptr 80 0,.ptr 1 0]:List AV)=[.ptr 80 0,.ptr 1 0]∧(some C=some C∧(some (fp l s t):Option ak)=some (fp l s t)∧some (bQ a b c e f g)=some (bQ a b c e f g)∧some (Jb5 j)=some (Jb5 j)∧True)∧True
abbrev zd (x0 x1 x2:Int) (x3:AV) (x4 x5:Int) (x6 x7 x8 x9 Tf PZ:AV) (Wa:Bool):ak:= .row false [.aa .i64 x0,.aa .i64 x1,.aa .i64 x2,x3,.int .i64 x4,.aa .u64 x5,x6,x7,x8,x9,Tf,PZ,.bool Wa] 333 none
abbrev ze (x0 x1 x2:Int) (x3:AV) (x4 x5:Int) (x6 x7 x8 x9 Tf PZ:AV):ak:= .row false [.aa .i64 x0,.aa .i64 x1,.aa .i64 x2,x3,.int .i64 x4,.aa .u64 x5,x6,x7,x8,x9,Tf,PZ,.bool false] 331 none
abbrev zk (a:Nat) (b c e f g:Int) (j:List AV) (l:Int) (s t:Nat->AV) (B n k z d r p w A v u:Int) (h0) (h1) (h2) (h3) (h4) (h5) (h6) (h7) (h8):=view [64,1,2,3] (aW prog (bz) 60 286 [.ptr 64 0,.ptr 1 0] ⟨mk [(64,zd B n k (.int .i64 u) h0 z (.aa .u64 d) (.aa .u64 r) (.aa .u64 p) (.aa .u64 w) (.aa .i64 A) .aX false),(1,fp l s t),(2,bQ a b c e f g),(3,Jb5 j)],96,0,0,True,h1⟩)=
  some (h2,h3,96,[2,64],[some (zd B n k (.int .i64 u) h4 z (.aa .u64 h5) (.aa .u64 r) (.aa .u64 h6) (.aa .u64 h7) (.aa .i64 h8) .aX false),some (fp l s t),some (zb (.ae 3 1 0 0 a a) (i64.wrap (b+(1:Int))) c e f g),some (Jb5 j)])
abbrev Ra (B n k:Int):ak:=za B n k 0 (.int .i64 (0)) (.int .u64 (0)) (.int .u64 (0)) (.int .u64 (0))
abbrev zl (a:Nat) (b c e f g:Int) (j:List AV) (l:Int) (s t:Nat->AV) (B n k z d r p w A v:Int) (h0) (h1) (h2):=view [64,1,2,3,98,100] (aW prog (bz) 60 286 [.ptr 64 0,.ptr 1 0] ⟨mk [(64,zd B n k (.int .i64 h0) 6 z (.aa .u64 d) (.aa .u64 r) (.aa .u64 p) (.aa .u64 w) (.aa .i64 A) .aX false),(1,fp l s t),(2,bQ a b c e f g),(3,Jb5 j)],96,0,0,True,[.br true,.br true]⟩)=
  some (.bool false,(((((z6 n k B p)∧(0:Int)<=d∧d<=(18446744073709551615:Int))∧true=true)∧a=a)∧(0:Int)<=B+((2:Int)+n+(4:Int)*(p%(1024:Int)-(1:Int))+(0:Int))∧B+((2:Int)+n+(4:Int)*(p%(1024:Int)-(1:Int))+(0:Int))<(a:Int)∧ ∃ (v:Int),j[(B+((2:Int)+n+(4:Int)*(p%(1024:Int)-(1:Int))+(0:Int))).toNat]?=some (.aa .u64 v)∧(v==w)=true)∧true=true,101,[1,2,3,64,96,97,98,99,100],[some (zd B n k (.int .i64 (h1)) 0 z (.aa .u64 d) (.aa .u64 r) (.aa .u64 p) (.aa .u64 w) (.aa .i64 A) (.iface 318 (.ptr 100 0)) true),some (.row false (WL l s (Jb2 t h2 (.aF 98 1 0 0 1 1))) 92 none),some (zb (.ae 3 1 0 0 a a) b c (i64.wrap (e+(1:Int))) f g),some (Jb5 (j.set (B+((2:Int)+n+(4:Int)*(p%(1024:Int)-(1:Int))+(0:Int))).toNat (.aa .u64 (u64.wrap ((BitVec.ofInt u64.bits w ||| BitVec.ofInt u64.bits (d/(4:Int)%(1073741824:Int))).toNat:Int))))),some (.row false [.aa .i64 (i64.wrap ((2:Int)*l))] 3 (some 1)),some (Ra B n k)])
abbrev zlc (B u n k r:Int):Prop:=(TK B u)∧(yV n k)∧(v9 B)∧(EN r)∧(1:Int)<=r%(1024:Int)∧r%(1024:Int)<=(1:Int)+n*k
abbrev zm (a:Nat) (b c e f g:Int) (j:List AV) (l:Int) (s t:Nat->AV) (B n k z d r p w A v u:Int) (C D:ak) (E F G H I:Int) (J:List AV) (h0) (h1) (h2) (h3) (h4) (h5):=view [64,80,1,2,3] (aW prog (dw [(271,{args:=[.ptr 80 0,.ptr 1 0],ins:=[(80,C),(1,fp l s t),(2,bQ a b c e f g),(3,Jb5 j)],v:= .bool h0,outs:=[(80,D),(2,bQ a E F G H I),(3,Jb5 J)],nx:=96,k:=0})] bz) 60 286 [.ptr 64 0,.ptr 1 0] ⟨mk [(64,zd B n k (.int .i64 u) 0 z (.aa .u64 d) (.aa .u64 r) (.aa .u64 p) (.aa .u64 w) (.aa .i64 A) (.iface 318 (.ptr 80 0)) h1),(80,C),(1,fp l s t),(2,bQ a b c e f g),(3,Jb5 j)],96,0,0,True,[]⟩)=
  some (.bool h2,z8b C l s t a b c e f g j,96,(2::3::h3::h4),[some (zd B n k (.int .i64 u) 0 z (.aa .u64 d) (.aa .u64 r) (.aa .u64 p) (.aa .u64 w) (.aa .i64 A) h5 h1),some D,some (fp l s t),some (bQ a E F G H I),some (Jb5 J)])
abbrev zn (a:Nat) (b c e f g:Int) (j:List AV) (l:Int) (s t:Nat->AV) (B n k z d r p w A v u:Int) (h0) (h1) (h2) (h3) (h4) (h5) (h6) (h7) (h8) (h9) (kN) (rB):=view [64,1,2,3] (aW prog (bz) 60 279 [.ptr 64 0,.ptr 1 0] ⟨mk [(64,ze B n k (.int .i64 u) h0 z (.aa .u64 d) (.aa .u64 r) (.aa .u64 p) (.aa .u64 w) (.aa .i64 A) .aX),(1,fp l s t),(2,bQ a b c e f g),(3,Jb5 j)],96,0,0,True,h1⟩)=
  some (h2,h3,h4,(2::64::h5),[some (ze B n k (.int .i64 u) h6 z (.aa .u64 h7) (.aa .u64 h8) (.aa .u64 h9) (.aa .u64 kN) (.aa .i64 rB) .aX),some (fp l s t),some (zb (.ae 3 1 0 0 a a) (i64.wrap (b+(1:Int))) c e f g),some (Jb5 j)])
abbrev zp (a:Nat) (b c e f g:Int) (j:List AV) (l:Int) (s t:Nat->AV) (B n k z d r p w A v:Int) (h0) (h1) (h2) (h3) (h4) (h5) (h6) (h7) (h8) (h9) (kN) (rB) (js) (nO) (fJ) (CJ) (vB) (h17):=view [64,1,2,3,98] (aW prog (bz) 60 279 [.ptr 64 0,.ptr 1 0] ⟨mk [(64,ze B n k (.int .i64 h0) h1 z (.aa .u64 d) (.aa .u64 r) (.aa .u64 p) (.aa .u64 w) (.aa .i64 A) .aX),(1,fp l s t),(2,bQ a b c e f g),(3,Jb5 j)],96,0,0,True,h2⟩)=
  some (.bool h3,h4,99,(h5::h6::h7::h8::h9::kN),[some (ze B n k (.int .i64 rB) 0 z (.aa .u64 d) (.aa .u64 r) (.aa .u64 p) (.aa .u64 w) (.aa .i64 A) js),some (.row false (WL l s nO) 92 none),some (zb (.ae 3 1 0 0 a a) fJ c CJ f g),some (Jb5 vB),some (h17)])
abbrev C6 (B n k:Int):ak:=zc B n k 0 (.int .i64 (0)) (.int .u64 (0)) (.int .u64 (0)) (.int .u64 (0)) (.int .u64 (0))
abbrev zq (a:Nat) (b c e f g:Int) (j:List AV) (l:Int) (s t:Nat->AV) (B n k z d r p w A v u:Int) (h0) (h1) (h2):=view [64,1,2,3] (aW prog (bz) 60 279 [.ptr 64 0,.ptr 1 0] ⟨mk [(64,ze B n k (.int .i64 u) h0 z (.aa .u64 d) (.aa .u64 r) (.aa .u64 p) (.aa .u64 w) (.aa .i64 A) .aX),(1,fp l s t),(2,bQ a b c e f g),(3,Jb5 j)],96,0,0,True,[.br h1]⟩)=
  some (.bool false,h2)
abbrev zr (a:Nat) (b c e f g:Int) (j:List AV) (l:Int) (s t:Nat->AV) (B n k z d r p w A v:Int) (h0) (h1) (h2) (h3):=view [64,1,2,3,98,100] (aW prog (bz) 60 279 [.ptr 64 0,.ptr 1 0] ⟨mk [(64,ze B n k (.int .i64 h0) 9 z (.aa .u64 d) (.aa .u64 r) (.aa .u64 p) (.aa .u64 w) (.aa .i64 A) .aX),(1,fp l s t),(2,bQ a b c e f g),(3,Jb5 j)],96,0,0,True,[.br true,.br true]⟩)=
  some (.bool false,((((((True∧(v9 B)∧(0:Int)<=(h1)∧(h1)<=(16:Int))∧(yV n k)∧(v9 B)∧(EN r)∧(1:Int)<=r%(1024:Int)∧r%(1024:Int)<=(1:Int)+n*k)∧(Bu r)∧(0:Int)<=(0:Int)∧(0:Int)<(1073741824:Int))∧(Bu r)∧(0:Int)<=u64.wrap (u64.wrap (h1)+(1:Int))∧u64.wrap (u64.wrap (h1)+(1:Int))<(1073741824:Int))∧a=a)∧(0:Int)<=B+((2:Int)+n+(4:Int)*(r%(1024:Int)-(1:Int))+(1:Int))∧B+((2:Int)+n+(4:Int)*(r%(1024:Int)-(1:Int))+(1:Int))<(a:Int)∧ ∃ (v:Int),j[(B+((2:Int)+n+(4:Int)*(r%(1024:Int)-(1:Int))+(1:Int))).toNat]?=some (.aa .u64 v)∧(F4 v r)=true)∧true=true,101,[1,2,3,64,96,97,98,99,100],[some (ze B n k (.int .i64 (h2)) 0 z (.aa .u64 d) (.aa .u64 r) (.aa .u64 p) (.aa .u64 w) (.aa .i64 A) (.iface 323 (.ptr 100 0))),some (.row false (WL l s (Jb2 t h3 (.aF 98 1 0 0 1 1))) 92 none),some (zb (.ae 3 1 0 0 a a) b c (i64.wrap (e+(1:Int))) f g),some (Jb5 (j.set (B+((2:Int)+n+(4:Int)*(r%(1024:Int)-(1:Int))+(1:Int))).toNat (.aa .u64 (u64.wrap (u64.wrap (h1)+(1:Int))+r/(1024:Int)*(1073741824:Int))))),some (.row false [.aa .i64 (i64.wrap ((2:Int)*l))] 3 (some 1)),some (C6 B n k)])
abbrev zs (a:Nat) (b c e f g:Int) (j:List AV) (l:Int) (s t:Nat->AV) (B n k z d r p w A v u:Int) (C D:ak) (E F G H I:Int) (J:List AV) (h0) (h1) (h2) (h3) (h4) (h5):=view [64,80,1,2,3] (aW prog (dw [(h0,{args:=[.ptr 80 0,.ptr 1 0],ins:=[(80,C),(1,fp l s t),(2,bQ a b c e f g),(3,Jb5 j)],v:= .bool h1,outs:=[(80,D),(2,bQ a E F G H I),(3,Jb5 J)],nx:=96,k:=0})] bz) 60 279 [.ptr 64 0,.ptr 1 0] ⟨mk [(64,ze B n k (.int .i64 u) 0 z (.aa .u64 d) (.aa .u64 r) (.aa .u64 p) (.aa .u64 w) (.aa .i64 A) (.iface h2 (.ptr 80 0))),(80,C),(1,fp l s t),(2,bQ a b c e f g),(3,Jb5 j)],96,0,0,True,[]⟩)=
  some (.bool false,z8b C l s t a b c e f g j,96,(2::3::h3::h4),[some (ze B n k (.int .i64 u) 0 z (.aa .u64 d) (.aa .u64 r) (.aa .u64 p) (.aa .u64 w) (.aa .i64 A) h5),some D,some (fp l s t),some (bQ a E F G H I),some (Jb5 J)])
abbrev Xk (d:Int):AV:= .aa .u64 (d-d%(2:Int)-d/(4:Int)%(1073741824:Int)*(4:Int)+(0:Int)*(4:Int))
section
variable (a:Nat) (b c e f g:Int) (j:List AV) (l:Int) (s t:Nat->AV) (B n k z d r p w A v u:Int) (C D:ak) (E F G H I:Int) (J:List AV)
theorem HU:zk a b c e f g j l s t B n k z d r p w A v u 0 ([.val [.aa .u64 v]]) (.eS !(v%(2:Int)==(1:Int)&&(ue v)==false&&v/(4294967296:Int)==z)) (z7 B u a j v) 1 v p w A:=by unfold zk;kernel_rfl
theorem Rb:zk a b c e f g j l s t B n k z d r p w A v u 1 ([.val [.aa .u64 v]]) (.bool false) (Xd B a j v) 3 d v w A:=by unfold zk;kernel_rfl
theorem MW:zk a b c e f g j l s t B n k z d r p w A v u 3 ([.br true,.val [.aa .u64 v],.br true]) (.bool false) ((Ha n k B p a j v)∧(ln v p)=true) 0 d p v l:=by unfold zk;kernel_rfl
theorem MX:view [64,1,2,3,97] (aW prog (bz) 60 286 [.ptr 64 0,.ptr 1 0] ⟨mk [(64,zd B n k (.int .i64 u) 3 z (.aa .u64 d) (.aa .u64 r) (.aa .u64 p) (.aa .u64 w) (.aa .i64 A) .aX false),(1,fp l s t),(2,bQ a b c e f g),(3,Jb5 j)],96,0,0,True,[.br true,.val [.aa .u64 v],.br false,.br true]⟩)=
  some (.bool false,((Ha n k B p a j v)∧(ln v p)=false)∧aq .neq (v%(1073741824:Int)) (0:Int)=true,98,[2,64,96,97],[some (zd B n k (.int .i64 u) 0 z (.aa .u64 d) (.aa .u64 r) (.aa .u64 p) (.aa .u64 v) (.aa .i64 l) (.iface 318 (.ptr 97 0)) false),some (fp l s t),some (zb (.ae 3 1 0 0 a a) (i64.wrap (b+(1:Int))) c e f g),some (Jb5 j),some (Ra B n k)]):=by kernel_rfl
theorem MY:zk a b c e f g j l s t B n k z d r p w A v u 3 ([.br true,.val [.aa .u64 v],.br false,.br false]) (.bool false) (((Ha n k B p a j v)∧(ln v p)=false)∧aq .neq (v%(1073741824:Int)) (0:Int)=false) 5 d p v l:=by unfold zk;kernel_rfl
theorem HV:zk a b c e f g j l s t B n k z d r p w A v u 5 ([.val [.aa .u64 v]]) (.eS !(v%(2:Int)==(1:Int)&&(ue v)==false&&v/(4294967296:Int)==z)) (z7 B u a j v) 6 v p w A:=by unfold zk;kernel_rfl
theorem HW:zl a b c e f g j l s t B n k z d r p w A v 0 0 0:=by unfold zl;kernel_rfl
theorem HX:zl a b c e f g j l s t B n k z d r p w A v 1 1 1:=by unfold zl;kernel_rfl
theorem HY:zl a b c e f g j l s t B n k z d r p w A v 2 2 2:=by unfold zl;kernel_rfl
theorem HZ:zl a b c e f g j l s t B n k z d r p w A v 3 3 3:=by unfold zl;kernel_rfl
theorem MZ (a:Nat) (b c e f g:Int) (j:List AV) (l:Int) (s t:Nat->AV) (B n k z d r p w A v u:Int):view [64,1,2,3] (aW prog (bz) 60 286 [.ptr 64 0,.ptr 1 0] ⟨mk [(64,zd B n k (.int .i64 u) 6 z (.aa .u64 d) (.aa .u64 r) (.aa .u64 p) (.aa .u64 w) (.aa .i64 A) .aX false),(1,fp l s t),(2,bQ a b c e f g),(3,Jb5 j)],96,0,0,True,[.br true,.br false]⟩)=
  some (.bool false,((((z6 n k B p)∧(0:Int)<=d∧d<=(18446744073709551615:Int))∧true=true)∧a=a)∧(0:Int)<=B+((2:Int)+n+(4:Int)*(p%(1024:Int)-(1:Int))+(0:Int))∧B+((2:Int)+n+(4:Int)*(p%(1024:Int)-(1:Int))+(0:Int))<(a:Int)∧ ∃ (v:Int),j[(B+((2:Int)+n+(4:Int)*(p%(1024:Int)-(1:Int))+(0:Int))).toNat]?=some (.aa .u64 v)∧(v==w)=false,96,[2,64],[some (zd B n k (.int .i64 u) 0 z (.aa .u64 d) (.aa .u64 r) (.aa .u64 p) (.aa .u64 w) (.aa .i64 A) .aX false),some (fp l s t),some (zb (.ae 3 1 0 0 a a) b c (i64.wrap (e+(1:Int))) f g),some (Jb5 j)]):=by kernel_rfl
theorem M0:zm a b c e f g j l s t B n k z d r p w A v u C D E F G H I J false false false 80 ([]) (.iface 318 (.ptr 80 0)):=by unfold zm;kernel_rfl
theorem H0:zm a b c e f g j l s t B n k z d r p w A v u C D E F G H I J false true false 80 ([]) (.iface 318 (.ptr 80 0)):=by unfold zm;kernel_rfl
theorem M1:zm a b c e f g j l s t B n k z d r p w A v u C D E F G H I J true false false 64 ([80]) .aX:=by unfold zm;kernel_rfl
theorem Ja5:zm a b c e f g j l s t B n k z d r p w A v u C D E F G H I J true true true 64 ([80]) .aX:=by unfold zm;kernel_rfl
theorem Ja2:zn a b c e f g j l s t B n k z d r p w A v u 0 ([.val [.aa .u64 v]]) (.eS !(v%(2:Int)==(1:Int)&&(ue v)==true&&v/(4294967296:Int)==z)) (((((TK B u)∧(v9 B)∧(0:Int)<=u∧u<=(16:Int))∧a=a)∧(0:Int)<=B+(2:Int)+u∧B+(2:Int)+u<(a:Int)∧j[(B+(2:Int)+u).toNat]?=some (.aa .u64 v))∧(0:Int)<=v∧v<=(18446744073709551615:Int)) 96 ([]) 2 v r p w A:=by unfold zn;kernel_rfl
theorem Rc:zn a b c e f g j l s t B n k z d r p w A v u 2 ([.val [.aa .u64 v]]) (.bool false) (Xj B u a j v) 97 ([96]) 1 d v p w A:=by unfold zn;kernel_rfl
theorem Rd:zn a b c e f g j l s t B n k z d r p w A v u 1 ([.val [.aa .u64 v]]) (.bool false) ((((TK B u)∧(0:Int)<=B∧B<=(65536:Int))∧a=a)∧(0:Int)<=B+(1:Int)∧B+(1:Int)<(a:Int)∧j[(B+(1:Int)).toNat]?=some (.aa .u64 v)) 96 ([]) 3 d r v w A:=by unfold zn;kernel_rfl
theorem Re:zn a b c e f g j l s t B n k z d r p w A v u 3 ([.br true,.val [.aa .u64 v]]) (.bool false) (((zlc B u n k r)∧a=a)∧(0:Int)<=B+((2:Int)+n+(4:Int)*(r%(1024:Int)-(1:Int))+(0:Int))∧B+((2:Int)+n+(4:Int)*(r%(1024:Int)-(1:Int))+(0:Int))<(a:Int)∧j[(B+((2:Int)+n+(4:Int)*(r%(1024:Int)-(1:Int))+(0:Int))).toNat]?=some (.aa .u64 v)) 96 ([]) 4 d r p v l:=by unfold zn;kernel_rfl
theorem M3:zn a b c e f g j l s t B n k z d r p w A v u 4 ([.val [.aa .u64 v],.br false]) (.bool false) ((Xj B u a j v)∧aq .eql v r=false) 97 ([96]) 0 d r p w A:=by unfold zn;kernel_rfl
theorem M4:zn a b c e f g j l s t B n k z d r p w A v u 4 ([.val [.aa .u64 v],.br true,.br true]) (.bool false) ((((Xj B u a j v)∧aq .eql v r=true)∧(0:Int)<=w∧w<=(18446744073709551615:Int))∧aq .eql (w%(1073741824:Int)) (0:Int)=true) 97 ([96]) 7 d r p w A:=by unfold zn;kernel_rfl
theorem M5:zp a b c e f g j l s t B n k z d r p w A v u 4 ([.val [.aa .u64 v],.br true,.br false,.br true]) false ((XU B u a j v r w)∧aq .eql r p=true) 2 64 96 97 98 ([]) u (.iface 318 (.ptr 98 0)) t (i64.wrap (b+(1:Int))) e j (Ra B n k):=by unfold zp;kernel_rfl
theorem M6:zn a b c e f g j l s t B n k z d r p w A v u 4 ([.val [.aa .u64 v],.br true,.br false,.br false,.br true]) (.bool false) ((((XU B u a j v r w)∧aq .eql r p=false)∧(0:Int)<=d∧d<=(18446744073709551615:Int))∧aq .neq (d/(4:Int)%(1073741824:Int)) r=true) 97 ([96]) 8 d r p w A:=by unfold zn;kernel_rfl
theorem M7:zn a b c e f g j l s t B n k z d r p w A v u 4 ([.val [.aa .u64 v],.br true,.br false,.br false,.br false]) (.bool false) ((((XU B u a j v r w)∧aq .eql r p=false)∧(0:Int)<=d∧d<=(18446744073709551615:Int))∧aq .neq (d/(4:Int)%(1073741824:Int)) r=false) 97 ([96]) 9 d r p w A:=by unfold zn;kernel_rfl
theorem H3:zp a b c e f g j l s t B n k z d r p w A v 0 7 ([.br true]) true (((((True∧(v9 B)∧(0:Int)<=(0:Int)∧(0:Int)<=(16:Int))∧(EN d)∧(0:Int)<=(0:Int)∧(0:Int)<(1073741824:Int))∧a=a)∧(0:Int)<=B+(2:Int)+(0:Int)∧B+(2:Int)+(0:Int)<(a:Int)∧ ∃ (v:Int),j[(B+(2:Int)+(0:Int)).toNat]?=some (.aa .u64 v)∧(v==d)=true)∧true=true) 1 2 3 64 96 ([97,98]) 0 .aX (Jb2 t 0 (.aF 98 1 0 0 1 1)) b (i64.wrap (e+(1:Int))) (j.set (B+(2:Int)+(0:Int)).toNat (Xk d)) (.row false [.aa .i64 (i64.wrap ((2:Int)*A))] 3 (some 1)):=by unfold zp;kernel_rfl
theorem H4:zp a b c e f g j l s t B n k z d r p w A v 1 7 ([.br true]) true (((((True∧(v9 B)∧(0:Int)<=(1:Int)∧(1:Int)<=(16:Int))∧(EN d)∧(0:Int)<=(0:Int)∧(0:Int)<(1073741824:Int))∧a=a)∧(0:Int)<=B+(2:Int)+(1:Int)∧B+(2:Int)+(1:Int)<(a:Int)∧ ∃ (v:Int),j[(B+(2:Int)+(1:Int)).toNat]?=some (.aa .u64 v)∧(v==d)=true)∧true=true) 1 2 3 64 96 ([97,98]) 1 .aX (Jb2 t 1 (.aF 98 1 0 0 1 1)) b (i64.wrap (e+(1:Int))) (j.set (B+(2:Int)+(1:Int)).toNat (Xk d)) (.row false [.aa .i64 (i64.wrap ((2:Int)*A))] 3 (some 1)):=by unfold zp;kernel_rfl
theorem H7:zp a b c e f g j l s t B n k z d r p w A v 2 7 ([.br true]) true (((((True∧(v9 B)∧(0:Int)<=(2:Int)∧(2:Int)<=(16:Int))∧(EN d)∧(0:Int)<=(0:Int)∧(0:Int)<(1073741824:Int))∧a=a)∧(0:Int)<=B+(2:Int)+(2:Int)∧B+(2:Int)+(2:Int)<(a:Int)∧ ∃ (v:Int),j[(B+(2:Int)+(2:Int)).toNat]?=some (.aa .u64 v)∧(v==d)=true)∧true=true) 1 2 3 64 96 ([97,98]) 2 .aX (Jb2 t 2 (.aF 98 1 0 0 1 1)) b (i64.wrap (e+(1:Int))) (j.set (B+(2:Int)+(2:Int)).toNat (Xk d)) (.row false [.aa .i64 (i64.wrap ((2:Int)*A))] 3 (some 1)):=by unfold zp;kernel_rfl
theorem H8:zp a b c e f g j l s t B n k z d r p w A v 3 7 ([.br true]) true (((((True∧(v9 B)∧(0:Int)<=(3:Int)∧(3:Int)<=(16:Int))∧(EN d)∧(0:Int)<=(0:Int)∧(0:Int)<(1073741824:Int))∧a=a)∧(0:Int)<=B+(2:Int)+(3:Int)∧B+(2:Int)+(3:Int)<(a:Int)∧ ∃ (v:Int),j[(B+(2:Int)+(3:Int)).toNat]?=some (.aa .u64 v)∧(v==d)=true)∧true=true) 1 2 3 64 96 ([97,98]) 3 .aX (Jb2 t 3 (.aF 98 1 0 0 1 1)) b (i64.wrap (e+(1:Int))) (j.set (B+(2:Int)+(3:Int)).toNat (Xk d)) (.row false [.aa .i64 (i64.wrap ((2:Int)*A))] 3 (some 1)):=by unfold zp;kernel_rfl
theorem M8:zq a b c e f g j l s t B n k z d r p w A v u 7 false ((((TK B u)∧(EN d)∧(0:Int)<=(0:Int)∧(0:Int)<(1073741824:Int))∧a=a)∧(0:Int)<=B+(2:Int)+u∧B+(2:Int)+u<(a:Int)∧ ∃ (v:Int),j[(B+(2:Int)+u).toNat]?=some (.aa .u64 v)∧(v==d)=false,96,[2,64],[some (ze B n k (.int .i64 u) 0 z (.aa .u64 d) (.aa .u64 r) (.aa .u64 p) (.aa .u64 w) (.aa .i64 A) .aX),some (fp l s t),some (zb (.ae 3 1 0 0 a a) b c (i64.wrap (e+(1:Int))) f g),some (Jb5 j)]):=by unfold zq;kernel_rfl
theorem M9:zq a b c e f g j l s t B n k z d r p w A v u 8 true ((((TK B u)∧(EN d)∧(0:Int)<=r∧r<(1073741824:Int))∧a=a)∧(0:Int)<=B+(2:Int)+u∧B+(2:Int)+u<(a:Int)∧ ∃ (v:Int),j[(B+(2:Int)+u).toNat]?=some (.aa .u64 v)∧(v==d)=true,96,[2,3,64],[some (ze B n k (.int .i64 u) 9 z (.aa .u64 d) (.aa .u64 r) (.aa .u64 p) (.aa .u64 w) (.aa .i64 A) .aX),some (fp l s t),some (zb (.ae 3 1 0 0 a a) b c (i64.wrap (e+(1:Int))) f g),some (Jb5 (j.set (B+(2:Int)+u).toNat (.aa .u64 (d-d/(4:Int)%(1073741824:Int)*(4:Int)+r*(4:Int)))))]):=by unfold zq;kernel_rfl
theorem Na:zq a b c e f g j l s t B n k z d r p w A v u 8 false ((((TK B u)∧(EN d)∧(0:Int)<=r∧r<(1073741824:Int))∧a=a)∧(0:Int)<=B+(2:Int)+u∧B+(2:Int)+u<(a:Int)∧ ∃ (v:Int),j[(B+(2:Int)+u).toNat]?=some (.aa .u64 v)∧(v==d)=false,96,[2,64],[some (ze B n k (.int .i64 u) 0 z (.aa .u64 d) (.aa .u64 r) (.aa .u64 p) (.aa .u64 w) (.aa .i64 A) .aX),some (fp l s t),some (zb (.ae 3 1 0 0 a a) b c (i64.wrap (e+(1:Int))) f g),some (Jb5 j)]):=by unfold zq;kernel_rfl
theorem H9:zr a b c e f g j l s t B n k z d r p w A v 0 (0:Int) 0 0:=by unfold zr;kernel_rfl
theorem Ia:zr a b c e f g j l s t B n k z d r p w A v 1 (1:Int) 1 1:=by unfold zr;kernel_rfl
theorem Ib:zr a b c e f g j l s t B n k z d r p w A v 2 (2:Int) 2 2:=by unfold zr;kernel_rfl
theorem Ic:zr a b c e f g j l s t B n k z d r p w A v 3 (3:Int) 3 3:=by unfold zr;kernel_rfl
theorem Nb (a:Nat) (b c e f g:Int) (j:List AV) (l:Int) (s t:Nat->AV) (B n k z d r p w A v u:Int):view [64,1,2,3,97] (aW prog (bz) 60 279 [.ptr 64 0,.ptr 1 0] ⟨mk [(64,ze B n k (.int .i64 u) 9 z (.aa .u64 d) (.aa .u64 r) (.aa .u64 p) (.aa .u64 w) (.aa .i64 A) .aX),(1,fp l s t),(2,bQ a b c e f g),(3,Jb5 j)],96,0,0,True,[.br true,.br false]⟩)=
  some (.bool false,((((zlc B u n k r)∧(Bu r)∧(0:Int)<=(0:Int)∧(0:Int)<(1073741824:Int))∧(Bu r)∧(0:Int)<=u64.wrap (u64.wrap u+(1:Int))∧u64.wrap (u64.wrap u+(1:Int))<(1073741824:Int))∧a=a)∧(0:Int)<=B+((2:Int)+n+(4:Int)*(r%(1024:Int)-(1:Int))+(1:Int))∧B+((2:Int)+n+(4:Int)*(r%(1024:Int)-(1:Int))+(1:Int))<(a:Int)∧ ∃ (v:Int),j[(B+((2:Int)+n+(4:Int)*(r%(1024:Int)-(1:Int))+(1:Int))).toNat]?=some (.aa .u64 v)∧(F4 v r)=false,98,[2,64,96,97],[some (ze B n k (.int .i64 u) 0 z (.aa .u64 d) (.aa .u64 r) (.aa .u64 p) (.aa .u64 w) (.aa .i64 A) (.iface 323 (.ptr 97 0))),some (fp l s t),some (zb (.ae 3 1 0 0 a a) b c (i64.wrap (e+(1:Int))) f g),some (Jb5 j),some (C6 B n k)]):=by kernel_rfl
theorem Nc:zs a b c e f g j l s t B n k z d r p w A v u C D E F G H I J 271 false 318 80 ([]) (.iface 318 (.ptr 80 0)):=by unfold zs;kernel_rfl
theorem Nd:zs a b c e f g j l s t B n k z d r p w A v u C D E F G H I J 271 true 318 64 ([80]) .aX:=by unfold zs;kernel_rfl
theorem Nf:zs a b c e f g j l s t B n k z d r p w A v u C D E F G H I J 275 false 323 80 ([]) (.iface 323 (.ptr 80 0)):=by unfold zs;kernel_rfl
theorem Ng:zs a b c e f g j l s t B n k z d r p w A v u C D E F G H I J 275 true 323 64 ([80]) .aX:=by unfold zs;kernel_rfl
end
end Qk
end Go.Proofs.YtpkfimijnkkbjaaGreat
namespace Go.Proofs.YtpkfimijnkkbjaaGreat
namespace Ev
section
variable {P:Program}
variable {ρ:Nat->Nat} {o:ak}
mutual
def dz (ρ:Nat->Nat):AV->AV
 | .int k n=> .int k n
 | .aa k n=> .aa k n
 | .bool b=> .bool b
 | .eS b=> .eS b
 | .ptr b off=> .ptr (ρ b) off
 | .oG=> .oG
 | .slice b off len cap=> .slice (ρ b) off len cap
 | .aF b sz k j len iM=> .aF (ρ b) sz k j len iM
 | .aL b off len cap=> .aL (ρ b) off len cap
 | .ae b sz k j len iM=> .ae (ρ b) sz k j len iM
 | .au=> .au
 | .ed b=> .ed (ρ b)
 | .uk=> .uk
 | .func f a b=> .func f (gI ρ a) (gI ρ b)
 | .kx=> .kx
 | .iface t v=> .iface t (dz ρ v)
 | .aX=> .aX
 | .agg l=> .agg (gI ρ l)
 | .eT l=> .eT (gI ρ l)
 | .cQ v=> .cQ v
def gI (ρ:Nat->Nat):List AV->List AV
 | []=>[]
 | v::l=>dz ρ v::gI ρ l
end
def dm (ρ:Nat->Nat):ak->ak
 | .row s l t q=> .row s (gI ρ l) t q
 | .map s l=> .map s (l.map λx=>(x.1,dz ρ x.2))
mutual
theorem kW (φ:bo) (ρ:Nat->Nat): ∀ v,Jb1 φ (dz ρ v)=Jb1 (λi=>φ (ρ i)) v
 | .ptr _ _=>by simp only [dz,Jb1]
 | .slice _ _ _ _=>by simp only [dz,Jb1]
 | .aF _ _ _ _ _ _=>by simp only [dz,Jb1]
 | .aL _ _ _ _=>by simp only [dz,Jb1]
 | .ae _ _ _ _ _ _=>by simp only [dz,Jb1]
 | .ed _=>by simp only [dz,Jb1]
 | .func _ a b=>by simp only [dz,Jb1];rw [ic φ ρ a,ic φ ρ b]
 | .iface _ v=>by simp only [dz,Jb1];rw [kW φ ρ v]
 | .agg l=>by simp only [dz,Jb1];rw [ic φ ρ l]
 | .eT l=>by simp only [dz,Jb1];rw [ic φ ρ l]
 | .int _ _=>rfl
 | .aa _ _=>rfl
 | .bool _=>rfl
 | .eS _=>rfl
 | .oG=>rfl
 | .au=>rfl
 | .uk=>rfl
 | .kx=>rfl
 | .aX=>rfl
 | .cQ _=>rfl
theorem ic (φ:bo) (ρ:Nat->Nat): ∀ l,az φ (gI ρ l)=az (λi=>φ (ρ i)) l
 | []=>rfl
 | v::l=>by simp only [gI,az];rw [kW φ ρ v,ic φ ρ l]
end
mutual
theorem lC (D:Nat->Prop) (ρ:Nat->Nat): ∀ v:AV,(dz ρ v).aD D↔v.aD (λi=>D (ρ i))
 | .ptr _ _=>Iff.rfl
 | .slice _ _ _ _=>Iff.rfl
 | .aF _ _ _ _ _ _=>Iff.rfl
 | .aL _ _ _ _=>Iff.rfl
 | .ae _ _ _ _ _ _=>Iff.rfl
 | .ed _=>Iff.rfl
 | .func _ a b=>by simp only [dz,AV.aD];rw [gb D ρ a,gb D ρ b]
 | .iface _ v=>by simp only [dz,AV.aD];rw [lC D ρ v]
 | .agg l=>by simp only [dz,AV.aD];rw [gb D ρ l]
 | .eT l=>by simp only [dz,AV.aD];rw [gb D ρ l]
 | .int _ _=>Iff.rfl
 | .aa _ _=>Iff.rfl
 | .bool _=>Iff.rfl
 | .eS _=>Iff.rfl
 | .oG=>Iff.rfl
 | .au=>Iff.rfl
 | .uk=>Iff.rfl
 | .kx=>Iff.rfl
 | .aX=>Iff.rfl
 | .cQ _=>Iff.rfl
theorem gb (D:Nat->Prop) (ρ:Nat->Nat): ∀ l:List AV,aR D (gI ρ l)↔aR (λi=>D (ρ i)) l
 | []=>Iff.rfl
 | v::l=>by simp only [gI,aR];rw [lC D ρ v,gb D ρ l]
end
mutual
theorem wj {ρ:Nat->Nat}: ∀ v:AV,v.aD (λi=>ρ i=i)->dz ρ v=v
 | .ptr _ _,h=>by simp only [dz];rw [show ρ _=_ from h]
 | .slice _ _ _ _,h=>by simp only [dz];rw [show ρ _=_ from h]
 | .aF _ _ _ _ _ _,h=>by simp only [dz];rw [show ρ _=_ from h]
 | .aL _ _ _ _,h=>by simp only [dz];rw [show ρ _=_ from h]
 | .ae _ _ _ _ _ _,h=>by simp only [dz];rw [show ρ _=_ from h]
 | .ed _,h=>by simp only [dz];rw [show ρ _=_ from h]
 | .func _ a b,h=>by simp only [dz];rw [m5 a h.1,m5 b h.2]
 | .iface _ v,h=>by unfold AV.aD at h;simp only [dz];rw [wj v h]
 | .agg l,h=>by unfold AV.aD at h;simp only [dz];rw [m5 l h]
 | .eT l,h=>by unfold AV.aD at h;simp only [dz];rw [m5 l h]
 | .int _ _,_=>rfl
 | .aa _ _,_=>rfl
 | .bool _,_=>rfl
 | .eS _,_=>rfl
 | .oG,_=>rfl
 | .au,_=>rfl
 | .uk,_=>rfl
 | .kx,_=>rfl
 | .aX,_=>rfl
 | .cQ _,_=>rfl
theorem m5 {ρ:Nat->Nat}: ∀ l:List AV,aR (λi=>ρ i=i) l->gI ρ l=l
 | [],_=>rfl
 | v::l,h=>by simp only [gI];rw [wj v h.1,m5 l h.2]
end
theorem jk {D:Nat->Prop}:(dm ρ o).aD D↔o.aD (λi=>D (ρ i)):=by
 cases o with
 | row s l t q=>exact gb D ρ l
 | map s l=>
  unfold dm ak.aD
  simp only [List.mem_map]
  refine ⟨λh x hx=>(lC D ρ x.2).1 (h _ ⟨x,hx,rfl⟩),?_⟩
  rintro h x ⟨y,hy,rfl⟩
  exact (lC D ρ y.2).2 (h y hy)
theorem fS (h:o.aD (λi=>ρ i=i)):dm ρ o=o:=by
 cases o with
 | row s l t q=>
  show ak.row s (gI ρ l) t q=_
  rw [m5 l h]
 | map s l=>
  show ak.map s (l.map λx=>(x.1,dz ρ x.2))=_
  congr 1
  refine (List.map_congr_left λx hx=> ?_).trans (List.map_id l)
  rw [wj x.2 (h x hx)];rfl
theorem mv (φ:bo) (ρ:Nat->Nat) (o:ak):bW (λi=>φ (ρ i)) φ o (dm ρ o):=by
 cases o with
 | row s l t q=>exact ⟨(ic φ ρ l).symm,rfl,rfl⟩
 | map s l=>
  show l.map (cq _)=(l.map λx=>(x.1,dz ρ x.2)).map (cq φ)
  rw [List.map_map]
  exact List.map_congr_left λx _=>by unfold cq;rw [Function.comp,kW]
def iB (ρ:Nat->Nat) (l:List (Nat×ak)):List (Nat×ak):=l.map λx=>(ρ x.1,dm ρ x.2)
def Part.XV (p:Part) (ρ:Nat->Nat):Part:={ args:=gI ρ p.args,ins:=iB ρ p.ins,v:=dz ρ p.v,outs:=iB ρ p.outs,nx:=p.nx,k:=p.k,q:=p.q }
theorem Ie {f:FuncId} {p:Part} (hp:bP P f p) (TV: ∀ c,c<=ρ c) (lY: ∀ x∈p.ins,∀ y∈p.ins,ρ x.1=ρ y.1->x.1=y.1) (hid: ∀ c,p.nx<=c->ρ c=c) (dA: ∀ c,c<p.nx->ρ c<p.nx)
  (hout: ∀ x∈p.outs,x.1<p.nx+p.k):bP P f (p.XV ρ):=by
 refine ⟨hp.fn,λhq D ha hi hn=> ?_,λhq n φ w hn et kq LD=> ?_⟩
 ·have:=hp.ids hq (λi=>D (ρ i)) ((gb D ρ _).1 ha) (λx hx=>jk.1 (hi (ρ x.1,dm ρ x.2) (List.mem_map.2 ⟨x,hx,rfl⟩))) (λi h1 h2=>by rw [hid i h1];exact hn i h1 h2)
  refine ⟨(lC D ρ _).2 this.1,λx hx=> ?_⟩
  obtain ⟨y,hy,rfl⟩:=List.mem_map.1 hx
  exact jk.2 (this.2 y hy)
 ·replace hn:p.k=0∧n<=p.nx∨n=p.nx:=hn
  have FL:n<=p.nx:=hn.elim (·.2) (λh=>Nat.le_of_eq h)
  have hex:p.k≠0->n=p.nx:=λh=>hn.elim (λh'=>absurd h'.1 h) id
  have lower: ∀ i,ρ i<n->i<n:=λi h=>Nat.lt_of_le_of_lt (TV i) h
  have h0:=hp.nX hq n (λi=>φ (ρ i)) w hn (((gb (· < n) ρ _).1 et).mono lower) (λx hx=>by
    obtain ⟨q1,q2,q3⟩:=kq (ρ x.1,dm ρ x.2) (List.mem_map.2 ⟨x,hx,rfl⟩)
    exact ⟨q1.same rfl (mv φ ρ x.2).symm,lower _ q2,(jk.1 q3).mono lower⟩) (λx hx y hy he=>lY x hx y hy (LD (ρ x.1,dm ρ x.2) (List.mem_map.2 ⟨x,hx,rfl⟩) (ρ y.1,dm ρ y.2) (List.mem_map.2 ⟨y,hy,rfl⟩) he))
  have ea:(az φ (p.XV ρ).args)=az (λi=>φ (ρ i)) p.args:=ic φ ρ p.args
  rw [ea]
  refine h0.mono ?_
  rintro e w' ⟨φ1,rfl,hA,hH,hI,hS,hF,fy⟩
  let φ':bo:=λi=>if n<=i∧i<n+p.k then φ1 i else φ i
  have hφ: ∀ i,i<n+p.k->(λi=>φ' (ρ i)) i=φ1 i:=λi hi=>by
   show (if n<=ρ i∧ρ i<n+p.k then φ1 (ρ i) else φ (ρ i))=φ1 i
   by_cases h:n<=i
   ·have hk:p.k≠0:=by omega
    have TH:=hex hk
    rw [hid i (by omega),if_pos ⟨h,hi⟩]
   ·have h1: ¬ (n<=ρ i∧ρ i<n+p.k)∨n<=ρ i:=(Classical.em (n<=ρ i)).elim .inr λhh=> .inl λh=>hh h.1
    rcases h1 with h1 | h1
    ·rw [if_neg h1];exact (hA i (by omega)).symm
    ·have h2:=dA i (by omega)
     by_cases hk:p.k=0
     ·rw [if_neg (by omega)];exact (hA i (by omega)).symm
     ·have TH:=hex hk
      omega
  have cC:=hp.ids hq (· < n+p.k) (((gb (· < n) ρ _).1 et).mono λi hi=>by have:=lower i hi;omega) (λx hx=>by
    obtain ⟨_,_,q3⟩:=kq (ρ x.1,dm ρ x.2) (List.mem_map.2 ⟨x,hx,rfl⟩)
    exact (jk.1 q3).mono λi hi=>by have:=lower i hi;omega) (λi h1 h2=>by
    rcases hn with ⟨h,_⟩ | h
    ·omega
    ·rw [h];exact h2)
  have lt: ∀ x∈p.outs,x.1<n+p.k∨(p.k=0∧n<=x.1):=λx hx=>by
   have:=hout x hx
   rcases hn with ⟨h,_⟩ | h
   ·by_cases hh:x.1<n+p.k
    ·exact .inl hh
    ·exact .inr ⟨h,by omega⟩
   ·have h:n=p.nx:=h
    exact .inl (by omega)
  have at_: ∀ x∈p.outs,φ' (ρ x.1)=φ1 x.1:=λx hx=>by
   rcases lt x hx with h | ⟨h,h1⟩
   ·exact hφ x.1 h
   ·show (if n<=ρ x.1∧ρ x.1<n+p.k then φ1 (ρ x.1) else φ (ρ x.1))=φ1 x.1
    rw [if_neg (by omega)]
    exact (hA x.1 (by omega)).symm
  refine ⟨φ',?_,λi hi=>if_neg hi,λx hx=> ?_,λx hx y hy he=> ?_,λx hx=> ?_,λr hr bq=> ?_,fy⟩
  ·show _=Ending.returned (Jb1 φ' (dz ρ p.v))
   rw [kW,dD hφ cC.1]
  ·obtain ⟨y,hy,rfl⟩:=List.mem_map.1 hx
   have h1:cf (λi=>φ' (ρ i)) y.1 y.2 w':=(hH y hy).bB (D:=(· < n+p.k)) hφ (cC.2 y hy) (at_ y hy) rfl
   exact h1.same rfl (mv φ' ρ y.2)
  ·obtain ⟨x0,Jc4,rfl⟩:=List.mem_map.1 hx
   obtain ⟨y0,L9,rfl⟩:=List.mem_map.1 hy
   have he:(φ' (ρ x0.1)).dp=(φ' (ρ y0.1)).dp:=he
   rw [at_ x0 Jc4,at_ y0 L9] at he
   show ρ x0.1=ρ y0.1
   rw [hI x0 Jc4 y0 L9 he]
  ·obtain ⟨x0,Jc4,rfl⟩:=List.mem_map.1 hx
   show w.heap.size<=(φ' (ρ x0.1)).dp∨_
   rw [show (φ' (ρ x0.1,dm ρ x0.2).1)=φ1 x0.1 from at_ x0 Jc4]
   rcases hS x0 Jc4 with h | ⟨y,hy,⟨z,hz,he⟩,h⟩
   ·exact .inl h
   ·exact .inr ⟨(ρ y.1,dm ρ y.2),List.mem_map.2 ⟨y,hy,rfl⟩,⟨(ρ z.1,dm ρ z.2),List.mem_map.2 ⟨z,hz,rfl⟩,by show ρ z.1=ρ y.1;rw [he]⟩,h⟩
  ·exact hF r hr λy hy ⟨z,hz,he⟩=>bq (ρ y.1,dm ρ y.2) (List.mem_map.2 ⟨y,hy,rfl⟩) ⟨(ρ z.1,dm ρ z.2),List.mem_map.2 ⟨z,hz,rfl⟩,by show ρ z.1=ρ y.1;rw [he]⟩
end
end Ev
end Go.Proofs.YtpkfimijnkkbjaaGreat
