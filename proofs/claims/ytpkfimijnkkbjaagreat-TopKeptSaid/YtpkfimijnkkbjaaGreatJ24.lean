/- table.Make of a queue, and run.begin. -/
import Derived.Test.YtpkfimijnkkbjaaGreatJ23
set_option linter.unusedVariables false
namespace Go.Proofs.YtpkfimijnkkbjaaGreat
namespace Qk
open Ev Ct
open Go.IntKind (i64 u64)
open Go.Proofs.Tryz (prog)
section
variable {κ:Ev.dE}
def wN (n k:Nat):Int:=i64.wrap (i64.wrap ((2:Int)+(n:Nat))+i64.wrap ((4:Int)*i64.wrap ((1:Int)+i64.wrap ((n:Int)*(k:Int)))))
def w0 (n k:Nat):Int:=i64.wrap ((0:Int)+wN n k)
def mA (n:Nat):Int:=i64.wrap ((0:Int)+i64.wrap (i64.wrap (i64.wrap ((2:Int)+(n:Nat))+i64.wrap ((4:Int)*i64.wrap ((1:Int)-(1:Int))))+(3:Int)))
theorem UO (n c k att:Nat):
  b6 [0,2,11,12] [82,84,97] (aP prog (aW prog bT 60) 38 100000 (cA 1 (aT 1 da)) ([(0,.aa .i64 n),(1,.slice 1 0 1 1),(2,.ae 7 6 0 0 c c)]) ⟨mk [(1,.row false [.int .i64 8,.aa .i64 k,.aa .i64 att] 39 none)],64,0,0,True,[.br true,.br true,.br true,.br true,.br true,.br true,.br true,.br true,.br true,.br true,.br true,.br true,.br false,.br false,.br true,.br true,.br true,.br true,.br true,.br true,.br true,.br true,.br true,.br true,.br true,.br true,.br false,.br false,.br true,.br true,.br true,.br true,.br false]⟩)=
  some (.normal,[some (.aa .i64 (n:Nat)),some (.ae 7 6 0 0 c c),some (.aF 84 1 0 0 1 1),some (.aL 97 0 (w0 n k).toNat (w0 n k).toNat)],(((((((((((((((((((((((((((((((((((((((((((((((((((((((((True∧aq .geq (n:Nat) (1:Int)=true)∧aq .leq (n:Nat) (16:Int)=true)∧aq .geq (n:Nat) (1:Int)=true)∧aq .leq (n:Nat) (16:Int)=true)∧aq .geq (k:Nat) (1:Int)=true)∧aq .leq (k:Nat) (32:Int)=true)∧true=true)∧aq .leq (att:Nat) (3:Int)=true)∧aq .geq (n:Nat) (1:Int)=true)∧aq .leq (n:Nat) (16:Int)=true)∧aq .geq (k:Nat) (1:Int)=true)∧aq .leq (k:Nat) (32:Int)=true)∧true=true)∧true=true)∧true=true)∧true=true)∧true=true)∧aq .lss (wN n k) (0:Int)=false)∧aq .gtr (wN n k) (i64.wrap ((65536:Int)-(0:Int)))=false)∧true=true)∧aq .geq (n:Nat) (1:Int)=true)∧aq .leq (n:Nat) (16:Int)=true)∧aq .geq (n:Nat) (1:Int)=true)∧aq .leq (n:Nat) (16:Int)=true)∧aq .geq (k:Nat) (1:Int)=true)∧aq .leq (k:Nat) (32:Int)=true)∧true=true)∧aq .leq (att:Nat) (3:Int)=true)∧aq .geq (n:Nat) (1:Int)=true)∧aq .leq (n:Nat) (16:Int)=true)∧aq .geq (k:Nat) (1:Int)=true)∧aq .leq (k:Nat) (32:Int)=true)∧true=true)∧true=true)∧true=true)∧true=true)∧true=true)∧aq .lss (wN n k) (0:Int)=false)∧aq .gtr (wN n k) (i64.wrap ((65536:Int)-(0:Int)))=false)∧true=true)∧(0:Int)<=(w0 n k)∧(w0 n k)=(w0 n k)∧(w0 n k).toNat*8<=room∧(w0 n k).toNat<=maxLen)∧aq .geq (n:Nat) (1:Int)=true)∧aq .leq (n:Nat) (16:Int)=true)∧aq .geq (k:Nat) (1:Int)=true)∧aq .leq (k:Nat) (32:Int)=true)∧true=true)∧true=true)∧aq .gtr (1:Int) (i64.wrap ((1:Int)+i64.wrap ((n:Nat)*(k:Nat))))=false)∧true=true)∧true=true)∧true=true)∧true=true)∧(0:Int)<=(0:Int)∧(0:Int)<(↑(w0 n k).toNat:Int))∧(0:Nat)+Int.toNat (0:Int)*1<(List.replicate (w0 n k).toNat (AV.int .u64 (0:Int))).length)∧(0:Int)<=i64.wrap ((0:Int)+(1:Int))∧i64.wrap ((0:Int)+(1:Int))<(↑(w0 n k).toNat:Int))∧(0:Nat)+(i64.wrap ((0:Int)+(1:Int))).toNat*1<((List.replicate (w0 n k).toNat (AV.int .u64 (0:Int))).set ((0:Nat)+Int.toNat (0:Int)*1) (AV.int .u64 (1:Int))).length)∧(0:Int)<=(mA n)∧(mA n)<(↑(w0 n k).toNat:Int))∧(0:Nat)+(mA n).toNat*1<(((List.replicate (w0 n k).toNat (AV.int .u64 (0:Int))).set ((0:Nat)+Int.toNat (0:Int)*1) (AV.int .u64 (1:Int))).set ((0:Nat)+(i64.wrap ((0:Int)+(1:Int))).toNat*1) (AV.int .u64 (1:Int))).length,100,[64,65,66,67,68,69,70,71,72,73,74,75,76,77,78,79,80,81,82,83,84,85,86,87,88,89,90,91,92,93,94,95,96,97,98,99],[some (.row false [.int .i64 0,.aa .i64 (n:Nat),.aa .i64 (k:Nat),.aa .i64 (att:Nat),.int .i64 0,.int .i64 0,.int .i64 0,.int .i64 0,.int .i64 0,.int .i64 0,.int .i64 0,.int .i64 0,.int .i64 0,.int .i64 0,.int .i64 0,.int .i64 0,.int .i64 0,.int .i64 0,.int .i64 0,.int .i64 0] 192 none),some (.row false [.iface 162 (.ptr 82 0)] 107 (some 1)),some (.row true ((((List.replicate (w0 n k).toNat (AV.int .u64 (0:Int))).set ((0:Nat)+Int.toNat (0:Int)*1) (AV.int .u64 (1:Int))).set ((0:Nat)+(i64.wrap ((0:Int)+(1:Int))).toNat*1) (AV.int .u64 (1:Int))).set ((0:Nat)+(mA n).toNat*1) (AV.int .u64 (1:Int))) 40 none)]):=by kernel_rfl
section
variable {P:cv}
theorem DE (hn:P.n<=4) (hk:P.k<=32):P.n*P.k<=128:=Nat.le_trans (Nat.mul_le_mul hn hk) (by omega)
theorem DF (hn:P.n<=4) (hk:P.k<=32):sz P<=522:=by
 have:=DE hn hk
 unfold sz;omega
theorem wnk (hn:P.n<=4) (hk:P.k<=32):i64.wrap ((P.n:Int)*(P.k:Int))=((P.n*P.k:Nat):Int):=by
 have:=DE hn hk
 rw [<- Int.natCast_mul]
 exact wrap64 (by omega) (by omega)
theorem PM (hn:P.n<=4) (hk:P.k<=32):wN P.n P.k=((sz P:Nat):Int):=by
 have:=DE hn hk
 unfold wN sz
 rw [wnk hn hk]
 generalize P.n*P.k=m at*
 rw [wrap64 (x:=(2:Int)+(P.n:Nat)) (by omega) (by omega),wrap64 (x:=(1:Int)+(m:Nat)) (by omega) (by omega),wrap64 (x:=(4:Int)*(1+(m:Nat))) (by omega) (by omega),wrap64 (by omega) (by omega)]
 omega
theorem UR (hn:P.n<=4) (hk:P.k<=32):w0 P.n P.k=((sz P:Nat):Int):=by
 have:=DF hn hk
 unfold w0
 rw [PM hn hk,wrap64 (by omega) (by omega)]
 omega
theorem US {n:Nat} (hn:n<=4):mA n=((n+5:Nat):Int):=by
 unfold mA
 rw [wrap64 (x:=(2:Int)+(n:Nat)) (by omega) (by omega),show i64.wrap ((4:Int)*i64.wrap ((1:Int)-1))=0 by rfl,wrap64 (x:=(2:Int)+(n:Nat)+0) (by omega) (by omega),wrap64 (x:=(2:Int)+(n:Nat)+0+3) (by omega) (by omega),wrap64 (by omega) (by omega)]
 omega
def Kl (n lw:Nat):List AV:=(((List.replicate lw (AV.int .u64 0)).set 0 (.int .u64 1)).set 1 (.int .u64 1)).set (n+5) (.int .u64 1)
theorem wT (n lw:Nat):(Kl n lw).length=lw:=by simp [Kl]
theorem DG {n lw a:Nat} (h:a<lw):(Kl n lw)[a]?=some (.int .u64 (if a=0∨a=1∨a=n+5 then 1 else 0)):=by
 unfold Kl
 by_cases h3:a=n+5
 ·subst h3
  rw [List.getElem?_set_self (by simp;omega),if_pos (.inr (.inr rfl))]
 ·rw [List.getElem?_set_ne (λe=>h3 e.symm)]
  by_cases h1:a=1
  ·subst h1
   rw [List.getElem?_set_self (by simp;omega),if_pos (.inr (.inl rfl))]
  ·rw [List.getElem?_set_ne (λe=>h1 e.symm)]
   by_cases h0:a=0
   ·subst h0
    rw [List.getElem?_set_self (by simp;omega),if_pos (.inl rfl)]
   ·rw [List.getElem?_set_ne (λe=>h0 e.symm),if_neg (by omega),List.getElem?_replicate,if_pos h]
theorem tz (n lw:Nat):aR (λ_=>False) (Kl n lw):=by
 rw [cS]
 intro v hv
 obtain ⟨a,ha⟩:=List.mem_iff_getElem?.1 hv
 have dA:a<lw:=by
  have:=(List.getElem?_eq_some_iff.1 ha).1
  rwa [wT] at this
 rw [DG dA] at ha
 cases ha
 trivial
theorem wd0 {a:Nat}:wd P iA.M a=if a=0∨a=1∨a=P.n+5 then 1 else 0:=by
 unfold wd
 by_cases h0:a=0
 ·rw [if_pos h0,if_pos (.inl h0)];rfl
 rw [if_neg h0]
 by_cases h1:a=1
 ·rw [if_pos h1,if_pos (.inr (.inl h1))];rfl
 rw [if_neg h1]
 by_cases h2:a<2+P.n
 ·rw [if_pos h2,if_neg (by omega)];rfl
 rw [if_neg h2]
 by_cases h3:(a-2-P.n)%4=0
 ·rw [if_pos h3,if_neg (by omega)];rfl
 rw [if_neg h3]
 by_cases h4:(a-2-P.n)%4=1
 ·rw [if_pos h4,if_neg (by omega)];rfl
 rw [if_neg h4]
 by_cases h5:(a-2-P.n)%4=2
 ·rw [if_pos h5,if_neg (by omega)];rfl
 rw [if_neg h5]
 show (if (a-2-P.n)/4+1=1 then 1 else 0)=_
 by_cases h6:a=P.n+5
 ·rw [if_pos (by omega),if_pos (.inr (.inr h6))]
 ·rw [if_neg (by omega),if_neg (by omega)]
theorem Km (φ φ':bo):az φ (Kl P.n (sz P))=az φ' (aG P iA.M):=by
 rw [dq,dq]
 refine List.ext_getElem? λa=> ?_
 rw [List.getElem?_map,List.getElem?_map]
 by_cases h:a<sz P
 ·rw [DG h,cr h,wd0]
  show some (Value.int .u64 _)=some (Value.int .u64 _)
  split<;>rfl
 ·rw [List.getElem?_eq_none (by rw [wT];omega),List.getElem?_eq_none (by rw [sT];omega)]
  rfl
theorem RJ (hP:PB P) (hn:P.n<=4) (ha:P.att<=3) (c:Nat): ∃ oo pre,b6 [0,2,11,12] [82,84,97] (aP prog (aW prog bT 60) 38 100000 (cA 1 (aT 1 da)) [(0,.aa .i64 (P.n:Nat)),(1,.slice 1 0 1 1),(2,.ae 7 6 0 0 c c)] ⟨mk [(1,.row false [.int .i64 8,.aa .i64 (P.k:Nat),.aa .i64 (P.att:Nat)] 39 none)],64,0,0,True,oo⟩)=
  some (.normal,[some (.aa .i64 (P.n:Nat)),some (.ae 7 6 0 0 c c),some (.aF 84 1 0 0 1 1),some (.aL 97 0 (sz P) (sz P))],pre,100,[64,65,66,67,68,69,70,71,72,73,74,75,76,77,78,79,80,81,82,83,84,85,86,87,88,89,90,91,92,93,94,95,96,97,98,99],
   [some (.row false [.int .i64 0,.aa .i64 (P.n:Nat),.aa .i64 (P.k:Nat),.aa .i64 (P.att:Nat),.int .i64 0,.int .i64 0,.int .i64 0,.int .i64 0,.int .i64 0,.int .i64 0,.int .i64 0,.int .i64 0,.int .i64 0,.int .i64 0,.int .i64 0,.int .i64 0,.int .i64 0,.int .i64 0,.int .i64 0,.int .i64 0] 192 none),some (.row false [.iface 162 (.ptr 82 0)] 107 (some 1)),some (.row true (Kl P.n (sz P)) 40 none)])∧pre:=by
 have hv:=UO P.n c P.k P.att
 have e1:=UR hn hP.k.2
 have e2:=PM hn hP.k.2
 have e3:=US hn
 have e4:=wnk hn hP.k.2
 have hnk:=DE hn hP.k.2
 have fy:=DF hn hP.k.2
 have Jan:6+P.n<=sz P:=by unfold sz;omega
 have e5:i64.wrap ((0:Int)+1)=1:=rfl
 have e6:i64.wrap ((65536:Int)-0)=65536:=rfl
 have AQ:=hP.n.1
 have hk1:=hP.k.1
 have Y7:=hP.k.2
 simp only [e1,e2,e3,e4,e5,e6,Int.toNat_natCast,Nat.zero_add,Nat.mul_one,Int.toNat_zero,Int.toNat_one] at hv
 refine ⟨_,_,hv,?_⟩
 have e7:i64.wrap ((1:Int)+((P.n*P.k:Nat):Int))=((1+P.n*P.k:Nat):Int):=by rw [wrap64 (by omega) (by omega)];omega
 have g1:aq .geq (P.n:Int) 1=true:=by simp [aq]<;>omega
 have g2:aq .leq (P.n:Int) 16=true:=by simp [aq]<;>omega
 have g3:aq .geq (P.k:Int) 1=true:=by simp [aq]<;>omega
 have g4:aq .leq (P.k:Int) 32=true:=by simp [aq]<;>omega
 have g5:aq .leq (P.att:Int) 3=true:=by simp [aq]<;>omega
 have g6:aq .lss ((sz P:Nat):Int) 0=false:=by simp [aq]<;>omega
 have g7:aq .gtr ((sz P:Nat):Int) 65536=false:=by simp [aq]<;>omega
 have g8:aq .gtr 1 ((1+P.n*P.k:Nat):Int)=false:=by simp [aq]<;>omega
 rw [e7]
 simp only [g1,g2,g3,g4,g5,g6,g7,g8,and_true,true_and,List.length_replicate,List.length_set,kG,gy]
 omega
end
def UU (c:Code):Code:=cA 0 (aT 0 c)
def L1 (c:Code):Code:=cA 0 (UU c)
def L2 (c:Code):Code:=cA 0 (aT 1 (aT 1 c))
theorem Ja8 (n c pl:Nat):b6 [0,1,2,3] [] (aP prog (aW prog bT 60) 38 100000 (cA 0 da) (eG [.aa .i64 (n:Nat),.slice 1 0 1 1,.ae 7 6 0 0 c c,.ae 13 1 0 0 pl pl] 0) ⟨mk [],96,0,0,True,[]⟩)=
  some (.normal,[some (.aa .i64 (n:Nat)),some (.slice 1 0 1 1),some (.ae 7 6 0 0 c c),some (.ae 13 1 0 0 pl pl)],True,96,[],[]):=by kernel_rfl
theorem UW (n c pl:Nat):iG [14,15,16,0,1,2] [] (dI prog (aW prog bT 60) 38 (cB (L1 da)) ((cB (L1 da)).toList.take 3) [(0,.aa .i64 (n:Nat)),(1,.slice 1 0 1 1),(2,.ae 7 6 0 0 c c),(3,.ae 13 1 0 0 pl pl)] ⟨mk [],96,0,0,True,[]⟩)=
  some ([some (.aa .i64 (n:Nat)),some (.ae 7 6 0 0 c c),some (.ae 13 1 0 0 pl pl),some (.aa .i64 (n:Nat)),some (.slice 1 0 1 1),some (.ae 7 6 0 0 c c)],True,96,[],[]):=by kernel_rfl
theorem UX (n c:Nat):iG [10,0,1,2] [] (dI prog (aW prog bT 60) 38 (cB (L1 da)) ((cB (L1 da)).toList.drop 4) [(17,.int .i64 0),(0,.aa .i64 (n:Nat)),(1,.slice 1 0 1 1),(2,.ae 7 6 0 0 c c)] ⟨mk [],96,0,0,True,[]⟩)=
  some ([some (.int .i64 0),some (.aa .i64 (n:Nat)),some (.slice 1 0 1 1),some (.ae 7 6 0 0 c c)],True,96,[],[]):=by kernel_rfl
theorem UY (n c:Nat):b6 [0,1,2] [] (aP prog (aW prog bT 60) 38 100000 (OA (UU da)) [(10,.int .i64 0),(0,.aa .i64 (n:Nat)),(1,.slice 1 0 1 1),(2,.ae 7 6 0 0 c c)] ⟨mk [],64,0,0,True,[]⟩)=
  some (.normal,[some (.aa .i64 (n:Nat)),some (.slice 1 0 1 1),some (.ae 7 6 0 0 c c)],True,64,[],[]):=by kernel_rfl
theorem UZ (n c lw:Nat):iG [31,32,33,34] [] (dI prog (aW prog bT 60) 38 (cB (L2 da)) ((cB (L2 da)).toList.take 4) [(0,.aa .i64 (n:Nat)),(2,.ae 7 6 0 0 c c),(11,.aF 9 1 0 0 1 1),(12,.aL 11 0 lw lw)] ⟨mk [],96,0,0,True,[]⟩)=
  some ([some (.aa .i64 (n:Nat)),some (.aF 9 1 0 0 1 1),some (.aL 11 0 lw lw),some (.ae 7 6 0 0 c c)],True,96,[],[]):=by kernel_rfl
theorem U0:iG [8,9] [] (dI prog (aW prog bT 60) 38 (cB (L2 da)) ((cB (L2 da)).toList.drop 5) [(35,.eT [.ptr 0 0,.int .i64 0])] ⟨mk [],96,0,0,True,[]⟩)=
  some ([some (.ptr 0 0),some (.int .i64 0)],True,96,[],[]):=by kernel_rfl
theorem U1:iD prog Tryz.f21.results.toList [] (aP prog (aW prog bT 60) 38 100000 (aT 0 (aT 1 (aT 1 da))) [(8,.ptr 0 0),(9,.int .i64 0)] ⟨mk [],96,0,0,True,[]⟩)=
  some ([.ptr 0 0,.int .i64 0],True,96,[],[]):=by kernel_rfl
theorem B6:L1 da= .region 1 (cB (L1 da)) false∧(cB (L1 da)).size=3+2:=⟨by kernel_rfl,by kernel_rfl⟩
theorem RK: ∃ r,(cB (L1 da))[3]?=some r∧r.op= .call { callee:= .value (.func 25),args:= #[.tmp 14,.tmp 15,.tmp 16],argTypes:= #[3,23,24] }∧r.guard=none∧r.dst=some 17:=⟨((cB (L1 da))[3]?).getD default,by kernel_rfl,by kernel_rfl,by kernel_rfl,by kernel_rfl⟩
theorem B8:L2 da= .region 7 (cB (L2 da)) false∧(cB (L2 da)).size=4+5:=⟨by kernel_rfl,by kernel_rfl⟩
theorem RL: ∃ r,(cB (L2 da))[4]?=some r∧r.op= .call { callee:= .value (.func 27),args:= #[.tmp 31,.tmp 32,.tmp 33,.tmp 34],argTypes:= #[3,70,30,23] }∧r.guard=none∧r.dst=some 35:=⟨((cB (L2 da))[4]?).getD default,by kernel_rfl,by kernel_rfl,by kernel_rfl,by kernel_rfl⟩
theorem RM: ∃ fn,prog.funcs[25]?=some fn∧fn.body.isSome=true:=⟨_,Tryz.func25,by kernel_rfl⟩
theorem RN: ∃ fn,prog.funcs[27]?=some fn∧fn.body.isSome=true:=⟨_,Tryz.func27,by kernel_rfl⟩
section
variable {K:KC} {O:Nat->Option ak}
def nf (P:cv):ak:= .row false [.int .i64 8,.aa .i64 (P.k:Nat),.aa .i64 (P.att:Nat)] 39 none
def lI (K:KC) (O:Nat->Option ak) (b:Nat):Option ak:=
 if b=1 then some (nf K.P)
 else if b=7 then some (.row true (K.cs.flatMap bj) 42 (some 6))
 else if b=6∨(12<b∧b<16) then O b else none
theorem vq {b:Nat} {o:ak} (h:lI K O b=some o):(b=1∧o=nf K.P)∨(b=7∧o= .row true (K.cs.flatMap bj) 42 (some 6))∨((b=6∨(12<b∧b<16))∧O b=some o):=by
 unfold lI at h
 split at h
 ·exact .inl ⟨‹_›,(Option.some.inj h).symm⟩
 split at h
 ·exact .inr (.inl ⟨‹_›,(Option.some.inj h).symm⟩)
 split at h
 ·exact .inr (.inr ⟨‹_›,h⟩)
 ·cases h
theorem mI (hO: ∀ b o,O b=some o->o.aD λ_=>False): ∀ c o,lI K O c=some o->c<16∧DC c∧o.aD λ_=>False:=λc o h=>by
 rcases vq h with ⟨rfl,rfl⟩ | ⟨rfl,rfl⟩ | ⟨hb,h⟩
 ·exact ⟨by omega,⟨by omega,by omega,by omega⟩,trivial,trivial,trivial,trivial⟩
 ·exact ⟨by omega,⟨by omega,by omega,by omega⟩,cE K.cs⟩
 ·exact ⟨by omega,⟨by omega,by omega,by omega⟩,hO c o h⟩
theorem OH (hP:PB K.P) (hn:K.P.n<=4) (ha:K.P.att<=3) (jd: ∀ c∈K.cs,c.1<K.P.n) (dP:K.cs.length<=1000) {pl:Nat} (SZ:pl<=65536)
  (hO: ∀ b o,O b=some o->o.aD λ_=>False) {φ:bo} {w:World} (bx:cz κ (lI K O) φ w):
  Calls prog 21 (az φ [.aa .i64 (K.P.n:Nat),.slice 1 0 1 1,.ae 7 6 0 0 K.cs.length K.cs.length,.ae 13 1 0 0 pl pl]).toArray w (λe w'=> ∃ (φ':bo) (lm:List (Int×AV)),e= .returned (Jb1 φ' (.eT [.ptr 0 0,.int .i64 0]))∧cz κ (b7 K iA (OF K lm O)) φ' w'∧uv K.P.n K.cs K.cs.length lm∧ ∀ b,b=6∨b=7∨(12<b∧b<16)->φ' b=φ b):=by
 have AQ:1<=K.P.n∧K.P.n<=4:=⟨hP.n.1,hn⟩
 have pH:=mI (K:=K) hO
 have ky:uw (lI K O):=λc o h=>by
  obtain ⟨h1,h2,h3⟩:=pH c o h
  exact ⟨h2,by omega,bJ h3⟩
 have bn:=ky.low
 have Cy: ∀ c o,lI K O c=some o->c<64∧o.aD (· < 64):=λc o h=>by
  obtain ⟨h1,h2,h3⟩:=pH c o h
  exact ⟨by omega,bJ h3⟩
 refine iY Tryz.func21 (c:=Tryz.f21.body.getD .skip) (by kernel_rfl) (by show 4<=Tryz.f21.ntmps;rw [Tryz.ntmps21];omega) bx bn ?_ (λa bf=> ?_)
 ·exact ⟨trivial,by show 1<96;omega,by show 7<96;omega,by show 13<96;omega,trivial⟩
 rw [Tryz.ntmps21] at bf
 obtain ⟨cH,s1,de,bt,cb,Jb8,cG,_⟩:=aE (Ja8 K.P.n K.cs.length pl)
 have eg:s1.pre:=by rw [cb];exact True.intro
 refine cN (bX named mixed bd (nt:=38) 0 da 100000 _ _ _ _ (by kernel_rfl) de) bf bA eg (λφ1 w1 a1 fD bO=> ?_) _ (λa w h=>h)
 have ld:At κ (lI K O) 38 96 [(0,.aa .i64 (K.P.n:Nat)),(1,.slice 1 0 1 1),(2,.ae 7 6 0 0 K.cs.length K.cs.length),(3,.ae 13 1 0 0 pl pl)] φ1 w1 a1:=bO.Jb4 (bO.fit.bB (bV (λc o h=>(bn c o h).1) cG)) bn
  (ab ⟨_,ai bt 0 rfl rfl,rfl,trivial⟩<|ab ⟨_,ai bt 1 rfl rfl,rfl,by show 1<96;omega⟩<|ab ⟨_,ai bt 2 rfl rfl,rfl,by show 7<96;omega⟩<|ab ⟨_,ai bt 3 rfl rfl,rfl,by show 13<96;omega⟩ aC)
 refine fh (a:=UU da) (b:=aT 1 da) (by kernel_rfl) ?_
 refine fh (a:=L1 da) (b:=OA (UU da)) (by kernel_rfl) ?_
 obtain ⟨xo,s2,xc,gZ,kn,Lg,xx,_⟩:=cV (UW K.P.n K.cs.length pl)
 have Pf:s2.pre:=by rw [kn];exact True.intro
 refine jI named (sound named mixed bd 60) B6.1 B6.2 xc ld bA Pf (λφ2 w2 a2 Gg eM=> ?_)
 have kj:At κ (lI K O) 38 96 [(14,.aa .i64 (K.P.n:Nat)),(15,.ae 7 6 0 0 K.cs.length K.cs.length),(16,.ae 13 1 0 0 pl pl),(0,.aa .i64 (K.P.n:Nat)),(1,.slice 1 0 1 1),(2,.ae 7 6 0 0 K.cs.length K.cs.length)] φ2 w2 a2:=eM.Jb4 (eM.fit.bB (bV (λc o h=>(bn c o h).1) xx)) bn
  (ab ⟨_,ai gZ 0 rfl rfl,rfl,trivial⟩<|ab ⟨_,ai gZ 1 rfl rfl,rfl,by show 7<96;omega⟩<|ab ⟨_,ai gZ 2 rfl rfl,rfl,by show 13<96;omega⟩<|ab ⟨_,ai gZ 3 rfl rfl,rfl,trivial⟩<|ab ⟨_,ai gZ 4 rfl rfl,rfl,by show 1<96;omega⟩<|ab ⟨_,ai gZ 5 rfl rfl,rfl,by show 7<96;omega⟩ aC)
 rw [fC 3 1,wpOps_cons]
 obtain ⟨r,kO,kz,CA,CC⟩:=RK
 refine gz named RM kO kz CA (avs:=[.aa .i64 (K.P.n:Nat),.ae 7 6 0 0 K.cs.length K.cs.length,.ae 13 1 0 0 pl pl]) rfl kj (OE (H:=lI K O) AQ ky rfl jd dP SZ kj.fit) ?_
 rintro e w3 ⟨φ3,rfl,nN,xz⟩
 have YG: ∀ b,b<16->b≠4->b≠5->φ3 b=φ2 b:=λb h1 h2 h3=>xz b ⟨h2,h3,by omega⟩ (by omega)
 refine ⟨φ3,lI K O,96,.int .i64 0,[(0,.aa .i64 (K.P.n:Nat)),(1,.slice 1 0 1 1),(2,.ae 7 6 0 0 K.cs.length K.cs.length)],_,rfl,Nat.le_refl _,(λt u hu=> ?_),nN,bn,trivial,by rw [CC];rfl,λa3 lh=> ?_⟩
 ·have hm:=gh hu
  simp only [List.mem_cons,List.not_mem_nil,or_false,Prod.mk.injEq] at hm
  rcases hm with ⟨rfl,rfl⟩ | ⟨rfl,rfl⟩ | ⟨rfl,rfl⟩
  ·exact ⟨rfl,rfl⟩
  ·exact ⟨rfl,by simp only [Jb1,YG 1 (by omega) (by omega) (by omega)]⟩
  ·exact ⟨rfl,cI (YG 7 (by omega) (by omega) (by omega))⟩
 obtain ⟨Zl,s4,SK,FZ,K7,ZE,Th,_⟩:=cV (UX K.P.n K.cs.length)
 have Yz:s4.pre:=by rw [K7];exact True.intro
 refine Jc0 named (sound named mixed bd 60) (q:=4) (r:=1) B6.2 SK lh bA Yz (λφ4 w4 a4 xI ja=> ?_)
 have lP:At κ (lI K O) 38 64 [(10,.int .i64 0),(0,.aa .i64 (K.P.n:Nat)),(1,.slice 1 0 1 1),(2,.ae 7 6 0 0 K.cs.length K.cs.length)] φ4 w4 a4:=ja.Jb4 (ja.fit.bB (bV (λc o h=>(bn c o h).1) Th)) Cy
  (ab ⟨_,ai FZ 0 rfl rfl,rfl,trivial⟩<|ab ⟨_,ai FZ 1 rfl rfl,rfl,trivial⟩<|ab ⟨_,ai FZ 2 rfl rfl,rfl,by show 1<64;omega⟩<|ab ⟨_,ai FZ 3 rfl rfl,rfl,by show 7<64;omega⟩ aC)
 show (OA (UU da)).wp prog _ a4 w4
 obtain ⟨CH,s5,oC,gK,kp,Cx,lZ,_⟩:=aE (UY K.P.n K.cs.length)
 have Ax:s5.pre:=by rw [kp];exact True.intro
 refine cN ((bE named (cj mixed) (sound named mixed bd 60) (nt:=38) 100000).1 _ _ _ _ _ _ oC) lP bA Ax (K:=λa w=>(aT 1 da).wp prog _ a w) (λφ5 w5 a5 xe iO=> ?_) _ (λa w h=>h)
 have mQ:At κ (lI K O) 38 64 [(0,.aa .i64 (K.P.n:Nat)),(1,.slice 1 0 1 1),(2,.ae 7 6 0 0 K.cs.length K.cs.length)] φ5 w5 a5:=iO.Jb4 (iO.fit.bB (bV (λc o h=>(bn c o h).1) lZ)) Cy
  (ab ⟨_,ai gK 0 rfl rfl,rfl,trivial⟩<|ab ⟨_,ai gK 1 rfl rfl,rfl,by show 1<64;omega⟩<|ab ⟨_,ai gK 2 rfl rfl,rfl,by show 7<64;omega⟩ aC)
 obtain ⟨oo,pre,Zq,ZR⟩:=RJ hP hn ha K.cs.length
 obtain ⟨OY,s6,xn,uE,pI,O9,nC,ou⟩:=aE Zq
 have LB:s6.pre:=by rw [pI];exact ZR
 refine cN (bX named mixed bd (nt:=38) 1 (aT 1 da) 100000 _ _ _ _ (by kernel_rfl) xn) mQ (dC Cy (ab (by rfl) aC)) LB (λφ6 w6 a6 P2 ub=> ?_) _ (λa w h=>h)
 have hq:(iq K.P (ct iA)).aD λ_=>False:=kH
 have SL:=wS (cs:=K.cs) (tz K.P.n (sz K.P)) hq hO
 have Cr:=SL.low
 let φ7:bo:=λb=>φ6 (if b=9 then 84 else if b=11 then 97 else if b=12 then 82 else b)
 have Sy: ∀ b,b≠9->b≠11->b≠12->φ7 b=φ6 b:=λb h1 h2 h3=>by show φ6 (if b=9 then 84 else if b=11 then 97 else if b=12 then 82 else b)=φ6 b;rw [if_neg h1,if_neg h2,if_neg h3]
 have g82:after (lI K O) s6 82=s6.get 82:=bR nC (by omega) (by simp)
 have g84:after (lI K O) s6 84=s6.get 84:=bR nC (by omega) (by simp)
 have VA:after (lI K O) s6 97=s6.get 97:=bR nC (by omega) (by simp)
 have K8:cz κ (Kj K.cs (Kl K.P.n (sz K.P)) (iq K.P (ct iA)) O) φ7 w6:=by
  refine ub.fit.iQ (λb=>if b=9 then 84 else if b=11 then 97 else if b=12 then 82 else b) (λb d x y hb hd he=> ?_) (λb o' hb=> ?_)
  ·have low: ∀ {b:Nat} {o:ak},Kj K.cs (Kl K.P.n (sz K.P)) (iq K.P (ct iA)) O b=some o->b<16:=fun {b o} h=>by
    rcases nd h with ⟨h,_⟩ | ⟨h,_⟩ | ⟨h,_⟩ | ⟨h,_⟩ | ⟨h,_⟩<;>omega
   have h1:=low hb
   have h2:=low hd
   have ny:(if b=9 then 84 else if b=11 then 97 else if b=12 then 82 else b)=(if d=9 then 84 else if d=11 then 97 else if d=12 then 82 else d):=he
   repeat' split at ny
   all_goals omega
  ·rcases nd hb with ⟨rfl,rfl⟩ | ⟨rfl,rfl⟩ | ⟨rfl,rfl⟩ | ⟨rfl,rfl⟩ | ⟨oE,h⟩
   ·rw [if_neg (by omega),if_neg (by omega),if_neg (by omega),bY nC (by omega) (by simp)]
    exact ⟨_,rfl,bl (cE _)⟩
   ·rw [if_pos rfl,g84,ah ou 1 rfl rfl]
    exact ⟨_,rfl,rfl,rfl,rfl⟩
   ·rw [if_neg (by omega),if_pos rfl,VA,ah ou 2 rfl rfl]
    exact ⟨_,rfl,bl (tz _ _)⟩
   ·rw [if_neg (by omega),if_neg (by omega),if_pos rfl,g82,ah ou 0 rfl rfl]
    exact ⟨_,rfl,rfl,rfl,rfl⟩
   ·rw [if_neg (by omega),if_neg (by omega),if_neg (by omega),bY nC (by omega) (by simp;omega)]
    refine ⟨o',?_,bl (hO b o' h)⟩
    unfold lI
    rw [if_neg (by omega),if_neg (by omega),if_pos oE,h]
 have qH:At κ (Kj K.cs (Kl K.P.n (sz K.P)) (iq K.P (ct iA)) O) 38 96 [(0,.aa .i64 (K.P.n:Nat)),(2,.ae 7 6 0 0 K.cs.length K.cs.length),(11,.aF 9 1 0 0 1 1),(12,.aL 11 0 (sz K.P) (sz K.P))] φ7 w6 a6:=by
  refine ub.Jb4 K8 Cr ?_
  exact ab ⟨_,ai uE 0 rfl rfl,rfl,trivial⟩<|ab ⟨_,ai uE 1 rfl rfl,cI (Sy 7 (by omega) (by omega) (by omega)).symm,by show 7<96;omega⟩<|ab ⟨_,ai uE 2 rfl rfl,iE rfl,by show 9<96;omega⟩<|ab ⟨_,ai uE 3 rfl rfl,by simp only [Jb1];rfl,by show 11<96;omega⟩ aC
 refine fh (a:=L2 da) (b:=aT 0 (aT 1 (aT 1 da))) (by kernel_rfl) ?_
 obtain ⟨Zd,s8,Sz,FQ,Ln,ZS,Ti,_⟩:=cV (UZ K.P.n K.cs.length (sz K.P))
 have Za:s8.pre:=by rw [Ln];exact True.intro
 refine jI named (sound named mixed bd 60) B8.1 B8.2 Sz qH bA Za (λφ8 w8 a8 Wc Aw=> ?_)
 have D9:At κ (Kj K.cs (Kl K.P.n (sz K.P)) (iq K.P (ct iA)) O) 38 96 [(31,.aa .i64 (K.P.n:Nat)),(32,.aF 9 1 0 0 1 1),(33,.aL 11 0 (sz K.P) (sz K.P)),(34,.ae 7 6 0 0 K.cs.length K.cs.length)] φ8 w8 a8:=Aw.Jb4 (Aw.fit.bB (bV (λc o h=>(Cr c o h).1) Ti)) Cr
  (ab ⟨_,ai FQ 0 rfl rfl,rfl,trivial⟩<|ab ⟨_,ai FQ 1 rfl rfl,rfl,by show 9<96;omega⟩<|ab ⟨_,ai FQ 2 rfl rfl,rfl,by show 11<96;omega⟩<|ab ⟨_,ai FQ 3 rfl rfl,rfl,by show 7<96;omega⟩ aC)
 rw [fC 4 4,wpOps_cons]
 obtain ⟨r2,lX,D4,hq3,hq4⟩:=RL
 refine gz named RN lX D4 hq3 (avs:=[.aa .i64 (K.P.n:Nat),.aF 9 1 0 0 1 1,.aL 11 0 (sz K.P) (sz K.P),.ae 7 6 0 0 K.cs.length K.cs.length]) rfl D9 (OG AQ jd dP (tz K.P.n (sz K.P)) (wT _ _) (λφ φ'=>Km φ φ') (by have:=DF hn hP.k.2;omega) hO D9.fit) ?_
 rintro e w9 ⟨φ9,lm,rfl,Wv,qS,Y8⟩
 have ko:=lG hn (RI (K:=K) (O:=O) hn qS hO)
 refine ⟨φ9,b7 K iA (OF K lm O),96,.eT [.ptr 0 0,.int .i64 0],[],_,rfl,Nat.le_refl _,(λt u hu=>by cases hu),Wv,ko,(by unfold AV.aD;exact ⟨by show 0<96;omega,trivial,trivial⟩),by rw [hq4];rfl,λa9 Pg=> ?_⟩
 obtain ⟨Jae,s10,Vs,QE,S1,Jah,Wp,_⟩:=cV U0
 have Yp:s10.pre:=by rw [S1];exact True.intro
 refine Jc0 named (sound named mixed bd 60) (q:=5) (r:=4) B8.2 Vs Pg bA Yp (λφ10 w10 a10 Yv P4=> ?_)
 have TE:At κ (b7 K iA (OF K lm O)) 38 96 [(8,.ptr 0 0),(9,.int .i64 0)] φ10 w10 a10:=P4.Jb4 (P4.fit.bB (bV (λc o h=>(ko c o h).1) Wp)) ko (ab ⟨_,ai QE 0 rfl rfl,rfl,by show 0<96;omega⟩<|ab ⟨_,ai QE 1 rfl rfl,rfl,trivial⟩ aC)
 show (aT 0 (aT 1 (aT 1 da))).wp prog _ a10 w10
 obtain ⟨PZ,Jaf,s11,VJ,Yo,Wj,S5,SP,Tn,Jad,W5,XA,Z7⟩:=iZ U1
 have Wu:VJ.pre:=by rw [SP];exact True.intro
 refine kZ named mixed bd Wj TE bA (Tn Wu) (λφ11 w11 a11 Zo Qw ZJ=> ?_)
 refine ⟨by rcases Yo with rfl | rfl<;>first | exact .inl rfl | exact .inr rfl,_,_,_,φ11,s11,VJ,_,_,by rw [Tryz.ntmps21];exact Qw,ZJ,S5,Wu,.inr ⟨by simp,rfl⟩,?_⟩
 refine ⟨φ11,lm,rfl,Qw.fit.bB (bV (λc o h=>(ko c o h).1) W5),qS,λb hb=> ?_⟩
 have oE:b<16∧b≠9∧b≠11∧b≠12∧b≠4∧b≠5:=by omega
 rw [Zo b (by show b<96;omega),Yv b (by show b<96;omega),Y8 b hb,Wc b (by show b<96;omega),Sy b (by omega) (by omega) (by omega),P2 b (by show b<64;omega),xe b (by show b<64;omega),xI b (by show b<96;omega),YG b (by omega) (by omega) (by omega),Gg b (by show b<96;omega),fD b (by show b<96;omega)]
end
end
section
variable {κ:Ev.dE}
def eB:ak:= .row false [.au,.au,.int .i64 0,.int .i64 0,.int .i64 0,.int .i64 0,.int .i64 0,.int .i64 0,.int .i64 0] 34 none
def Fj (pl i:Nat):Env:=[(8,.ptr 6 0),(10,.ptr 0 0),(26,.ae 13 1 0 0 pl pl),(27,.aa .i64 pl),(28,.aa .i64 i)]
def U2 (pl:Nat) (i:Int):List (Option AV):=[some (.ptr 6 0),some (.ptr 0 0),some (.ae 13 1 0 0 pl pl),some (.aa .i64 pl),some (.aa .i64 i)]
def tA (c:Code):Code:=cA 0 (aT 2 c)
theorem Kn (pl i:Nat):b6 [8,10,26,27,28] [] (aP prog (aW prog bT 60) 38 100000 (cA 1 (bK (tA bG))) (Fj pl i) ⟨mk [],96,0,0,True,[.br true]⟩)=
  some (.normal,U2 pl i,True∧aq .lss i pl=true,96,[],[]):=by kernel_rfl
theorem OJ (pl i:Nat):b6 [8,10,26,27,28] [] (aP prog (aW prog bT 60) 38 100000 (bK (tA bG)) (Fj pl i) ⟨mk [],96,0,0,True,[.br false]⟩)=
  some (.exit 0,U2 pl i,True∧aq .lss i pl=false,96,[],[]):=by kernel_rfl
theorem Ko (pl i:Nat) (x:Int) (ps:List AV):b6 [8,10,26,27,28,13] [] (aP prog (aW prog bT 60) 38 100000 (cA 0 (TM (cA 0 (aT 1 (bK (tA bG)))))) (Fj pl i) ⟨mk [(13,.row true ps 3 (some 1))],96,0,0,True,[.val [.aa .i64 x]]⟩)=
  some (.normal,U2 pl i++[some (.aa .i64 x)],((True∧0+pl<=pl)∧(0:Int)<=i∧(i:Int)<pl)∧1=1∧ ∀ k:Nat,k<1->ps[(0+(i:Int).toNat)*1+k]?=[AV.aa .i64 x][k]?,96,[],[]):=by kernel_rfl
theorem Kp (pl i:Nat):b6 [8,10,26,27,28] [] (aP prog (aW prog bT 60) 38 100000 (aT 0 (aT 1 (bK (tA bG)))) (Fj pl i) ⟨mk [],96,0,0,True,[]⟩)=
  some (.normal,U2 pl (i64.wrap (i+1)),True∧true=true,96,[],[]):=by kernel_rfl
def L3 (c:Code):Code:=aT 0 (TM (cA 0 (aT 1 (bK (tA c)))))
theorem RO:L3 bG= .region 7 (cB (L3 bG)) false:=by kernel_rfl
def ux (c:Code) (i:Nat):Oper:=((cB (L3 c))[i]?).getD default
theorem r9:(cB (L3 bG)).size=3∧(cB (L3 bG))[0]?=some (ux bG 0)∧(cB (L3 bG))[1]?=some (ux bG 1)∧(cB (L3 bG))[2]?=some (ux bG 2):=
 ⟨by kernel_rfl,by kernel_rfl,by kernel_rfl,by kernel_rfl⟩
theorem RP (pl i:Nat) (x:Int) (s:St):nR prog (aW prog bT 60) (cB (L3 bG)) (ux bG 0) ((13,.aa .i64 x)::Fj pl i) s= .ok (.ptr 0 0) s:=by kernel_rfl
theorem RQ (pl i:Nat) (x:Int) (s:St):nR prog (aW prog bT 60) (cB (L3 bG)) (ux bG 1) ((32,.ptr 0 0)::(13,.aa .i64 x)::Fj pl i) s= .ok (.aa .i64 x) s:=by kernel_rfl
theorem B9 (e:Env) (v:AV):jE 38 (ux bG 0).dst v e=some ((32,v)::e)∧jE 38 (ux bG 1).dst v e=some ((33,v)::e)∧jE 38 (ux bG 2).dst v e=some ((34,v)::e):=⟨by kernel_rfl,by kernel_rfl,by kernel_rfl⟩
theorem Kq:(ux bG 2).op= .call { callee:= .value (.func 22),args:= #[.tmp 32,.tmp 33],argTypes:= #[63,3] }∧(ux bG 2).guard=none:=⟨by kernel_rfl,by kernel_rfl⟩
theorem RR: ∃ fn,prog.funcs[22]?=some fn∧fn.body.isSome=true:=⟨_,Tryz.func22,by kernel_rfl⟩
theorem RS (pl:Nat):b6 [8,10,26,27,28] [] (aP prog (aW prog bT 60) 38 100000 (cA 0 (tA bG)) [(3,.ae 13 1 0 0 pl pl),(8,.ptr 6 0),(10,.ptr 0 0)] ⟨mk [],96,0,0,True,[]⟩)=
  some (.normal,[some (.ptr 6 0),some (.ptr 0 0),some (.ae 13 1 0 0 pl pl),some (.aa .i64 pl),some (.int .i64 0)],True,96,[],[]):=by kernel_rfl
def Qs.lJ (K:KC) (s:Qs) (l:List Int):Qs:=l.foldl (λs th=>s.mH K th) s
theorem Fk {K:KC} {s:Qs} {th:Int} {u:Nat} (hu:K.P.n<=u):(s.mH K th).cur u=s.cur u:=by
 unfold Qs.mH
 cases hw:om K th with
 | none=>rfl
 | some t=>
  have ht:=(tu hw).2
  show (s.pick K.P K.V K.kd K.nc t).cur u=s.cur u
  unfold Qs.pick
  split
  ·exact (dR u (by omega)).2.1
  ·rfl
theorem bi0 {P:cv}:BI P 0 iA.M:=by
 refine ⟨by show (1:Nat)<_;omega,by show (1:Nat)<_;omega,λu=>⟨by show (0:Nat)<_;omega,Nat.le_refl _⟩,λp=>⟨by show (0:Nat)<_;omega,by show (0:Nat)<_;omega⟩,λp=>⟨by show (0:Nat)<_;omega,by show (0:Nat)<_;omega⟩,λp=>⟨by show (0:Nat)<_;omega,by show (0:Nat)<_;omega⟩,λp=> ?_,λp=> .inl rfl⟩
 show (if p=1 then 1 else 0)<=2*0+1
 split<;>omega
theorem mk0 {K:KC} (hN:LX K):MK K 0 iA:=
 ⟨⟨Xg,Ui hN.pb.n⟩,bi0,(λt _ o h=>by cases h),λt=>Nat.zero_le _,λu h=>absurd rfl h⟩
section
variable {K:KC} {O:Nat->Option ak} {ps:List Int}
def U3 (κ:Ev.dE) (K:KC) (O:Nat->Option ak) (ps:List Int) (φ0:bo) (i:Nat) (a:Act) (w:World):Prop:=
 ∃ (φ:bo) (s:Qs) (j:Jq),At κ (b7 K s j) 38 96 (Fj ps.length i) φ w a∧s=iA.lJ K (ps.take i)∧MK K i s∧kY K s j i∧j.oth=O∧(∀ u,K.P.n<=u->s.cur u=none)∧ ∀ b,b=7∨(12<b∧b<16)->φ b=φ0 b
theorem tB {H H':Nat->Option ak} {nx pl i:Nat} {k:Int} {env:Env} {φ:bo} {w:World} {a:Act} (bf:At κ H 38 nx env φ w a) (df:[8,10,26,27,28].map env.look=U2 pl k) (hk:k=i) (bx:cz κ H' φ w) (bn: ∀ c o,H' c=some o->c<96∧o.aD (· < 96)):At κ H' 38 96 (Fj pl i) φ w a:=by
 subst hk
 refine bf.Jb4 bx bn ?_
 exact ab ⟨_,ai df 0 rfl rfl,rfl,by show 6<96;omega⟩<|ab ⟨_,ai df 1 rfl rfl,rfl,by show 0<96;omega⟩<|ab ⟨_,ai df 2 rfl rfl,rfl,by show 13<96;omega⟩<|ab ⟨_,ai df 3 rfl rfl,rfl,trivial⟩<|ab ⟨_,ai df 4 rfl rfl,rfl,trivial⟩ aC
theorem RT (hN:LX K) (dP:K.cs.length<=1000) (vD:ps.length<=65536) (hO:O 13=some (.row true (ps.map λx=> .aa .i64 x) 3 (some 1))) {φ0:bo} {Q:Exit->Act->World->Prop}
  (hQ: ∀ a w,U3 κ K O ps φ0 ps.length a w->Q (.exit 0) a w): ∀ (k i:Nat),i+k=ps.length-> ∀ a w,U3 κ K O ps φ0 i a w->bh prog (bK (tA bG)) Q a w:=by
 have iN:=hN.n4
 have Wz: ∀ t,t<K.P.n->K.nc t<=1000:=λt _=>by
  have:(K.ix t).length<=(List.range K.cs.length).length:=List.length_filter_le _ _
  rw [List.length_range] at this
  exact Nat.le_trans this dP
 intro k
 induction k with
 | zero=>
  rintro i hi a w ⟨φ,s0,j,bf,hs,hm,hj,nz,SM,hφ⟩
  refine bh.of ?_
  have iS:i=ps.length:=by omega
  subst iS
  obtain ⟨env,s,cW,df,aQ,eP,dc,_⟩:=aE (OJ ps.length ps.length)
  have hP:s.pre:=by rw [aQ];exact ⟨True.intro,by simp [aq]⟩
  refine cN ((bE named (cj mixed) (sound named mixed bd 60) (nt:=38) 100000).1 _ _ _ _ _ _ cW) bf bA hP (K:=λa w=>Q (.exit 0) a w) (λφ' w' a' uF fN=> ?_) _ (λa w h=>h)
  exact hQ a' w' ⟨φ',s0,j,tB fN df rfl (fN.fit.bB (bV (λc o h=>(bf.ids c o h).1) dc)) (lG iN hj),hs,hm,hj,nz,SM,λb hb=>(uF b (by show b<96;omega)).trans (hφ b hb)⟩
 | succ k ih=>
  rintro i hi a w ⟨φ,s0,j,bf,hs,hm,hj,nz,SM,hφ⟩
  refine bh.of ?_
  have fQ:i<ps.length:=by omega
  obtain ⟨cH,s1,de,bt,cb,Jb8,cG,_⟩:=aE (Kn ps.length i)
  have eg:s1.pre:=by rw [cb];exact ⟨True.intro,by simp [aq];omega⟩
  refine cN (bX named mixed bd (nt:=38) 1 (bK (tA bG)) 100000 _ _ _ _ (by kernel_rfl) de) bf bA eg (K:=λa w=>(aT 1 (bK (tA bG))).wp prog (Exit.then (bh prog (bK (tA bG)) Q) Q) a w) (λφ1 w1 a1 fD bO=> ?_) _ (λa w h=>h)
  have ld:=tB bO bt rfl (bO.fit.bB (bV (λc o h=>(bf.ids c o h).1) cG)) (lG iN hj)
  refine fh (a:=cA 0 (aT 1 (bK (tA bG)))) (b:=aT 0 (aT 1 (bK (tA bG)))) (by kernel_rfl) ?_
  refine gk (id:=1) (b:=TM (cA 0 (aT 1 (bK (tA bG))))) (by kernel_rfl) ?_
  have hx:ps[i]?=some (ps[i]'fQ):=List.getElem?_eq_getElem fQ
  obtain ⟨xo,s2,xc,gZ,kn,Lg,xx,_⟩:=aE (Ko ps.length i (ps[i]'fQ) (ps.map λx=> .aa .i64 x))
  have Pf:s2.pre:=by
   rw [kn]
   refine ⟨⟨⟨True.intro,by omega⟩,by omega,by omega⟩,rfl,pg (k:=i) ?_ (by omega)⟩
   rw [List.getElem?_map,hx];rfl
  have hO2:b7 K s0 j 13=some (.row true (ps.map λx=> .aa .i64 x) 3 (some 1)):=by
   rw [dj (by omega)]
   show j.oth 13=_
   rw [nz,hO]
  refine cN (bX named mixed bd (nt:=38) 0 (TM (cA 0 (aT 1 (bK (tA bG))))) 100000 _ _ _ _ (by kernel_rfl) xc) ld (dC (lG iN hj) (ab hO2 aC)) Pf (K:=λa w=>(L3 bG).wp prog (Exit.inBlock 1 (Exit.then ((aT 0 (aT 1 (bK (tA bG)))).wp prog (Exit.then (bh prog (bK (tA bG)) Q) Q)) (Exit.then (bh prog (bK (tA bG)) Q) Q))) a w) (λφ2 w2 a2 Gg eM=> ?_) _ (λa w h=>h)
  have kj:At κ (b7 K s0 j) 38 96 ((13,.aa .i64 (ps[i]'fQ))::Fj ps.length i) φ2 w2 a2:=by
   refine eM.Jb4 (eM.fit.bB (bV (λc o h=>(bf.ids c o h).1) xx)) (lG iN hj) ?_
   exact ab ⟨_,ai gZ 5 rfl rfl,rfl,trivial⟩<|ab ⟨_,ai gZ 0 rfl rfl,rfl,by show 6<96;omega⟩<|ab ⟨_,ai gZ 1 rfl rfl,rfl,by show 0<96;omega⟩<|ab ⟨_,ai gZ 2 rfl rfl,rfl,by show 13<96;omega⟩<|ab ⟨_,ai gZ 3 rfl rfl,rfl,trivial⟩<|ab ⟨_,ai gZ 4 rfl rfl,rfl,trivial⟩ aC
  refine vh RO ?_
  rw [r9.1]
  show wpOps prog _ _ [0,1,2] a2 w2
  rw [wpOps_cons]
  refine cN (wq named (sound named mixed bd 60) (nt:=38) r9.2.1 (RP ps.length i (ps[i]'fQ) ⟨mk [],96,0,0,True,[]⟩) (B9 _ _).1) kj bA True.intro (λφ3 w3 a3 xz lh=> ?_) _
  rw [wpOps_cons]
  have pK:At κ (b7 K s0 j) 38 96 ((32,.ptr 0 0)::(13,.aa .i64 (ps[i]'fQ))::Fj ps.length i) φ3 w3 a3:=by rw [Jj] at lh;exact lh
  refine cN (wq named (sound named mixed bd 60) (nt:=38) r9.2.2.1 (RQ ps.length i (ps[i]'fQ) ⟨mk [],96,0,0,True,[]⟩) (B9 _ _).2.1) pK bA True.intro (λφ4 w4 a4 xI ja=> ?_) _
  have lP:At κ (b7 K s0 j) 38 96 ((33,.aa .i64 (ps[i]'fQ))::(32,.ptr 0 0)::(13,.aa .i64 (ps[i]'fQ))::Fj ps.length i) φ4 w4 a4:=by rw [Jj] at ja;exact ja
  rw [wpOps_cons]
  refine Jk named RR r9.2.2.2 Kq.1 Kq.2 (avs:=[.ptr 0 0,.aa .i64 (ps[i]'fQ)]) rfl lP (Fh hN (by omega) hm hj (by omega) dP Wz lP.fit (ps[i]'fQ)) ?_
  rintro e w5 ⟨φ5,j5,b5,rfl,xe,Lj,hj5,Vw⟩
  have Lr:=lG iN hj5
  refine ⟨φ5,b7 K (s0.mH K (ps[i]'fQ)) j5,96,.bool b5,_,rfl,Nat.le_refl _,?_,Lj,Lr,trivial,(B9 _ _).2.2,λa5 iO=> ?_⟩
  ·intro t u hu
   have hmm:=gh hu
   simp only [Fj,List.mem_cons,List.not_mem_nil,or_false,Prod.mk.injEq] at hmm
   have h0:=xe 0 (.inl rfl)
   have h6:=xe 6 (.inr (.inl rfl))
   have nO:=xe 13 (.inr (.inr (.inr ⟨by omega,by omega⟩)))
   rcases hmm with ⟨_,rfl⟩ | ⟨_,rfl⟩ | ⟨_,rfl⟩ | ⟨_,rfl⟩ | ⟨_,rfl⟩ | ⟨_,rfl⟩ | ⟨_,rfl⟩ | ⟨_,rfl⟩
   ·rfl
   ·simp only [Jb1,h0]
   ·rfl
   ·simp only [Jb1,h6]
   ·simp only [Jb1,h0]
   ·exact cI nO
   ·rfl
   ·rfl
  ·
   show (aT 0 (aT 1 (bK (tA bG)))).wp prog (Exit.then (bh prog (bK (tA bG)) Q) Q) a5 w5
   have mQ:At κ (b7 K (s0.mH K (ps[i]'fQ)) j5) 38 96 (Fj ps.length i) φ5 w5 a5:=iO.Jb4 iO.fit Lr (ab ⟨_,rfl,rfl,by show 6<96;omega⟩<|ab ⟨_,rfl,rfl,by show 0<96;omega⟩<|ab ⟨_,rfl,rfl,by show 13<96;omega⟩<|ab ⟨_,rfl,rfl,trivial⟩<|ab ⟨_,rfl,rfl,trivial⟩ aC)
   obtain ⟨OY,s6,xn,uE,pI,O9,nC,_⟩:=aE (Kp ps.length i)
   have LB:s6.pre:=by rw [pI];exact ⟨True.intro,rfl⟩
   refine cN ((bE named (cj mixed) (sound named mixed bd 60) (nt:=38) 100000).1 _ _ _ _ _ _ xn) mQ bA LB (K:=λa w=>bh prog (bK (tA bG)) Q a w) (λφ7 w7 a7 To qH=> ?_) _ (λa w h=>h)
   refine ih (i+1) (by omega) a7 w7 ⟨φ7,_,j5,?_,?_,Ka hN (by omega) hm _,hj5,Vw.trans nz,λu hu=> ?_,λb hb=> ?_⟩
   ·exact tB qH uE (by rw [wrap64 (by omega) (by omega)];omega) (qH.fit.bB (bV (λc o h=>(mQ.ids c o h).1) nC)) Lr
   ·rw [List.take_add_one,hx,hs]
    unfold Qs.lJ
    rw [List.foldl_append]
    rfl
   ·rw [Fk hu];exact SM u hu
   ·rw [To b (by show b<96;omega),xe b (.inr (.inr hb)),xI b (by show b<96;omega),xz b (by show b<96;omega),Gg b (by show b<96;omega),fD b (by show b<96;omega)]
    exact hφ b hb
end
end
section
variable {κ:Ev.dE}
def L4 (c:Code):Code:=cA 0 (aT 0 c)
theorem U4 (n c pl:Nat):b6 [0,1,2,3,8] [96] (aP prog (aW prog bT 60) 38 100000 (cA 0 bG) (eG [.aa .i64 (n:Nat),.slice 1 0 1 1,.ae 7 6 0 0 c c,.ae 13 1 0 0 pl pl] 0) ⟨mk [],96,0,0,True,[]⟩)=
  some (.normal,[some (.aa .i64 (n:Nat)),some (.slice 1 0 1 1),some (.ae 7 6 0 0 c c),some (.ae 13 1 0 0 pl pl),some (.ptr 96 0)],True,97,[96],[some eB]):=by kernel_rfl
theorem U5 (n c pl:Nat):iG [15,16,17,18,3,8] [] (dI prog (aW prog bT 60) 38 (cB (L4 bG)) ((cB (L4 bG)).toList.take 4) [(0,.aa .i64 (n:Nat)),(1,.slice 1 0 1 1),(2,.ae 7 6 0 0 c c),(3,.ae 13 1 0 0 pl pl),(8,.ptr 6 0)] ⟨mk [],96,0,0,True,[]⟩)=
  some ([some (.aa .i64 (n:Nat)),some (.slice 1 0 1 1),some (.ae 7 6 0 0 c c),some (.ae 13 1 0 0 pl pl),some (.ae 13 1 0 0 pl pl),some (.ptr 6 0)],True,96,[],[]):=by kernel_rfl
theorem U6 (pl:Nat):iG [10,11,3,8] [] (dI prog (aW prog bT 60) 38 (cB (L4 bG)) ((cB (L4 bG)).toList.drop 5) [(19,.eT [.ptr 0 0,.int .i64 0]),(3,.ae 13 1 0 0 pl pl),(8,.ptr 6 0)] ⟨mk [],96,0,0,True,[]⟩)=
  some ([some (.ptr 0 0),some (.int .i64 0),some (.ae 13 1 0 0 pl pl),some (.ptr 6 0)],True,96,[],[]):=by kernel_rfl
theorem U7 (pl:Nat):b6 [3,8,10] [] (aP prog (aW prog bT 60) 38 100000 (cA 0 (aT 1 bG)) [(11,.int .i64 0),(10,.ptr 0 0),(3,.ae 13 1 0 0 pl pl),(8,.ptr 6 0)] ⟨mk [],96,0,0,True,[]⟩)=
  some (.normal,[some (.ae 13 1 0 0 pl pl),some (.ptr 6 0),some (.ptr 0 0)],True,96,[],[]):=by kernel_rfl
theorem U8 (ev:AV) (cW:ev= .au∨ ∃ k,ev= .ae 8 8 0 0 k k) (c:Nat) (turn:Int) (ats cn:Nat->Int) (idle aA:Int) (inv:Nat->Int) (af:Nat->AV) (lw:Nat) (k0 k1 k2 k3 k4:Int) (words:List AV):
  iD prog Tryz.f15.results.toList [114] (aP prog (aW prog bT 60) 38 100000 (aT 0 (aT 2 bG)) [(8,.ptr 6 0),(10,.ptr 0 0)] ⟨mk [(0,.row false (PK (.aF 9 1 0 0 1 1) (.ae 7 6 0 0 c c) (.aa .i64 turn) (λ_=> .aX) (λu=> .aa .i64 (ats u)) ev .au (λi=> .aa .i64 (cn i)) idle) 83 none),(1,.row false (WL aA (λu=> .aa .i64 (inv u)) af) 92 none),(2,bQ lw k0 k1 k2 k3 k4),(3,.row true words 40 (some 1)),(6,eB)],96,0,0,True,[.br false]⟩)=
  some ([.agg [ev,.ae 114 1 0 0 lw lw,.aa .i64 k0,.aa .i64 k1,.aa .i64 k2,.aa .i64 k3,.aa .i64 k4,.aa .i64 aA,.aa .i64 idle],.int .i64 0],((True∧0+lw<=lw)∧0<lw∧lw*8<=room∧lw<=Go.maxLen)∧0*1+lw*1<=words.length,116,[0,6,96,97,98,99,100,101,102,103,104,105,106,107,108,109,110,111,112,113,114,115],[some (.row true (List.take (lw*1) (List.drop (0*1) words)) 40 (some 1))]):=by
 rcases cW with rfl | ⟨k,rfl⟩
 ·kernel_rfl
 ·kernel_rfl
theorem Ca:L4 bG= .region 1 (cB (L4 bG)) false∧(cB (L4 bG)).size=4+6:=⟨by kernel_rfl,by kernel_rfl⟩
theorem RU: ∃ r,(cB (L4 bG))[4]?=some r∧r.op= .call { callee:= .value (.func 21),args:= #[.tmp 15,.tmp 16,.tmp 17,.tmp 18],argTypes:= #[3,22,23,24] }∧r.guard=none∧r.dst=some 19:=⟨((cB (L4 bG))[4]?).getD default,by kernel_rfl,by kernel_rfl,by kernel_rfl,by kernel_rfl⟩
theorem RV: ∃ fn,prog.funcs[21]?=some fn∧fn.body.isSome=true:=⟨_,Tryz.func21,by kernel_rfl⟩
section
variable {K:KC} {O:Nat->Option ak} {ps:List Int}
def tC (K:KC) (s:Qs) (j:Jq) (O:Nat->Option ak) (b:Nat):Option ak:=
 if b=7 then some (.row true K.calls 42 (some 6))
 else if b=8 then (if j.evl=0 then none else some (.row true j.evs 48 (some 8)))
 else if b=20 then some (Jb5 (aG K.P s.M))
 else if 12<b∧b<16 then O b else none
theorem tD {s:Qs} {j:Jq} {b:Nat} {o:ak} (h:tC K s j O b=some o):(b=7∧o= .row true K.calls 42 (some 6))∨(b=8∧j.evl≠0∧o= .row true j.evs 48 (some 8))∨(b=20∧o=Jb5 (aG K.P s.M))∨((12<b∧b<16)∧O b=some o):=by
 unfold tC at h
 split at h
 ·exact .inl ⟨‹_›,(Option.some.inj h).symm⟩
 split at h
 ·split at h
  ·cases h
  ·rename_i _ e8 e
   exact .inr (.inl ⟨e8,e,(Option.some.inj h).symm⟩)
 split at h
 ·exact .inr (.inr (.inl ⟨‹_›,(Option.some.inj h).symm⟩))
 split at h
 ·exact .inr (.inr (.inr ⟨‹_›,h⟩))
 ·cases h
theorem k8 {s:Qs} {j:Jq} {k:Nat} (hj:kY K s j k) (hO: ∀ b o,O b=some o->o.aD λ_=>False): ∀ b o,tC K s j O b=some o->b<21∧o.aD λ_=>False:=λb o h=>by
 rcases tD h with ⟨rfl,rfl⟩ | ⟨rfl,_,rfl⟩ | ⟨rfl,rfl⟩ | ⟨hb,h⟩
 ·exact ⟨by omega,ka K⟩
 ·exact ⟨by omega,pq hj.evs⟩
 ·exact ⟨by omega,gT⟩
 ·exact ⟨by omega,hO b o h⟩
def uy (K:KC) (j:Jq):AV:= .agg [ju j,.ae 20 1 0 0 (sz K.P) (sz K.P),.aa .i64 (j.c 0),.aa .i64 (j.c 1),.aa .i64 (j.c 2),.aa .i64 (j.c 3),.aa .i64 (j.c 4),.aa .i64 j.aA,.aa .i64 j.idle]
theorem DH (j:Jq):ju j= .au∨ ∃ k,ju j= .ae 8 8 0 0 k k:=by
 unfold ju
 split
 ·exact .inl rfl
 ·exact .inr ⟨_,rfl⟩
theorem RX (hN:LX K) (ha:K.P.att<=3) (jd: ∀ c∈K.cs,c.1<K.P.n) (dP:K.cs.length<=1000) (vD:ps.length<=65536) (hO:O 13=some (.row true (ps.map λx=> .aa .i64 x) 3 (some 1))) (hO6:O 6=none)
  (Lq: ∀ b o,O b=some o->o.aD λ_=>False) (qM: ∀ u,u<K.P.n->(iA.lJ K ps).cur u=none) {φ:bo} {w:World} (bx:cz κ (lI K O) φ w):
  Calls prog 15 (az φ [.aa .i64 (K.P.n:Nat),.slice 1 0 1 1,.ae 7 6 0 0 K.cs.length K.cs.length,.ae 13 1 0 0 ps.length ps.length]).toArray w (λe w'=> ∃ (φ':bo) (j:Jq),e= .returned (Jb1 φ' (.eT [uy K j,.int .i64 0]))∧kY K (iA.lJ K ps) j ps.length∧cz κ (tC K (iA.lJ K ps) j O) φ' w'∧ ∀ b,b=7∨(12<b∧b<16)->φ' b=φ b):=by
 have hn:=hN.n4
 have hP:=hN.pb
 let O6:Nat->Option ak:=λb=>if b=6 then some eB else O b
 have SR: ∀ b o,O6 b=some o->o.aD λ_=>False:=λb o h=>by
  have h':(if b=6 then some eB else O b)=some o:=h
  split at h'
  ·obtain rfl:=Option.some.inj h'
   exact ⟨trivial,trivial,trivial,trivial,trivial,trivial,trivial,trivial,trivial,trivial⟩
  ·exact Lq b o h'
 have pH:=mI (K:=K) Lq
 have bn: ∀ c o,lI K O c=some o->c<96∧o.aD (· < 96):=λc o h=>by
  obtain ⟨h1,h2,h3⟩:=pH c o h
  exact ⟨by omega,bJ h3⟩
 have xA:=mI (K:=K) SR
 have pJ: ∀ c o,lI K O6 c=some o->c<96∧o.aD (· < 96):=λc o h=>by
  obtain ⟨h1,h2,h3⟩:=xA c o h
  exact ⟨by omega,bJ h3⟩
 refine iY Tryz.func15 (c:=Tryz.f15.body.getD .skip) (by kernel_rfl) (by show 4<=Tryz.f15.ntmps;rw [Tryz.ntmps15];omega) bx bn ?_ (λa bf=> ?_)
 ·exact ⟨trivial,by show 1<96;omega,by show 7<96;omega,by show 13<96;omega,trivial⟩
 rw [Tryz.ntmps15] at bf
 obtain ⟨cH,s1,de,bt,cb,Jb8,cG,dT⟩:=aE (U4 K.P.n K.cs.length ps.length)
 have eg:s1.pre:=by rw [cb];exact True.intro
 refine cN (bX named mixed bd (nt:=38) 0 bG 100000 _ _ _ _ (by kernel_rfl) de) bf bA eg (λφ1 w1 a1 fD bO=> ?_) _ (λa w h=>h)
 let φ2:bo:=λb=>φ1 (if b=6 then 96 else b)
 have nK: ∀ b,b≠6->φ2 b=φ1 b:=λb h=>by show φ1 (if b=6 then 96 else b)=φ1 b;rw [if_neg h]
 have TB:after (lI K O) s1 96=some eB:=(bR cG (by omega) (by simp)).trans (ah dT 0 rfl rfl)
 have tQ:cz κ (lI K O6) φ2 w1:=by
  refine bO.fit.iQ (λb=>if b=6 then 96 else b) (λb d x y hb hd he=> ?_) (λb o' hb=> ?_)
  ·have h1:=(xA b x hb).1
   have h2:=(xA d y hd).1
   have ny:(if b=6 then 96 else b)=(if d=6 then 96 else d):=he
   repeat' split at ny
   all_goals omega
  ·obtain ⟨dA,_,cC⟩:=xA b o' hb
   by_cases e:b=6
   ·subst e
    rw [if_pos rfl,TB]
    have:lI K O6 6=some eB:=rfl
    rw [this] at hb
    obtain rfl:=Option.some.inj hb
    exact ⟨_,rfl,bl cC⟩
   ·rw [if_neg e,bY cG (by omega) (by simp;omega)]
    refine ⟨o',?_,bl cC⟩
    rw [<- hb]
    unfold lI
    split
    ·rfl
    split
    ·rfl
    split
    ·show O b=if b=6 then some eB else O b
     rw [if_neg e]
    ·rfl
 have eM:At κ (lI K O6) 38 96 [(0,.aa .i64 (K.P.n:Nat)),(1,.slice 1 0 1 1),(2,.ae 7 6 0 0 K.cs.length K.cs.length),(3,.ae 13 1 0 0 ps.length ps.length),(8,.ptr 6 0)] φ2 w1 a1:=by
  refine bO.Jb4 tQ pJ ?_
  exact ab ⟨_,ai bt 0 rfl rfl,rfl,trivial⟩<|ab ⟨_,ai bt 1 rfl rfl,rfl,by show 1<96;omega⟩<|ab ⟨_,ai bt 2 rfl rfl,rfl,by show 7<96;omega⟩<|ab ⟨_,ai bt 3 rfl rfl,rfl,by show 13<96;omega⟩<|ab ⟨_,ai bt 4 rfl rfl,rfl,by show 6<96;omega⟩ aC
 refine fh (a:=L4 bG) (b:=aT 1 bG) (by kernel_rfl) ?_
 obtain ⟨Tb,s3,Cz,iL,tR,Tk,CD,_⟩:=cV (U5 K.P.n K.cs.length ps.length)
 have S3:s3.pre:=by rw [tR];exact True.intro
 refine jI named (sound named mixed bd 60) Ca.1 Ca.2 Cz eM bA S3 (λφ3 w3 a3 xz lh=> ?_)
 have pK:At κ (lI K O6) 38 96 [(15,.aa .i64 (K.P.n:Nat)),(16,.slice 1 0 1 1),(17,.ae 7 6 0 0 K.cs.length K.cs.length),(18,.ae 13 1 0 0 ps.length ps.length),(3,.ae 13 1 0 0 ps.length ps.length),(8,.ptr 6 0)] φ3 w3 a3:=lh.Jb4 (lh.fit.bB (bV (λc o h=>(pJ c o h).1) CD)) pJ
  (ab ⟨_,ai iL 0 rfl rfl,rfl,trivial⟩<|ab ⟨_,ai iL 1 rfl rfl,rfl,by show 1<96;omega⟩<|ab ⟨_,ai iL 2 rfl rfl,rfl,by show 7<96;omega⟩<|ab ⟨_,ai iL 3 rfl rfl,rfl,by show 13<96;omega⟩<|ab ⟨_,ai iL 4 rfl rfl,rfl,by show 13<96;omega⟩<|ab ⟨_,ai iL 5 rfl rfl,rfl,by show 6<96;omega⟩ aC)
 rw [fC 4 5,wpOps_cons]
 obtain ⟨r,kO,kz,CA,CC⟩:=RU
 refine gz named RV kO kz CA (avs:=[.aa .i64 (K.P.n:Nat),.slice 1 0 1 1,.ae 7 6 0 0 K.cs.length K.cs.length,.ae 13 1 0 0 ps.length ps.length]) rfl pK (OH hP hn ha jd dP vD SR pK.fit) ?_
 rintro e w4 ⟨φ4,lm,rfl,Al,qS,xI⟩
 have XB:=RI (K:=K) (O:=O6) hn qS SR
 have ko:=lG hn XB
 refine ⟨φ4,b7 K iA (OF K lm O6),96,.eT [.ptr 0 0,.int .i64 0],[(3,.ae 13 1 0 0 ps.length ps.length),(8,.ptr 6 0)],_,rfl,Nat.le_refl _,(λt u hu=> ?_),Al,ko,(by unfold AV.aD;exact ⟨by show 0<96;omega,trivial,trivial⟩),by rw [CC];rfl,λa4 ja=> ?_⟩
 ·have hm:=gh hu
  simp only [List.mem_cons,List.not_mem_nil,or_false,Prod.mk.injEq] at hm
  rcases hm with ⟨rfl,rfl⟩ | ⟨rfl,rfl⟩
  ·exact ⟨rfl,cI (xI 13 (.inr (.inr ⟨by omega,by omega⟩)))⟩
  ·exact ⟨rfl,by simp only [Jb1,xI 6 (.inl rfl)]⟩
 obtain ⟨CH,s5,oC,gK,kp,Cx,lZ,_⟩:=cV (U6 ps.length)
 have Ax:s5.pre:=by rw [kp];exact True.intro
 refine Jc0 named (sound named mixed bd 60) (q:=5) (r:=5) Ca.2 oC ja bA Ax (λφ5 w5 a5 xe iO=> ?_)
 have mQ:At κ (b7 K iA (OF K lm O6)) 38 96 [(11,.int .i64 0),(10,.ptr 0 0),(3,.ae 13 1 0 0 ps.length ps.length),(8,.ptr 6 0)] φ5 w5 a5:=iO.Jb4 (iO.fit.bB (bV (λc o h=>(ko c o h).1) lZ)) ko
  (ab ⟨_,ai gK 1 rfl rfl,rfl,trivial⟩<|ab ⟨_,ai gK 0 rfl rfl,rfl,by show 0<96;omega⟩<|ab ⟨_,ai gK 2 rfl rfl,rfl,by show 13<96;omega⟩<|ab ⟨_,ai gK 3 rfl rfl,rfl,by show 6<96;omega⟩ aC)
 show (aT 1 bG).wp prog _ a5 w5
 refine fh (a:=cA 0 (aT 1 bG)) (b:=aT 2 bG) (by kernel_rfl) ?_
 obtain ⟨OY,s6,xn,uE,pI,O9,nC,_⟩:=aE (U7 ps.length)
 have LB:s6.pre:=by rw [pI];exact True.intro
 refine cN ((bE named (cj mixed) (sound named mixed bd 60) (nt:=38) 100000).1 _ _ _ _ _ _ xn) mQ bA LB (K:=λa w=>(aT 2 bG).wp prog _ a w) (λφ6 w6 a6 P2 ub=> ?_) _ (λa w h=>h)
 have Lp:At κ (b7 K iA (OF K lm O6)) 38 96 [(3,.ae 13 1 0 0 ps.length ps.length),(8,.ptr 6 0),(10,.ptr 0 0)] φ6 w6 a6:=ub.Jb4 (ub.fit.bB (bV (λc o h=>(ko c o h).1) nC)) ko
  (ab ⟨_,ai uE 0 rfl rfl,rfl,by show 13<96;omega⟩<|ab ⟨_,ai uE 1 rfl rfl,rfl,by show 6<96;omega⟩<|ab ⟨_,ai uE 2 rfl rfl,rfl,by show 0<96;omega⟩ aC)
 refine fh (a:=tA bG) (b:=aT 0 (aT 2 bG)) (by kernel_rfl) ?_
 obtain ⟨Zr,s7,SG,Cw,Lh,Y1,TD,_⟩:=aE (RS ps.length)
 have YM:s7.pre:=by rw [Lh];exact True.intro
 refine cN (bX named mixed bd (nt:=38) 0 (tA bG) 100000 _ _ _ _ (by kernel_rfl) SG) Lp bA YM (λφ7 w7 a7 To qH=> ?_) _ (λa w h=>h)
 refine gk (id:=0) (b:= .loop (bK (tA bG))) (by kernel_rfl) ?_
 have YV:O6 13=some (.row true (ps.map λx=> .aa .i64 x) 3 (some 1)):=hO
 refine bh.wp (RT (κ:=κ) hN dP vD YV (φ0:=φ) (λa8 w8 h8=> ?_) ps.length 0 (by omega) a7 w7 ⟨φ7,iA,OF K lm O6,?_,rfl,mk0 hN,XB,rfl,λ_ _=>rfl,λb hb=> ?_⟩)
 ·
  show (aT 0 (aT 2 bG)).wp prog _ a8 w8
  obtain ⟨φ8,s,j,Aw,hs,hm,hj,nz,SM,Wc⟩:=h8
  rw [List.take_length] at hs
  have dU: ∀ u,s.cur u=none:=λu=>by
   by_cases hu:u<K.P.n
   ·rw [hs];exact qM u hu
   ·exact SM u (by omega)
  have xF:mK s=λ_=>AV.aX:=by funext u;unfold mK;rw [dU u];simp
  have hv:=U8 (ju j) (DH j) K.cs.length j.turn (λu=>(j.ats u:Int)) j.cn j.idle j.aA j.inv (dB j) (sz K.P) (j.c 0) (j.c 1) (j.c 2) (j.c 3) (j.c 4) (aG K.P s.M)
  obtain ⟨x9,Jam,s9,s9',hx9,ZD,VT,WE,WS,Jat,VS,SY,Jac⟩:=iZ hv
  have Ge:=sT K.P s.M
  have fy:=DF hn hP.k.2
  have SJ:0<sz K.P:=by unfold sz;omega
  have hP9:s9'.pre:=by
   rw [WE]
   exact ⟨⟨⟨True.intro,by omega⟩,SJ,by rw [kG];omega,by rw [gy];omega⟩,by omega⟩
  have QF:=lG hn hj
  have D9:At κ (b7 K s j) 38 96 [(8,.ptr 6 0),(10,.ptr 0 0)] φ8 w8 a8:=Aw.Jb4 Aw.fit QF (ab ⟨_,rfl,rfl,by show 6<96;omega⟩<|ab ⟨_,rfl,rfl,by show 0<96;omega⟩ aC)
  have eN: ∀ c o1,c<16->Fb K s j c=some o1->b7 K s j c=some o1:=λc o1 hc h=>by rw [dj hc];exact h
  have h6:b7 K s j 6=some eB:=eN 6 _ (by omega) (by show j.oth 6=_;rw [nz];rfl)
  have Ai: ∀ p∈([(0,ak.row false (PK (.aF 9 1 0 0 1 1) (.ae 7 6 0 0 K.cs.length K.cs.length) (.aa .i64 j.turn) (λ_=> .aX) (λu=> .aa .i64 (j.ats u:Nat)) (ju j) .au (λi=> .aa .i64 (j.cn i)) j.idle) 83 none),(1,.row false (WL j.aA (λu=> .aa .i64 (j.inv u)) (dB j)) 92 none),(2,bQ (sz K.P) (j.c 0) (j.c 1) (j.c 2) (j.c 3) (j.c 4)),(3,.row true (aG K.P s.M) 40 (some 1)),(6,eB)]:List (Nat×ak)),b7 K s j p.1=some p.2:=by
   refine ab (eN 0 _ (by omega) ?_)<|ab (eN 1 _ (by omega) rfl)<|ab (eN 2 _ (by omega) rfl)<|ab (eN 3 _ (by omega) rfl)<|ab h6 aC
   show some (Xo K s j)=_
   unfold Xo
   rw [xF]
   rfl
  refine kZ named mixed bd ZD D9 (dC QF Ai) (WS hP9) (λφ9 w9 a9 Y8 Pg hs9=> ?_)
  refine ⟨by rcases hx9 with rfl | rfl<;>first | exact .inl rfl | exact .inr rfl,_,_,_,φ9,s9,s9',_,_,by rw [Tryz.ntmps15];exact Pg,hs9,VT,hP9,.inr ⟨by simp,rfl⟩,?_⟩
  let φ10:bo:=λi=>φ9 (if i=20 then 114 else i)
  have WG: ∀ b,b≠20->φ10 b=φ9 b:=λb h=>by show φ9 (if b=20 then 114 else b)=φ9 b;rw [if_neg h]
  refine ⟨φ10,j,?_,by rw [<- hs];exact hj,?_,λb hb=> ?_⟩
  ·have e1:Jb1 φ9 (ju j)=Jb1 φ10 (ju j):=by
    unfold ju;split
    ·rfl
    ·exact cI (WG 8 (by omega)).symm
   have e2:Jb1 φ9 (.ae 114 1 0 0 (sz K.P) (sz K.P))=Jb1 φ10 (.ae 20 1 0 0 (sz K.P) (sz K.P)):=cI rfl
   unfold uy
   simp only [Jb1,az] at e1 e2 ⊢
   rw [e1,e2]
  ·rw [<- hs]
   refine Pg.fit.iQ (λi=>if i=20 then 114 else i) (λb d x y hb hd he=> ?_) (λb o' hb=> ?_)
   ·have h1:=(k8 hj Lq b x hb).1
    have h2:=(k8 hj Lq d y hd).1
    have ny:(if b=20 then 114 else b)=(if d=20 then 114 else d):=he
    split at ny<;>split at ny<;>omega
   ·have YQ: ∀ b,b<96->b≠0->b≠6->after (b7 K s j) s9 b=b7 K s j b:=λb hb h0 h6=>bY VS (by omega) (by simp;omega)
    have cC:=(k8 hj Lq b o' hb).2
    rcases tD hb with ⟨rfl,rfl⟩ | ⟨rfl,bq,rfl⟩ | ⟨rfl,rfl⟩ | ⟨oE,h⟩
    ·rw [if_neg (by omega),YQ 7 (by omega) (by omega) (by omega)]
     exact ⟨_,eN 7 _ (by omega) rfl,bl cC⟩
    ·rw [if_neg (by omega),YQ 8 (by omega) (by omega) (by omega)]
     exact ⟨_,eN 8 _ (by omega) (if_neg bq),bl cC⟩
    ·refine ⟨_,by rw [if_pos rfl];exact (bR VS (by omega) (by simp)).trans (ah SY 0 rfl rfl),?_⟩
     rw [Nat.zero_mul,List.drop_zero,Nat.mul_one,List.take_of_length_le (by omega)]
     exact bl cC
    ·rw [if_neg (by omega),YQ b (by omega) (by omega) (by omega)]
     have O7:b=13∨b=14∨b=15:=by omega
     have Qv:j.oth b=some o':=by
      rw [nz]
      show (if b=6 then some eB else O b)=_
      rw [if_neg (by omega)];exact h
     refine ⟨o',?_,bl cC⟩
     rcases O7 with rfl | rfl | rfl<;>exact eN _ _ (by omega) Qv
  ·rw [WG b (by omega),Y8 b (by show b<96;omega)]
   exact Wc b hb
 ·refine qH.Jb4 (qH.fit.bB (bV (λc o h=>(ko c o h).1) TD)) ko ?_
  exact ab ⟨_,ai Cw 0 rfl rfl,rfl,by show 6<96;omega⟩<|ab ⟨_,ai Cw 1 rfl rfl,rfl,by show 0<96;omega⟩<|ab ⟨_,ai Cw 2 rfl rfl,rfl,by show 13<96;omega⟩<|ab ⟨_,ai Cw 3 rfl rfl,rfl,trivial⟩<|ab ⟨_,ai Cw 4 rfl rfl,rfl,trivial⟩ aC
 ·rw [To b (by show b<96;omega),P2 b (by show b<96;omega),xe b (by show b<96;omega),xI b (by omega),xz b (by show b<96;omega),nK b (by omega),fD b (by show b<96;omega)]
end
end
section
variable {κ:Ev.dE}
def pz (n c pl:Nat):List AV:=[.aa .i64 (n:Nat),.slice 1 0 1 1,.ae 7 6 0 0 c c,.ae 13 1 0 0 pl pl]
def R8 (c:Code):Code:=cA 0 (aT 0 c)
theorem X5 (n c pl:Nat):b6 [2,1] [96,97] (aP prog (aW prog bT 60) 15 100000 (cA 0 kc) (eG [.agg (pz n c pl)] 0) ⟨mk [],96,0,0,True,[]⟩)=
  some (.normal,[some (.ptr 97 0),some (.ptr 96 0)],True,98,[96,97],[some (.row false (pz n c pl) 26 none),some eB]):=by kernel_rfl
theorem X6 (n c pl:Nat):iG [2,5,7,9,11] [] (dI prog (aW prog bT 60) 15 (cB (R8 kc)) ((cB (R8 kc)).toList.take 8) [(2,.ptr 97 0),(1,.ptr 96 0)] ⟨mk [(96,.row false (pz n c pl) 26 none)],98,0,0,True,[]⟩)=
  some ([some (.ptr 97 0),some (.aa .i64 (n:Nat)),some (.slice 1 0 1 1),some (.ae 7 6 0 0 c c),some (.ae 13 1 0 0 pl pl)],True,98,[],[]):=by kernel_rfl
theorem X7 (lw:Nat) (ev:AV) (cW:ev= .au∨ ∃ k,ev= .ae 8 8 0 0 k k) (k0 k1 k2 k3 k4 x y:Int):
  Kb prog Tryz.f8.results.toList (dI prog (aW prog bT 60) 15 (cB (R8 kc)) ((cB (R8 kc)).toList.drop 9) [(12,.eT [.agg [ev,.ae 20 1 0 0 lw lw,.aa .i64 k0,.aa .i64 k1,.aa .i64 k2,.aa .i64 k3,.aa .i64 k4,.aa .i64 x,.aa .i64 y],.int .i64 0]),(2,.ptr 15 0)] ⟨mk [(15,eB)],96,0,0,True,[]⟩)=
  some ([.agg [ev,.ae 20 1 0 0 lw lw,.aa .i64 k0,.aa .i64 k1,.aa .i64 k2,.aa .i64 k3,.aa .i64 k4,.aa .i64 x,.aa .i64 y],.int .i64 0],True,96,[15]):=by
 rcases cW with rfl | ⟨k,rfl⟩
 ·kernel_rfl
 ·kernel_rfl
theorem PN:R8 kc= .region 1 (cB (R8 kc)) false∧(cB (R8 kc)).size=8+5:=⟨by kernel_rfl,by kernel_rfl⟩
theorem U9: ∃ r,(cB (R8 kc))[8]?=some r∧r.op= .call { callee:= .value (.func 15),args:= #[.tmp 5,.tmp 7,.tmp 9,.tmp 11],argTypes:= #[3,22,23,24] }∧r.guard=none∧r.dst=some 12:=⟨((cB (R8 kc))[8]?).getD default,by kernel_rfl,by kernel_rfl,by kernel_rfl,by kernel_rfl⟩
theorem RY: ∃ fn,prog.funcs[15]?=some fn∧fn.body.isSome=true:=⟨_,Tryz.func15,by kernel_rfl⟩
section
variable {K:KC} {O:Nat->Option ak} {ps:List Int}
theorem Fl:eB.aD λ_=>False:=⟨trivial,trivial,trivial,trivial,trivial,trivial,trivial,trivial,trivial,trivial⟩
theorem Va (hN:LX K) (ha:K.P.att<=3) (jd: ∀ c∈K.cs,c.1<K.P.n) (dP:K.cs.length<=1000) (vD:ps.length<=65536) (hO:O 13=some (.row true (ps.map λx=> .aa .i64 x) 3 (some 1))) (hO6:O 6=none) (YJ:O 15=none)
  (Lq: ∀ b o,O b=some o->o.aD λ_=>False) (qM: ∀ u,u<K.P.n->(iA.lJ K ps).cur u=none) {φ:bo} {w:World} (bx:cz κ (lI K O) φ w):
  Calls prog 8 (az φ [.agg (pz K.P.n K.cs.length ps.length)]).toArray w (λe w'=> ∃ (φ':bo) (j:Jq),e= .returned (Jb1 φ' (.eT [uy K j,.int .i64 0]))∧kY K (iA.lJ K ps) j ps.length∧cz κ (tC K (iA.lJ K ps) j O) φ' w'∧ ∀ b,b=7∨(12<b∧b<15)->φ' b=φ b):=by
 have pH:=mI (K:=K) Lq
 have bn: ∀ c o,lI K O c=some o->c<96∧o.aD (· < 96):=λc o h=>by
  obtain ⟨h1,h2,h3⟩:=pH c o h
  exact ⟨by omega,bJ h3⟩
 have cC:aR (· < 96) [.agg (pz K.P.n K.cs.length ps.length)]:=by
  refine ⟨?_,trivial⟩
  unfold AV.aD
  exact ⟨trivial,by show 1<96;omega,by show 7<96;omega,by show 13<96;omega,trivial⟩
 refine iY Tryz.func8 (c:=Tryz.f8.body.getD .skip) (by kernel_rfl) (by show 1<=Tryz.f8.ntmps;rw [Tryz.ntmps8];omega) bx bn cC (λa bf=> ?_)
 rw [Tryz.ntmps8] at bf
 obtain ⟨cH,s1,de,bt,cb,Jb8,cG,dT⟩:=aE (X5 K.P.n K.cs.length ps.length)
 have eg:s1.pre:=by rw [cb];exact True.intro
 refine cN (bX named mixed bd (nt:=15) 0 kc 100000 _ _ _ _ (by kernel_rfl) de) bf bA eg (λφ1 w1 a1 fD bO=> ?_) _ (λa w h=>h)
 rw [Jb8] at bO
 have ld:At κ (after (lI K O) s1) 15 98 [(2,.ptr 97 0),(1,.ptr 96 0)] φ1 w1 a1:=bO.Jb4 bO.fit bO.ids (ab ⟨_,ai bt 0 rfl rfl,rfl,by show 97<98;omega⟩<|ab ⟨_,ai bt 1 rfl rfl,rfl,by show 96<98;omega⟩ aC)
 have S4:after (lI K O) s1 96=some (.row false (pz K.P.n K.cs.length ps.length) 26 none):=(bR cG (by omega) (by simp)).trans (ah dT 0 rfl rfl)
 have AO:after (lI K O) s1 97=some eB:=(bR cG (by omega) (by simp)).trans (ah dT 1 rfl rfl)
 have Ar: ∀ b,b<96->after (lI K O) s1 b=lI K O b:=λb hb=>bY cG (by omega) (by simp;omega)
 refine fh (a:=R8 kc) (b:= .ret) (by kernel_rfl) ?_
 obtain ⟨xo,s2,xc,gZ,kn,Lg,xx,_⟩:=cV (X6 K.P.n K.cs.length ps.length)
 have Pf:s2.pre:=by rw [kn];exact True.intro
 refine jI named (sound named mixed bd 60) PN.1 PN.2 xc ld (dC ld.ids (ab S4 aC)) Pf (λφ2 w2 a2 Gg eM=> ?_)
 let O':Nat->Option ak:=λb=>if b=15 then some eB else O b
 have Tu: ∀ b o,O' b=some o->o.aD λ_=>False:=λb o h=>by
  have h':(if b=15 then some eB else O b)=some o:=h
  split at h'
  ·obtain rfl:=Option.some.inj h';exact Fl
  ·exact Lq b o h'
 have xu:=mI (K:=K) Tu
 have V7: ∀ c o,lI K O' c=some o->c<96∧o.aD (· < 96):=λc o h=>by
  obtain ⟨h1,h2,h3⟩:=xu c o h
  exact ⟨by omega,bJ h3⟩
 let φ3:bo:=λi=>φ2 (if i=15 then 97 else i)
 have hs3: ∀ b,b≠15->φ3 b=φ2 b:=λb h=>by show φ2 (if b=15 then 97 else b)=φ2 b;rw [if_neg h]
 have nN:cz κ (lI K O') φ3 w2:=by
  refine (eM.fit.bB (H':=after (lI K O) s1) (λc o h=> ?_)).iQ (λi=>if i=15 then 97 else i) (λb d x y hb hd he=> ?_) (λb o' hb=> ?_)
  ·have dA:=(ld.ids c o h).1
   rw [bY xx (by omega) (by simp)];exact h
  ·have h1:=(xu b x hb).1
   have h2:=(xu d y hd).1
   have ny:(if b=15 then 97 else b)=(if d=15 then 97 else d):=he
   split at ny<;>split at ny<;>omega
  ·obtain ⟨dA,_,uD⟩:=xu b o' hb
   refine ⟨o',?_,bl uD⟩
   by_cases e:b=15
   ·subst e
    rw [if_pos rfl,AO]
    exact hb
   ·rw [if_neg e,Ar b (by omega),<- hb]
    unfold lI
    split
    ·rfl
    split
    ·rfl
    split
    ·show O b=if b=15 then some eB else O b
     rw [if_neg e]
    ·rfl
 have lh:At κ (lI K O') 15 96 [(2,.ptr 15 0),(5,.aa .i64 (K.P.n:Nat)),(7,.slice 1 0 1 1),(9,.ae 7 6 0 0 K.cs.length K.cs.length),(11,.ae 13 1 0 0 ps.length ps.length)] φ3 w2 a2:=by
  refine eM.Jb4 nN V7 ?_
  exact ab ⟨_,ai gZ 0 rfl rfl,rfl,by show 15<96;omega⟩<|ab ⟨_,ai gZ 1 rfl rfl,rfl,trivial⟩<|ab ⟨_,ai gZ 2 rfl rfl,rfl,by show 1<96;omega⟩<|ab ⟨_,ai gZ 3 rfl rfl,cI rfl,by show 7<96;omega⟩<|ab ⟨_,ai gZ 4 rfl rfl,cI rfl,by show 13<96;omega⟩ aC
 obtain ⟨r,kO,kz,CA,CC⟩:=U9
 rw [fC 8 4,wpOps_cons]
 have V8:O' 13=some (.row true (ps.map λx=> .aa .i64 x) 3 (some 1)):=hO
 refine gz named RY kO kz CA (avs:=[.aa .i64 (K.P.n:Nat),.slice 1 0 1 1,.ae 7 6 0 0 K.cs.length K.cs.length,.ae 13 1 0 0 ps.length ps.length]) rfl lh (RX hN ha jd dP vD V8 hO6 Tu qM nN) ?_
 rintro e w4 ⟨φ4,j,rfl,hj,Al,xI⟩
 have Ll:=k8 hj Tu
 have Qy: ∀ b o,tC K (iA.lJ K ps) j O' b=some o->b<96∧o.aD (· < 96):=λb o h=>⟨by have:=(Ll b o h).1;omega,bJ (Ll b o h).2⟩
 have VX:(ju j).aD (· < 96):=by
  unfold ju;split
  ·trivial
  ·show 8<96;omega
 refine ⟨φ4,tC K (iA.lJ K ps) j O',96,.eT [uy K j,.int .i64 0],[(2,.ptr 15 0)],_,rfl,Nat.le_refl _,λt u hu=> ?_,Al,Qy,?_,by rw [CC];rfl,λa5 iO=> ?_⟩
 ·have hm:=gh hu
  simp only [List.mem_cons,List.not_mem_nil,or_false,Prod.mk.injEq] at hm
  obtain ⟨rfl,rfl⟩:=hm
  exact ⟨rfl,by simp only [Jb1];rw [xI 15 (.inr ⟨by omega,by omega⟩)]⟩
 ·unfold AV.aD uy
  exact ⟨by unfold AV.aD;exact ⟨VX,by show 20<96;omega,trivial,trivial,trivial,trivial,trivial,trivial,trivial,trivial⟩,trivial,trivial⟩
 obtain ⟨OY,s6,VN,xn,Li,pI,Lm,O9,nC⟩:=BY (X7 (sz K.P) (ju j) (DH j) (j.c 0) (j.c 1) (j.c 2) (j.c 3) (j.c 4) j.aA j.idle)
 have LB:VN.pre:=by rw [pI];exact True.intro
 have CJ:tC K (iA.lJ K ps) j O' 15=some eB:=rfl
 have hl9:((cB (R8 kc)).toList.drop 9).length=4:=by kernel_rfl
 rw [show List.range' (8+1) 4=List.range' 9 ((cB (R8 kc)).toList.drop 9).length++[] by rw [hl9];rfl]
 refine UD (Jc7 named (sound named mixed bd 60) (nt:=15) _ 9 _ _ _ _ xn (λj hj=>by rw [List.getElem?_drop];simp)) iO (dC Qy (ab CJ aC)) (Lm LB)
  (K:=λa w=>wpOps prog (cB (R8 kc)) _ [] a w) (λφ7 w7 a7 To qH Sy=> ?_) _ [] (λa w h=>h)
 refine wp_ret ⟨.inr rfl,_,_,_,φ7,s6,VN,_,_,by rw [Tryz.ntmps8];exact qH,Sy,Li,LB,.inr ⟨by simp,rfl⟩,φ7,j,rfl,hj,?_,λb hb=> ?_⟩
 ·refine qH.fit.sub λb o hb=> ?_
  have dA:=(k8 hj Lq b o hb).1
  have e15:b≠15:=λe=>by
   subst e
   have:tC K (iA.lJ K ps) j O 15=O 15:=rfl
   rw [this,YJ] at hb;cases hb
  rw [bY nC (by omega) (by simp;omega),<- hb]
  unfold tC
  split
  ·rfl
  split
  ·rfl
  split
  ·rfl
  split
  ·show (if b=15 then some eB else O b)=O b
   rw [if_neg e15]
  ·rfl
 ·rw [To b (by show b<96;omega),xI b (by omega),hs3 b (by omega),Gg b (by show b<98;omega),fD b (by show b<96;omega)]
end
end
end Qk
end Go.Proofs.YtpkfimijnkkbjaaGreat
