/- The queue's small functions of numbers, as summaries. -/
import Derived.Test.YtpkfimijnkkbjaaGreatJ06
set_option linter.unusedVariables false
namespace Go.Proofs.YtpkfimijnkkbjaaGreat
namespace Qk
open Ev
open Go.IntKind (i64 u64)
open Go.Proofs.Tryz (prog)
section
variable {k:IntKind} {a b n:Int} {φ:bo}
def A7:Pure
 | [r]=>match iU r with
  | some x=>some (.eT [.aa .i64 (x%1024),.aa .u64 (x/1024)],rE x)
  | none=>none
 | _=>none
def sM:Pure
 | [r]=>match iU r with
  | some x=>some (.eT [.aa .u64 (x/1073741824),.aa .u64 (x%1073741824)],rE x)
  | none=>none
 | _=>none
def sN:Pure
 | [r]=>match iU r with
  | some x=>some (.eT [.aa .u64 (x/4294967296),.aa .u64 (x%4294967296)],rE x)
  | none=>none
 | _=>none
def A8:Pure
 | [a,b]=>match iU a,iU b with
  | some x,some r=>some (.eT [.aa .u64 (x%1073741824),.eS (x/1073741824==r/1024)],rE x∧rE r)
  | _,_=>none
 | _=>none
def QW:Pure
 | [a,b]=>match lA a,iU b with
  | some i,some v=>some (.eT [.aa .u64 (i+v*1024),.int .i64 0],(1<=i∧i<1024)∧0<=v∧v<1048576)
  | _,_=>none
 | _=>none
def A9:Pure
 | [a,b]=>match iU a,iU b with
  | some v,some l=>some (.eT [.aa .u64 (l+v*1073741824),.int .i64 0],(0<=l∧l<1073741824)∧0<=v∧v<1048576)
  | _,_=>none
 | _=>none
def Ba:Pure
 | [a,b]=>match iU a,iU b with
  | some v,some x=>some (.eT [.aa .u64 (x+v*4294967296),.int .i64 0],(0<=x∧x<16777216)∧0<=v∧v<1048576)
  | _,_=>none
 | _=>none
def Bb:Pure
 | [a,b]=>match iU a,iU b with
  | some r,some yW=>some (.aa .u64 (yW+r/1024*1073741824),(0<=r∧r<1073741824)∧0<=yW∧yW<1073741824)
  | _,_=>none
 | _=>none
def GO:Pure
 | [a,b]=>match iU a,iU b with
  | some d,some l=>some (.eT [.aa .u64 (d-(d/4%1073741824)*4+l*4),.int .i64 0],rE d∧0<=l∧l<1073741824)
  | _,_=>none
 | _=>none
def vU:Pure
 | [a,b]=>match iU a,iU b with
  | some d,some l=>some (.eT [.aa .u64 (d-d%2-(d/4%1073741824)*4+l*4),.int .i64 0],rE d∧0<=l∧l<1073741824)
  | _,_=>none
 | _=>none
def vV:Pure
 | [a]=>match iU a with
  | some d=>some (.agg [.eS (d%2==1),.eS (d/2%2==1),.aa .u64 (d/4%1073741824),.aa .u64 (d/4294967296)],rE d)
  | none=>none
 | _=>none
def Bc:Pure
 | [a,b,c]=>match iU a,iU b,c.LS with
  | some d,some ph,some (_,take)=>some (.eS ((d%2==1)&&((d/2%2==1)==take)&&(d/4294967296==ph)),rE d)
  | _,_,_=>none
 | _=>none
def GP:Pure
 | [.agg [p,t,l,h]]=>match p.LS,t.LS,iU l,iU h with
  | some (_,p),some (_,t),some l,some h=>some (.eT [.aa .u64 (gr p+gr t*2+l*4+h*4294967296),.int .i64 0],(0<=l∧l<1073741824)∧0<=h∧h<4294967296)
  | _,_,_,_=>none
 | _=>none
def Uc (n k:Int):Prop:=1<=n∧n<=16∧1<=k∧k<=32
def XM:Pure
 | [n,k,i,.int .i64 (.ofNat f)]=>match lA n,lA k,lA i with
  | some n,some k,some i=>match Nat.blt f 4 with
   | true=>some (.eT [.aa .i64 (2+n+4*(i-1)+f),.bool true],Uc n k∧1<=i∧i<=1+n*k)
   | false=>none
  | _,_,_=>none
 | _=>none
def Bd:Pure
 | [n,k,i]=>match lA n,lA k,lA i with
  | some n,some k,some i=>some (.eT [.aa .i64 ((i-2)/k),.bool true],Uc n k∧2<=i∧i<=1+n*k)
  | _,_,_=>none
 | _=>none
def Be:Pure
 | [.agg [B,n,k],r,.int .i64 (.ofNat f)]=>match lA B,lA n,lA k,iU r with
  | some B,some n,some k,some r=>match Nat.blt f 4 with
   | true=>some (.eT [.aa .i64 (B+(2+n+4*(r%1024-1)+f)),.bool true],Uc n k∧(0<=B∧B<=65536)∧rE r∧1<=r%1024∧r%1024<=1+n*k)
   | false=>none
  | _,_,_,_=>none
 | _=>none
def vW:Pure
 | [.agg [B,n,k],t]=>match lA B,lA n,lA k,lA t with
  | some B,some _,some _,some t=>some (.aa .i64 (B+2+t),(0<=B∧B<=65536)∧0<=t∧t<=16)
  | _,_,_,_=>none
 | _=>none
def vX:Pure
 | [.agg [B,n,k]]=>match lA B,lA n,lA k with
  | some B,some _,some _=>some (.aa .i64 (B+1),0<=B∧B<=65536)
  | _,_,_=>none
 | _=>none
theorem Er (r:Int):
  view [] (aW prog (du) 60 260 [.aa .u64 r] ⟨mk [],200,0,0,True,[]⟩)=
  some (.eT [.aa .i64 (i64.wrap (r.tmod 1024)),.aa .u64 (r.fdiv 1024)],(True∧true=true)∧true=true,200,[],[]):=by kernel_rfl
theorem yS (r:Int):
  view [] (aW prog (du) 60 253 [.aa .u64 r] ⟨mk [],200,0,0,True,[]⟩)=
  some (.eT [.aa .u64 (r.fdiv 1073741824),.aa .u64 (r.tmod 1073741824)],(True∧true=true)∧true=true,200,[],[]):=by kernel_rfl
theorem yT (r:Int):
  view [] (aW prog (du) 60 255 [.aa .u64 r] ⟨mk [],200,0,0,True,[]⟩)=
  some (.eT [.aa .u64 (r.fdiv 4294967296),.aa .u64 (r.tmod 4294967296)],(True∧true=true)∧true=true,200,[],[]):=by kernel_rfl
theorem Es (x r:Int) (p:Bool):
  view [] (aW prog (du) 60 250 [.aa .u64 x,.aa .u64 r] ⟨mk [],200,0,0,True,[.br p]⟩)=
  some (.eT [.aa .u64 (x.tmod 1073741824),.bool p],((((True∧true=true)∧true=true)∧true=true)∧true=true)∧aq .eql (x.fdiv 1073741824) (r.fdiv 1024)=p,200,[],[]):=by kernel_rfl
theorem MJ (i v:Int):
  view [] (aW prog (du) 60 244 [.aa .i64 i,.aa .u64 v] ⟨mk [],200,0,0,True,[.br false,.br false]⟩)=
  some (.eT [.aa .u64 (jh 1024 1048576 (jh 1 1024 0 (u64.wrap i)) v),.int .i64 (Int.ofNat 0)],(((True∧aq .lss i 1=false)∧aq .geq i 1024=false)∧((0:Int)<=0∧(0:Int)<=18446744073709551615)∧0<=u64.wrap i∧u64.wrap i<1024)∧(0<=jh 1 1024 0 (u64.wrap i)∧jh 1 1024 0 (u64.wrap i)<=18446744073709551615)∧0<=v∧v<1048576,203,[],[]):=by kernel_rfl
theorem Et (v l:Int):
  view [] (aW prog (du) 60 261 [.aa .u64 v,.aa .u64 l] ⟨mk [],200,0,0,True,[]⟩)=
  some (.eT [.aa .u64 (jh 1073741824 1048576 (jh 1 1073741824 0 l) v),.int .i64 (Int.ofNat 0)],(True∧((0:Int)<=0∧(0:Int)<=18446744073709551615)∧0<=l∧l<1073741824)∧(0<=jh 1 1073741824 0 l∧jh 1 1073741824 0 l<=18446744073709551615)∧0<=v∧v<1048576,203,[],[]):=by kernel_rfl
theorem Eu (v x:Int):
  view [] (aW prog (du) 60 246 [.aa .u64 v,.aa .u64 x] ⟨mk [],200,0,0,True,[]⟩)=
  some (.eT [.aa .u64 (jh 4294967296 1048576 (jh 16777216 256 (jh 1 16777216 0 x) 0) v),.int .i64 (Int.ofNat 0)],((True∧((0:Int)<=0∧(0:Int)<=18446744073709551615)∧0<=x∧x<16777216)∧(0<=jh 1 16777216 0 x∧jh 1 16777216 0 x<=18446744073709551615)∧(0:Int)<=0∧(0:Int)<256)∧(0<=jh 16777216 256 (jh 1 16777216 0 x) 0∧jh 16777216 256 (jh 1 16777216 0 x) 0<=18446744073709551615)∧0<=v∧v<1048576,204,[],[]):=by kernel_rfl
theorem Ew (r l:Int):
  view [] (aW prog (du) 60 247 [.aa .u64 r,.aa .u64 l] ⟨mk [],200,0,0,True,[]⟩)=
  some (.aa .u64 (jh 1073741824 1048576 (jh 1 1073741824 0 l) (r.fdiv 1024)),(((True∧true=true)∧true=true)∧((0:Int)<=0∧(0:Int)<=18446744073709551615)∧0<=l∧l<1073741824)∧(0<=jh 1 1073741824 0 l∧jh 1 1073741824 0 l<=18446744073709551615)∧0<=r.fdiv 1024∧r.fdiv 1024<1048576,203,[],[]):=by kernel_rfl
theorem GQ (d l:Int):
  view [] (aW prog (du) 60 274 [.aa .u64 d,.aa .u64 l] ⟨mk [],200,0,0,True,[]⟩)=
  some (.eT [.aa .u64 (jh 4 1073741824 d l),.int .i64 (Int.ofNat 0)],True∧(0<=d∧d<=18446744073709551615)∧0<=l∧l<1073741824,200,[],[]):=by kernel_rfl
theorem Bf (d l:Int):
  view [] (aW prog (du) 60 273 [.aa .u64 d,.aa .u64 l] ⟨mk [],200,0,0,True,[]⟩)=
  some (.eT [.aa .u64 (jh 4 1073741824 (u64.wrap (↑(BitVec.ofInt u64.bits d &&& ~~~BitVec.ofInt u64.bits 1).toNat:Int)) l),.int .i64 (Int.ofNat 0)],(True∧true=true)∧(0<=u64.wrap (↑(BitVec.ofInt u64.bits d &&& ~~~BitVec.ofInt u64.bits 1).toNat:Int)∧u64.wrap (↑(BitVec.ofInt u64.bits d &&& ~~~BitVec.ofInt u64.bits 1).toNat:Int)<=18446744073709551615)∧0<=l∧l<1073741824,200,[],[]):=by kernel_rfl
theorem Bg (d:Int) (p t:Bool):
  view [] (aW prog (du) 60 241 [.aa .u64 d] ⟨mk [],200,0,0,True,[.br p,.br t]⟩)=
  some (.agg [.bool p,.bool t,.aa .u64 (d/4%1073741824),.aa .u64 (d/4294967296%4294967296)],(((((True∧0<=d∧d<=18446744073709551615)∧0<=d∧d<=18446744073709551615)∧0<=d∧d<=18446744073709551615)∧0<=d∧d<=18446744073709551615)∧aq .eql (d/1%2) 1=p)∧aq .eql (d/2%2) 1=t,210,[],[]):=by kernel_rfl
theorem Ey (d h:Int) (a p t b:Bool):
  view [] (aW prog (du) 60 285 [.aa .u64 d,.aa .u64 h,.eS a] ⟨mk [],200,0,0,True,[.br p,.br t,.br b]⟩)=
  some (.bool b,((((((True∧0<=d∧d<=18446744073709551615)∧0<=d∧d<=18446744073709551615)∧0<=d∧d<=18446744073709551615)∧0<=d∧d<=18446744073709551615)∧aq .eql (d/1%2) 1=p)∧aq .eql (d/2%2) 1=t)∧(p==true&&(t==a&&(d/4%1073741824==d/4%1073741824&&(d/4294967296%4294967296==h&&true))))=b,211,[],[]):=by kernel_rfl
theorem GR (p t:Bool) (l h:Int):
  view [] (aW prog (du) 60 257 [.agg [.eS p,.eS t,.aa .u64 l,.aa .u64 h]] ⟨mk [],200,0,0,True,[]⟩)=
  some (.eT [.aa .u64 (jh 4294967296 4294967296 (jh 4 1073741824 (jh 2 2 (jh 1 2 0 (gr p)) (gr t)) l) h),.int .i64 (Int.ofNat 0)],(((((True∧True)∧True)∧((0:Int)<=0∧(0:Int)<=18446744073709551615)∧0<=gr p∧gr p<2)∧(0<=jh 1 2 0 (gr p)∧jh 1 2 0 (gr p)<=18446744073709551615)∧0<=gr t∧gr t<2)∧(0<=jh 2 2 (jh 1 2 0 (gr p)) (gr t)∧jh 2 2 (jh 1 2 0 (gr p)) (gr t)<=18446744073709551615)∧0<=l∧l<1073741824)∧(0<=jh 4 1073741824 (jh 2 2 (jh 1 2 0 (gr p)) (gr t)) l∧jh 4 1073741824 (jh 2 2 (jh 1 2 0 (gr p)) (gr t)) l<=18446744073709551615)∧0<=h∧h<4294967296,206,[],[]):=by kernel_rfl
theorem QX (f:Nat) (hf:f<4) (n k i:Int):
  view [] (aW prog (du) 60 94 [.aa .i64 n,.aa .i64 k,.aa .i64 i,.int .i64 (.ofNat f)] ⟨mk [],200,0,0,True,[.br true,.br true,.br true,.br true,.br false,.br false]⟩)=
  some (.eT [.aa .i64 (i64.wrap (i64.wrap (i64.wrap (2+n)+i64.wrap (4*i64.wrap (i-1)))+(.ofNat f))),.bool true],((((((((((((True∧aq .geq n 1=true)∧aq .leq n 16=true)∧aq .geq k 1=true)∧aq .leq k 32=true)∧aq .lss i 1=false)∧true=true)∧true=true)∧aq .gtr i (i64.wrap (1+i64.wrap (n*k)))=false)∧true=true)∧true=true)∧true=true)∧true=true)∧true=true,201,[],[]):=
 match f,hf with
 | 0,_ | 1,_ | 2,_ | 3,_=>by kernel_rfl
theorem Ez (n k i:Int):
  view [] (aW prog (du) 60 272 [.aa .i64 n,.aa .i64 k,.aa .i64 i] ⟨mk [],200,0,0,True,[.br true,.br true,.br true,.br true,.br false,.br false]⟩)=
  some (.eT [.aa .i64 (i64.wrap ((i64.wrap (i-2)).tdiv k)),.bool true],(((((((((True∧aq .geq n 1=true)∧aq .leq n 16=true)∧aq .geq k 1=true)∧aq .leq k 32=true)∧aq .lss i 2=false)∧true=true)∧true=true)∧aq .gtr i (i64.wrap (1+i64.wrap (n*k)))=false)∧true=true)∧(k != 0)=true,200,[],[]):=by kernel_rfl
theorem EA (f:Nat) (hf:f<4) (B n k r:Int):
  view [] (aW prog (du) 60 254 [.agg [.aa .i64 B,.aa .i64 n,.aa .i64 k],.aa .u64 r,.int .i64 (.ofNat f)] ⟨mk [],200,0,0,True,[.br true,.br true,.br true,.br true,.br false,.br false]⟩)=
  some (.eT [.aa .i64 (i64.wrap (B+i64.wrap (i64.wrap (i64.wrap (2+n)+i64.wrap (4*i64.wrap (i64.wrap (r.tmod 1024)-1)))+(.ofNat f)))),.bool true],(((((((((((((((True∧true=true)∧true=true)∧aq .geq n 1=true)∧aq .leq n 16=true)∧aq .geq k 1=true)∧aq .leq k 32=true)∧aq .lss (i64.wrap (r.tmod 1024)) 1=false)∧true=true)∧true=true)∧aq .gtr (i64.wrap (r.tmod 1024)) (i64.wrap (1+i64.wrap (n*k)))=false)∧true=true)∧true=true)∧true=true)∧true=true)∧true=true)∧true=true,202,[],[]):=
 match f,hf with
 | 0,_ | 1,_ | 2,_ | 3,_=>by kernel_rfl
theorem Bh (B n k t:Int):
  view [] (aW prog (du) 60 240 [.agg [.aa .i64 B,.aa .i64 n,.aa .i64 k],.aa .i64 t] ⟨mk [],200,0,0,True,[]⟩)=
  some (.aa .i64 (i64.wrap (i64.wrap (B+2)+t)),(True∧true=true)∧true=true,201,[],[]):=by kernel_rfl
theorem Bi (B n k:Int):
  view [] (aW prog (du) 60 248 [.agg [.aa .i64 B,.aa .i64 n,.aa .i64 k]] ⟨mk [],200,0,0,True,[]⟩)=
  some (.aa .i64 (i64.wrap (B+1)),True∧true=true,201,[],[]):=by kernel_rfl
theorem QY (h:a=b):Jb1 φ (.aa k a)=Jb1 φ (.aa k b):=by rw [h]
theorem QZ {k':IntKind} {a' b':Int} (h:a=b) (h':a'=b'):Jb1 φ (.eT [.aa k a,.aa k' a'])=Jb1 φ (.eT [.aa k b,.aa k' b']):=by rw [h,h']
theorem LU (h0:0<=n) (h:n<9223372036854775808):i64.wrap n=n:=by rw [IntKind.wrap_i64];omega
theorem XN (h0:0<=n) (h:n<18446744073709551616):u64.wrap n=n:=by rw [IntKind.wrap_u64];omega
theorem fd (a b:Int) (h:0<=b:=by decide):a.fdiv b=a/b:=Int.fdiv_eq_ediv_of_nonneg a h
theorem tm (b:Int) (h:0<=a):a.tmod b=a%b:=Int.tmod_eq_emod_of_nonneg h
theorem Pp (b:Bool):0<=gr b∧gr b<2:=by cases b<;>decide
theorem Q0 {k:Int} (q1:1<=n) (q2:n<=16) (q3:1<=k) (q4:k<=32):0<=n*k∧n*k<=512:=by
 have h1:n*k<=16*k:=Int.mul_le_mul_of_nonneg_right q2 (by omega)
 exact ⟨Int.mul_nonneg (by omega) (by omega),by omega⟩
theorem GS:dJ prog 260 A7:=⟨⟨_,Tryz.func260,by kernel_rfl⟩,λargs v q h=>by
 unfold A7 at h
 repeat' split at h
 all_goals first | cases h;done | skip
 rename_i x hx
 cases h
 refine ⟨λD=>by simp [AV.aD,aR],λφ w hq=> ?_⟩
 obtain ⟨q1,q2⟩:=hq
 exact fe dg (Er x) (by simp only [az,Jb1,(cg hx φ).1]) ⟨⟨True.intro,rfl⟩,rfl⟩ (QZ (by rw [tm _ q1,LU (by omega) (by omega)]) (fd ..))⟩
theorem Bj:dJ prog 253 sM:=⟨⟨_,Tryz.func253,by kernel_rfl⟩,λargs v q h=>by
 unfold sM at h
 repeat' split at h
 all_goals first | cases h;done | skip
 rename_i x hx
 cases h
 refine ⟨λD=>by simp [AV.aD,aR],λφ w hq=> ?_⟩
 obtain ⟨q1,q2⟩:=hq
 exact fe dg (yS x) (by simp only [az,Jb1,(cg hx φ).1]) ⟨⟨True.intro,rfl⟩,rfl⟩ (QZ (fd ..) (tm _ q1))⟩
theorem Bk:dJ prog 255 sN:=⟨⟨_,Tryz.func255,by kernel_rfl⟩,λargs v q h=>by
 unfold sN at h
 repeat' split at h
 all_goals first | cases h;done | skip
 rename_i x hx
 cases h
 refine ⟨λD=>by simp [AV.aD,aR],λφ w hq=> ?_⟩
 obtain ⟨q1,q2⟩:=hq
 exact fe dg (yT x) (by simp only [az,Jb1,(cg hx φ).1]) ⟨⟨True.intro,rfl⟩,rfl⟩ (QZ (fd ..) (tm _ q1))⟩
theorem GU:dJ prog 250 A8:=⟨⟨_,Tryz.func250,by kernel_rfl⟩,λargs v q h=>by
 unfold A8 at h
 repeat' split at h
 all_goals first | cases h;done | skip
 rename_i x r hx hy
 cases h
 refine ⟨λD=>by simp [AV.aD,aR],λφ w hq=> ?_⟩
 obtain ⟨⟨q1,q2⟩,q3,q4⟩:=hq
 exact fe dg (Es x r (x/1073741824==r/1024)) (by simp only [az,Jb1,(cg hx φ).1,(cg hy φ).1]) ⟨⟨⟨⟨⟨True.intro,rfl⟩,rfl⟩,rfl⟩,rfl⟩,by rw [fd _ 1073741824,fd _ 1024];first | done | rfl⟩ (by rw [tm _ q1];first | done | rfl)⟩
theorem Q1:dJ prog 244 QW:=⟨⟨_,Tryz.func244,by kernel_rfl⟩,λargs v q h=>by
 unfold QW at h
 repeat' split at h
 all_goals first | cases h;done | skip
 rename_i i v hx hy
 cases h
 refine ⟨λD=>by simp [AV.aD,aR],λφ w hq=> ?_⟩
 obtain ⟨⟨q1,q2⟩,q3,q4⟩:=hq
 have e:=XN (n:=i) (by omega) (by omega)
 exact fe dg (MJ i v) (by simp only [az,Jb1,(dr hx φ).1,(cg hy φ).1]) (by rw [e];simp only [jh]<;>((repeat' apply And.intro)<;>first | exact True.intro | rfl | omega | (exact decide_eq_true (by omega)) | (exact decide_eq_false (by omega)))) (sL (by rw [e];simp only [jh]<;>omega))⟩
theorem GV:dJ prog 261 A9:=⟨⟨_,Tryz.func261,by kernel_rfl⟩,λargs v q h=>by
 unfold A9 at h
 repeat' split at h
 all_goals first | cases h;done | skip
 rename_i v l hx hy
 cases h
 refine ⟨λD=>by simp [AV.aD,aR],λφ w hq=> ?_⟩
 obtain ⟨⟨q1,q2⟩,q3,q4⟩:=hq
 exact fe dg (Et v l) (by simp only [az,Jb1,(cg hx φ).1,(cg hy φ).1]) (by simp only [jh]<;>((repeat' apply And.intro)<;>first | exact True.intro | rfl | omega | (exact decide_eq_true (by omega)) | (exact decide_eq_false (by omega)))) (sL (by simp only [jh]<;>omega))⟩
theorem GW:dJ prog 246 Ba:=⟨⟨_,Tryz.func246,by kernel_rfl⟩,λargs v q h=>by
 unfold Ba at h
 repeat' split at h
 all_goals first | cases h;done | skip
 rename_i v x hx hy
 cases h
 refine ⟨λD=>by simp [AV.aD,aR],λφ w hq=> ?_⟩
 obtain ⟨⟨q1,q2⟩,q3,q4⟩:=hq
 exact fe dg (Eu v x) (by simp only [az,Jb1,(cg hx φ).1,(cg hy φ).1]) (by simp only [jh]<;>((repeat' apply And.intro)<;>first | exact True.intro | rfl | omega | (exact decide_eq_true (by omega)) | (exact decide_eq_false (by omega)))) (sL (by simp only [jh]<;>omega))⟩
theorem GX:dJ prog 247 Bb:=⟨⟨_,Tryz.func247,by kernel_rfl⟩,λargs v q h=>by
 unfold Bb at h
 repeat' split at h
 all_goals first | cases h;done | skip
 rename_i r l hx hy
 cases h
 refine ⟨λD=>by simp [AV.aD],λφ w hq=> ?_⟩
 obtain ⟨⟨q1,q2⟩,q3,q4⟩:=hq
 exact fe dg (Ew r l) (by simp only [az,Jb1,(cg hx φ).1,(cg hy φ).1]) (by rw [fd _ 1024];simp only [jh]<;>((repeat' apply And.intro)<;>first | exact True.intro | rfl | omega | (exact decide_eq_true (by omega)) | (exact decide_eq_false (by omega)))) (QY (by rw [fd _ 1024];simp only [jh]<;>omega))⟩
theorem GY:dJ prog 274 GO:=⟨⟨_,Tryz.func274,by kernel_rfl⟩,λargs v q h=>by
 unfold GO at h
 repeat' split at h
 all_goals first | cases h;done | skip
 rename_i d l hx hy
 cases h
 refine ⟨λD=>by simp [AV.aD,aR],λφ w hq=> ?_⟩
 exact fe dg (GQ d l) (by simp only [az,Jb1,(cg hx φ).1,(cg hy φ).1]) ⟨True.intro,hq.1,hq.2⟩ (sL rfl)⟩
theorem Bl:dJ prog 273 vU:=⟨⟨_,Tryz.func273,by kernel_rfl⟩,λargs v q h=>by
 unfold vU at h
 repeat' split at h
 all_goals first | cases h;done | skip
 rename_i d l hx hy
 cases h
 refine ⟨λD=>by simp [AV.aD,aR],λφ w hq=> ?_⟩
 obtain ⟨⟨q1,q2⟩,q3,q4⟩:=hq
 have e:u64.wrap ((BitVec.ofInt u64.bits d &&& ~~~BitVec.ofInt u64.bits 1).toNat:Int)=d-d%2:=(lz d 0 1 q1 (by omega) (by decide) _ (by decide)).trans (by omega)
 exact fe dg (Bf d l) (by simp only [az,Jb1,(cg hx φ).1,(cg hy φ).1]) (by rw [e];((repeat' apply And.intro)<;>first | exact True.intro | rfl | omega | (exact decide_eq_true (by omega)) | (exact decide_eq_false (by omega)))) (sL (by rw [e];simp only [jh]<;>omega))⟩
theorem EB:dJ prog 241 vV:=⟨⟨_,Tryz.func241,by kernel_rfl⟩,λargs v q h=>by
 unfold vV at h
 repeat' split at h
 all_goals first | cases h;done | skip
 rename_i d hx
 cases h
 refine ⟨λD=>by simp [AV.aD,aR],λφ w hq=> ?_⟩
 exact fe dg (Bg d (d%2==1) (d/2%2==1)) (by simp only [az,Jb1,(cg hx φ).1]) ⟨⟨⟨⟨⟨⟨True.intro,hq⟩,hq⟩,hq⟩,hq⟩,by rw [Int.ediv_one];first | done | rfl⟩,rfl⟩ (by obtain ⟨q1,q2⟩:=hq;rw [show d/4294967296%4294967296=d/4294967296 by omega];rfl)⟩
theorem GZ:dJ prog 285 Bc:=⟨⟨_,Tryz.func285,by kernel_rfl⟩,λargs v q h=>by
 unfold Bc at h
 repeat' split at h
 all_goals first | cases h;done | skip
 rename_i d ph _ take hx hy hz
 cases h
 refine ⟨λD=>by simp [AV.aD],λφ w hq=> ?_⟩
 exact fe dg (Ey d ph take (d%2==1) (d/2%2==1) ((d%2==1)&&((d/2%2==1)==take)&&(d/4294967296==ph))) (by simp only [az,Jb1,(cg hx φ).1,(cg hy φ).1,oS hz φ]) ⟨⟨⟨⟨⟨⟨⟨True.intro,hq⟩,hq⟩,hq⟩,hq⟩,by rw [Int.ediv_one];first | done | rfl⟩,rfl⟩,by obtain ⟨q1,q2⟩:=hq;rw [show d/4294967296%4294967296=d/4294967296 by omega];simp [Bool.and_assoc]⟩ (rfl)⟩
theorem G0:dJ prog 257 GP:=⟨⟨_,Tryz.func257,by kernel_rfl⟩,λargs v q h=>by
 unfold GP at h
 repeat' split at h
 all_goals first | cases h;done | skip
 rename_i _ p _ t l h hp ht hl hh
 cases h
 refine ⟨λD=>by simp [AV.aD,aR],λφ w hq=> ?_⟩
 obtain ⟨⟨q1,q2⟩,q3,q4⟩:=hq
 obtain ⟨b1,b2⟩:=Pp p
 obtain ⟨b3,b4⟩:=Pp t
 exact fe dg (GR p t l h) (by simp only [az,Jb1,(cg hl φ).1,(cg hh φ).1,oS hp φ,oS ht φ]) (by generalize gr p=x at *;generalize gr t=y at *;simp only [jh]<;>((repeat' apply And.intro)<;>first | exact True.intro | rfl | omega | (exact decide_eq_true (by omega)) | (exact decide_eq_false (by omega)))) (sL (by generalize gr p=x at *;generalize gr t=y at *;simp only [jh]<;>omega))⟩
theorem Ud:dJ prog 94 XM:=⟨⟨_,Tryz.func94,by kernel_rfl⟩,λargs v q h=>by
 unfold XM at h
 repeat' split at h
 all_goals first | cases h;done | skip
 rename_i f _ _ _ n k i hn hk hi _ hf
 cases h
 refine ⟨λD=>by simp [AV.aD,aR],λφ w hq=> ?_⟩
 obtain ⟨⟨q1,q2,q3,q4⟩,q5,q6⟩:=hq
 have hf4:f<4:=by simpa [Nat.blt_eq] using hf
 obtain ⟨b1,b2⟩:=Q0 q1 q2 q3 q4
 exact fe dg (QX f hf4 n k i) (by simp only [az,Jb1,(dr hn φ).1,(dr hk φ).1,(dr hi φ).1]) (by rw [LU b1 (by omega),LU (by omega) (by omega)];((repeat' apply And.intro)<;>first | exact True.intro | rfl | omega | (exact decide_eq_true (by omega)) | (exact decide_eq_false (by omega)))) (sL (by simp only [IntKind.wrap_i64,Int.ofNat_eq_natCast];omega))⟩
theorem G2:dJ prog 272 Bd:=⟨⟨_,Tryz.func272,by kernel_rfl⟩,λargs v q h=>by
 unfold Bd at h
 repeat' split at h
 all_goals first | cases h;done | skip
 rename_i n k i hn hk hi
 cases h
 refine ⟨λD=>by simp [AV.aD,aR],λφ w hq=> ?_⟩
 obtain ⟨⟨q1,q2,q3,q4⟩,q5,q6⟩:=hq
 obtain ⟨b1,b2⟩:=Q0 q1 q2 q3 q4
 have h1:(i-2)/k<=i-2:=Int.ediv_le_self _ (by omega)
 have h2:0<=(i-2)/k:=Int.ediv_nonneg (by omega) (by omega)
 exact fe dg (Ez n k i) (by simp only [az,Jb1,(dr hn φ).1,(dr hk φ).1,(dr hi φ).1]) (by rw [LU b1 (by omega),LU (n:=1+n*k) (by omega) (by omega)];((repeat' apply And.intro)<;>first | exact True.intro | rfl | (exact decide_eq_true (by omega)) | (exact decide_eq_false (by omega)) | (simp only [bne_iff_ne];omega))) (sL (by rw [LU (n:=i-2) (by omega) (by omega),Int.tdiv_eq_ediv_of_nonneg (by omega),LU h2 (by omega)]))⟩
theorem G3:dJ prog 254 Be:=⟨⟨_,Tryz.func254,by kernel_rfl⟩,λargs v q h=>by
 unfold Be at h
 repeat' split at h
 all_goals first | cases h;done | skip
 rename_i f _ _ _ _ B n k r hB hn hk hr _ hf
 cases h
 refine ⟨λD=>by simp [AV.aD,aR],λφ w hq=> ?_⟩
 obtain ⟨⟨q1,q2,q3,q4⟩,⟨q5,q6⟩,⟨q7,q8⟩,q9,q10⟩:=hq
 have hf4:f<4:=by simpa [Nat.blt_eq] using hf
 obtain ⟨b1,b2⟩:=Q0 q1 q2 q3 q4
 have e:i64.wrap (r.tmod 1024)=r%1024:=by rw [tm _ q7,LU (by omega) (by omega)]
 exact fe dg (EA f hf4 B n k r) (by simp only [az,Jb1,(dr hB φ).1,(dr hn φ).1,(dr hk φ).1,(cg hr φ).1]) (by rw [e,LU b1 (by omega),LU (n:=1+n*k) (by omega) (by omega)];((repeat' apply And.intro)<;>first | exact True.intro | rfl | omega | (exact decide_eq_true (by omega)) | (exact decide_eq_false (by omega)))) (sL (by rw [e];simp only [IntKind.wrap_i64,Int.ofNat_eq_natCast];omega))⟩
theorem EC:dJ prog 240 vW:=⟨⟨_,Tryz.func240,by kernel_rfl⟩,λargs v q h=>by
 unfold vW at h
 repeat' split at h
 all_goals first | cases h;done | skip
 rename_i B n k t hB hn hk ht
 cases h
 refine ⟨λD=>by simp [AV.aD],λφ w hq=> ?_⟩
 obtain ⟨⟨q1,q2⟩,q3,q4⟩:=hq
 exact fe dg (Bh B n k t) (by simp only [az,Jb1,(dr hB φ).1,(dr hn φ).1,(dr hk φ).1,(dr ht φ).1]) ⟨⟨True.intro,rfl⟩,rfl⟩ (QY (by simp only [IntKind.wrap_i64];omega))⟩
theorem ED:dJ prog 248 vX:=⟨⟨_,Tryz.func248,by kernel_rfl⟩,λargs v q h=>by
 unfold vX at h
 repeat' split at h
 all_goals first | cases h;done | skip
 rename_i B n k hB hn hk
 cases h
 refine ⟨λD=>by simp [AV.aD],λφ w hq=> ?_⟩
 exact fe dg (Bi B n k) (by simp only [az,Jb1,(dr hB φ).1,(dr hn φ).1,(dr hk φ).1]) ⟨True.intro,rfl⟩ (QY (by simp only [IntKind.wrap_i64];omega))⟩
theorem Bm (n k i:Int):
  view [] (aW prog (bT) 60 272 [.aa .i64 n,.aa .i64 k,.aa .i64 i] ⟨mk [],200,0,0,True,[.br true,.br true,.br true,.br true,.br true]⟩)=
  some (.eT [.int .i64 (Int.ofNat 0),.bool false],((((True∧aq .geq n (1:Int)=true)∧aq .leq n (16:Int)=true)∧aq .geq k (1:Int)=true)∧aq .leq k (32:Int)=true)∧aq .lss i (2:Int)=true,200,[],[]):=by kernel_rfl
theorem Bn (B n k r:Int):
  view [] (aW prog (bT) 60 254 [.agg [.aa .i64 B,.aa .i64 n,.aa .i64 k],.aa .u64 r,.int .i64 2] ⟨mk [],200,0,0,True,[.br true,.br true,.br true,.br true,.br true]⟩)=
  some (.eT [.aa .i64 (i64.wrap (B+(0:Int))),.bool false],(((((((True∧true=true)∧true=true)∧aq .geq n (1:Int)=true)∧aq .leq n (16:Int)=true)∧aq .geq k (1:Int)=true)∧aq .leq k (32:Int)=true)∧aq .lss (i64.wrap (r.tmod (1024:Int))) (1:Int)=true)∧true=true,202,[],[]):=by kernel_rfl
def vY:Pure
 | [.aa .i64 n,.aa .i64 k,.aa .i64 i]=>some (.eT [.int .i64 0,.bool false],Uc n k∧i<2)
 | _=>none
def vZ:Pure
 | [.agg [.aa .i64 B,.aa .i64 n,.aa .i64 k],.aa .u64 r,.int .i64 2]=>some (.eT [.aa .i64 (i64.wrap (B+0)),.bool false],Uc n k∧rE r∧r%1024<1)
 | _=>none
theorem EE:dJ prog 272 vY:=⟨⟨_,Tryz.func272,by kernel_rfl⟩,λargs v q h=>by
 unfold vY at h
 split at h
 ·cases h
  refine ⟨λD=>by simp [AV.aD,aR],λφ w hq=> ?_⟩
  obtain ⟨⟨q1,q2,q3,q4⟩,q5⟩:=hq
  exact mq (Bm _ _ _) bd ⟨⟨⟨⟨⟨trivial,decide_eq_true q1⟩,decide_eq_true q2⟩,decide_eq_true q3⟩,decide_eq_true q4⟩,decide_eq_true q5⟩ (λD=>by simp [AV.aD,aR]) (λD=>by simp [AV.aD,aR]) φ w
 ·cases h⟩
theorem EF:dJ prog 254 vZ:=⟨⟨_,Tryz.func254,by kernel_rfl⟩,λargs v q h=>by
 unfold vZ at h
 split at h
 ·rename_i B n k r
  cases h
  refine ⟨λD=>by simp [AV.aD,aR],λφ w hq=> ?_⟩
  obtain ⟨⟨q1,q2,q3,q4⟩,⟨q5,q6⟩,q7⟩:=hq
  have h1:i64.wrap (r.tmod (1024:Int))<1:=by
   have:r.tmod 1024=r%1024:=by rw [Int.tmod_eq_emod_of_nonneg q5]
   rw [this,IntKind.wrap_i64];omega
  exact mq (Bn _ _ _ _) bd ⟨⟨⟨⟨⟨⟨⟨⟨trivial,rfl⟩,rfl⟩,decide_eq_true q1⟩,decide_eq_true q2⟩,decide_eq_true q3⟩,decide_eq_true q4⟩,decide_eq_true h1⟩,rfl⟩ (λD=>by simp [AV.aD,aR]) (λD=>by simp [AV.aD,aR]) φ w
 ·cases h⟩
def Jd3 (g g0:Pure):List AV->St->eO AV:=λargs s=>match s with
 | ⟨h,n,r,w,p,.br true::oo⟩=>sK g args ⟨h,n,r,w,p,oo⟩
 | ⟨h,n,r,w,p,.br false::oo⟩=>sK g0 args ⟨h,n,r,w,p,oo⟩
 | _=> .fail []
theorem u4 {P:Program} {f:FuncId} {g g0:Pure} (hp:dJ P f g) (hp0:dJ P f g0): ∀ args s v s',Jd3 g g0 args s= .ok v s'->(∃ fn,P.funcs[f]?=some fn∧fn.body.isSome=true)∧
  ∃ R W,Sp s s' R W∧nG s s' R W (λD=>aR D args) (λD=>v.aD D)∧
   ∀ φ w,s'.pre->Fits s R φ w->l9 s R->aR (· < s.next) args->
    Calls P f (az φ args).toArray w (λe w'=> ∃ φ',e= .returned (Jb1 φ' v)∧dG s s' W φ φ' w w'):=by
 intro args s v s' h
 have key: ∀ {g:Pure},dJ P f g-> ∀ {h n r w p oo vA},sK g args ⟨h,n,r,w,p,oo⟩= .ok v s'->(∃ fn,P.funcs[f]?=some fn∧fn.body.isSome=true)∧
   ∃ R W,Sp ⟨h,n,r,w,p,vA⟩ s' R W∧nG ⟨h,n,r,w,p,vA⟩ s' R W (λD=>aR D args) (λD=>v.aD D)∧
    ∀ φ wd,s'.pre->Fits ⟨h,n,r,w,p,vA⟩ R φ wd->l9 ⟨h,n,r,w,p,vA⟩ R->aR (· < n) args->
     Calls P f (az φ args).toArray wd (λe w'=> ∃ φ',e= .returned (Jb1 φ' v)∧dG ⟨h,n,r,w,p,vA⟩ s' W φ φ' wd w'):=by
  intro g hp h n r w p oo vA hr
  obtain ⟨lW,R,W,sp,ids,nX⟩:=mn hp _ _ _ _ hr
  refine ⟨lW,R,W,⟨sp.next,sp.same,sp.sub,sp.rd,sp.wr,sp.rdm,sp.wrm,sp.lt,sp.made,sp.born,sp.pre⟩,λD aQ=>ids D aQ,λφ wd aQ hf ho ha=> ?_⟩
  refine (nX φ wd aQ ⟨hf.holds,hf.inj⟩ ho ha).mono ?_
  rintro e w' ⟨φ',he,hm⟩
  exact ⟨φ',he,hm.eH,hm.holds,hm.inj,hm.source,hm.frame,hm.size,hm.kept⟩
 unfold Jd3 at h
 split at h
 ·exact key hp h
 ·exact key hp0 h
 ·cases h
def v5:List (Nat×Pure):=[(260,A7),(253,sM),(255,sN),(250,A8),(244,QW),(261,A9),(246,Ba),
 (247,Bb),(274,GO),(273,vU),(241,vV),(285,Bc),(257,GP),(94,XM),
 (240,vW),(248,vX)]
def sO:kP:=λf=>match Nat.beq f 272 with
 | true=>some (Jd3 Bd vY)
 | false=>match Nat.beq f 254 with
  | true=>some (Jd3 Be vZ)
  | false=>match yR f v5 with
   | some p=>some (sK p)
   | none=>none
theorem G4: ∀ x∈v5,dJ prog x.1 x.2:=by
 intro x hx
 simp only [v5,List.mem_cons,List.not_mem_nil,or_false] at hx
 rcases hx with rfl | rfl | rfl | rfl | rfl | rfl | rfl | rfl | rfl | rfl | rfl | rfl | rfl | rfl | rfl | rfl
 ·exact GS
 ·exact Bj
 ·exact Bk
 ·exact GU
 ·exact Q1
 ·exact GV
 ·exact GW
 ·exact GX
 ·exact GY
 ·exact Bl
 ·exact EB
 ·exact GZ
 ·exact G0
 ·exact Ud
 ·exact EC
 ·exact ED
theorem EG:eu prog sO:=by
 intro f g hg args s v s' h
 unfold sO at hg
 split at hg
 ·rename_i hf
  cases hg
  rw [Nat.eq_of_beq_eq_true hf]
  exact u4 G2 EE args s v s' h
 split at hg
 ·rename_i hf
  cases hg
  rw [Nat.eq_of_beq_eq_true hf]
  exact u4 G3 EF args s v s' h
 split at hg
 ·rename_i p hp
  cases hg
  exact mn (G4 _ (p7 hp)) args s v s' h
 ·cases hg
def dw (l:List (Nat×Part)) (sm:kP):kP:=λf=>match l with
 | []=>sm f
 | (g,p)::l=>match Nat.beq f g with
  | true=>some (yP p)
  | false=>dw l sm f
theorem gu {P:Program} {sm:kP} (ij:eu P sm): ∀ {l:List (Nat×Part)},(∀ x∈l,bP P x.1 x.2)->eu P (dw l sm)
 | [],_=>ij
 | (g,p)::l,h=>by
  intro f G hG args s v s' hr
  unfold dw at hG
  split at hG
  ·rename_i e
   cases hG
   rw [Nat.eq_of_beq_eq_true e]
   exact yQ (h (g,p) (by simp)) args s v s' hr
  ·exact gu ij (λx hx=>h x (by simp [hx])) f G hG args s v s' hr
end
section
variable {ws:List AV} {i:Nat} {x y:Int} {D:Nat->Prop}
def bQ (lw:Nat) (c0 c1 c2 c3 c4:Int):ak:= .row false [.ae 3 1 0 0 lw lw,.aa .i64 c0,.aa .i64 c1,.aa .i64 c2,.aa .i64 c3,.aa .i64 c4,.kx] 129 none
def Jb5 (ws:List AV):ak:= .row true ws 40 (some 1)
theorem G5 (lw:Nat) (c0 c1 c2 c3 c4:Int) (ws:List AV) (x v:Int):
  view [2] (aW prog (bT) 60 136 [.ptr 2 0,.aa .i64 x] ⟨mk [(2,bQ lw c0 c1 c2 c3 c4),(3,.row true ws 40 (some 1))],200,0,0,True,[.br false,.br false,.val [.aa .u64 v],.val [.aa .u64 v]]⟩)=
  some (.aa .u64 v,((((((((True∧aq .lss x (0:Int)=false)∧aq .geq x (↑lw:Int)=false)∧true=true)∧(0:Nat)+lw<=lw)∧(0:Int)<=x∧x<(↑lw:Int))∧1=1∧ ∀ (i:Nat),i<(1:Nat)->ws[((0:Nat)+x.toNat)*(1:Nat)+i]?=[.aa .u64 v][i]?)∧(0:Nat)+lw<=lw)∧(0:Int)<=x∧x<(↑lw:Int))∧1=1∧ ∀ (i:Nat),i<(1:Nat)->ws[((0:Nat)+x.toNat)*(1:Nat)+i]?=[.aa .u64 v][i]?,201,[2],[some (.row false [.ae 3 1 0 0 lw lw,.aa .i64 (i64.wrap (c0+(1:Int))),.aa .i64 c1,.aa .i64 c2,.aa .i64 c3,.aa .i64 c4,.kx] 129 none)]):=by kernel_rfl
theorem EH (lw:Nat) (c0 c1 c2 c3 c4:Int) (ws:List AV) (x v y:Int):
  view [2,3] (aW prog (bT) 60 157 [.ptr 2 0,.aa .i64 x,.aa .u64 y] ⟨mk [(2,bQ lw c0 c1 c2 c3 c4),(3,.row true ws 40 (some 1))],200,0,0,True,[.br false,.br false,.val [.aa .u64 v]]⟩)=
  some (.eT [],((((((((True∧aq .lss x (0:Int)=false)∧aq .geq x (↑lw:Int)=false)∧true=true)∧(0:Nat)+lw<=lw)∧(0:Int)<=x∧x<(↑lw:Int))∧1=1∧ ∀ (i:Nat),i<(1:Nat)->ws[((0:Nat)+x.toNat)*(1:Nat)+i]?=[.aa .u64 v][i]?)∧(0:Nat)+lw<=lw)∧(0:Int)<=x∧x<(↑lw:Int))∧((0:Nat)+x.toNat)*(1:Nat)<ws.length,201,[2,3],[some (.row false [.ae 3 1 0 0 lw lw,.aa .i64 c0,.aa .i64 (i64.wrap (c1+(1:Int))),.aa .i64 c2,.aa .i64 c3,.aa .i64 c4,.kx] 129 none),some (.row true (ws.set (((0:Nat)+x.toNat)*(1:Nat)) (.aa .u64 y)) 40 (some 1))]):=by kernel_rfl
theorem EJ (lw:Nat) (c0 c1 c2 c3 c4:Int) (ws:List AV) (x v y z:Int):
  view [2,3] (aW prog (bT) 60 158 [.ptr 2 0,.aa .i64 x,.aa .u64 y,.aa .u64 z] ⟨mk [(2,bQ lw c0 c1 c2 c3 c4),(3,.row true ws 40 (some 1))],200,0,0,True,[.br false,.br false,.val [.aa .u64 v],.val [.aa .u64 v],.br true]⟩)=
  some (.bool true,((((((((((True∧aq .lss x (0:Int)=false)∧aq .geq x (↑lw:Int)=false)∧true=true)∧(0:Nat)+lw<=lw)∧(0:Int)<=x∧x<(↑lw:Int))∧1=1∧ ∀ (i:Nat),i<(1:Nat)->ws[((0:Nat)+x.toNat)*(1:Nat)+i]?=[.aa .u64 v][i]?)∧(0:Nat)+lw<=lw)∧(0:Int)<=x∧x<(↑lw:Int))∧1=1∧ ∀ (i:Nat),i<(1:Nat)->ws[((0:Nat)+x.toNat)*(1:Nat)+i]?=[.aa .u64 v][i]?)∧aq .eql v y=true)∧((0:Nat)+x.toNat)*(1:Nat)<ws.length,203,[2,3],[some (.row false [.ae 3 1 0 0 lw lw,.aa .i64 c0,.aa .i64 c1,.aa .i64 (i64.wrap (c2+(1:Int))),.aa .i64 c3,.aa .i64 c4,.kx] 129 none),some (.row true (ws.set (((0:Nat)+x.toNat)*(1:Nat)) (.aa .u64 z)) 40 (some 1))]):=by kernel_rfl
theorem EK (lw:Nat) (c0 c1 c2 c3 c4:Int) (ws:List AV) (x v y z:Int):
  view [2] (aW prog (bT) 60 158 [.ptr 2 0,.aa .i64 x,.aa .u64 y,.aa .u64 z] ⟨mk [(2,bQ lw c0 c1 c2 c3 c4),(3,.row true ws 40 (some 1))],200,0,0,True,[.br false,.br false,.val [.aa .u64 v],.val [.aa .u64 v],.br false]⟩)=
  some (.bool false,(((((((((True∧aq .lss x (0:Int)=false)∧aq .geq x (↑lw:Int)=false)∧true=true)∧(0:Nat)+lw<=lw)∧(0:Int)<=x∧x<(↑lw:Int))∧1=1∧ ∀ (i:Nat),i<(1:Nat)->ws[((0:Nat)+x.toNat)*(1:Nat)+i]?=[.aa .u64 v][i]?)∧(0:Nat)+lw<=lw)∧(0:Int)<=x∧x<(↑lw:Int))∧1=1∧ ∀ (i:Nat),i<(1:Nat)->ws[((0:Nat)+x.toNat)*(1:Nat)+i]?=[.aa .u64 v][i]?)∧aq .eql v y=false,203,[2],[some (.row false [.ae 3 1 0 0 lw lw,.aa .i64 c0,.aa .i64 c1,.aa .i64 (i64.wrap (c2+(1:Int))),.aa .i64 c3,.aa .i64 c4,.kx] 129 none)]):=by kernel_rfl
def CY (lw:Nat) (c0 c1 c2 c3 c4:Int) (ws:List AV) (x v:Int):Part:={ args:=[.ptr 2 0,.aa .i64 x],ins:=[(2,bQ lw c0 c1 c2 c3 c4),(3,Jb5 ws)],v:= .aa .u64 v,outs:=[(2,bQ lw (i64.wrap (c0+1)) c1 c2 c3 c4)],nx:=200,k:=0,q:=0<=x∧x<lw∧ws[x.toNat]?=some (.aa .u64 v) }
def p9 (lw:Nat) (c0 c1 c2 c3 c4:Int) (ws:List AV) (x y:Int):Part:={ args:=[.ptr 2 0,.aa .i64 x,.aa .u64 y],ins:=[(2,bQ lw c0 c1 c2 c3 c4),(3,Jb5 ws)],v:= .eT [],outs:=[(2,bQ lw c0 (i64.wrap (c1+1)) c2 c3 c4),(3,Jb5 (ws.set x.toNat (.aa .u64 y)))],nx:=200,k:=0,q:=0<=x∧x<lw∧ ∃ v,ws[x.toNat]?=some (.aa .u64 v) }
def rl (lw:Nat) (c0 c1 c2 c3 c4:Int) (ws:List AV) (x y z:Int) (b:Bool):Part:={ args:=[.ptr 2 0,.aa .i64 x,.aa .u64 y,.aa .u64 z],ins:=[(2,bQ lw c0 c1 c2 c3 c4),(3,Jb5 ws)],v:= .bool b,outs:=(2,bQ lw c0 c1 (i64.wrap (c2+1)) c3 c4)::(match b with | true=>[(3,Jb5 (ws.set x.toNat (.aa .u64 z)))] | false=>[]),nx:=200,k:=0,q:=0<=x∧x<lw∧ ∃ v,ws[x.toNat]?=some (.aa .u64 v)∧(v==y)=b }
theorem G6 {v:AV} (h:ws[i]?=some v): ∀ j:Nat,j<1->ws[(0+i)*1+j]?=[v][j]?:=λj hj=>by
 have:j=0:=by omega
 subst this
 simpa using h
theorem rU (h: ¬ x<y):aq .lss x y=false:=decide_eq_false h
theorem rV (h: ¬ x>=y):aq .geq x y=false:=decide_eq_false h
theorem dK {lw:Nat} {c0 c1 c2 c3 c4:Int} (h:D 3):(bQ lw c0 c1 c2 c3 c4).aD D:=by simp [bQ,ak.aD,aR,AV.aD,h]
theorem G7 (h:(Jb5 ws).aD D):(Jb5 (ws.set i (.aa .u64 y))).aD D:=by
 show aR D _
 have h:aR D ws:=h
 rw [cS] at h ⊢
 intro v hv
 rcases List.mem_or_eq_of_mem_set hv with hv | hv
 ·exact h v hv
 ·rw [hv];trivial
theorem EL (lw:Nat) (c0 c1 c2 c3 c4:Int) (ws:List AV) (x v:Int):bP prog 136 (CY lw c0 c1 c2 c3 c4 ws x v):=by
 refine cK named mixed bd ⟨_,Tryz.func136,by kernel_rfl⟩ (λ⟨h0,h1,h2⟩=> ?_) (λ_ D _ hi _=>⟨trivial,λu hu=> ?_⟩)
 ·have hl:=G6 h2
  have Wl:x.toNat<ws.length:=(List.getElem?_eq_some_iff.1 h2).1
  exact bs (G5 lw c0 c1 c2 c3 c4 ws x v) (by (repeat' apply And.intro);all_goals first | trivial | exact rU (by omega) | exact rV (by omega) | exact hl | omega) rfl rfl [2,3] rfl rfl rfl
 ·simp only [CY,List.mem_cons,List.not_mem_nil,or_false] at hu
  have h2:=hi (2,bQ lw c0 c1 c2 c3 c4) (by simp [CY])
  simp only [bQ,ak.aD,aR,AV.aD] at h2
  subst hu
  exact dK h2.1
theorem Bo (lw:Nat) (c0 c1 c2 c3 c4:Int) (ws:List AV) (x y:Int):bP prog 157 (p9 lw c0 c1 c2 c3 c4 ws x y):=by
 refine cK named mixed bd ⟨_,Tryz.func157,by kernel_rfl⟩ (λ⟨h0,h1,v,h2⟩=> ?_) (λ_ D _ hi _=>⟨trivial,λu hu=> ?_⟩)
 ·have Wl:x.toNat<ws.length:=(List.getElem?_eq_some_iff.1 h2).1
  have hl:=G6 h2
  exact bs (EH lw c0 c1 c2 c3 c4 ws x v y) (by (repeat' apply And.intro);all_goals first | trivial | exact rU (by omega) | exact rV (by omega) | exact hl | omega) rfl (by simp [p9,bQ,Jb5]) [2,3] rfl rfl rfl
 ·simp only [p9,List.mem_cons,List.not_mem_nil,or_false] at hu
  have h2:=hi (2,bQ lw c0 c1 c2 c3 c4) (by simp [p9])
  have h3:=hi (3,Jb5 ws) (by simp [p9])
  simp only [bQ,ak.aD,aR,AV.aD] at h2
  rcases hu with rfl | rfl
  ·exact dK h2.1
  ·exact G7 h3
theorem EM (lw:Nat) (c0 c1 c2 c3 c4:Int) (ws:List AV) (x y z:Int) (b:Bool):bP prog 158 (rl lw c0 c1 c2 c3 c4 ws x y z b):=by
 refine cK named mixed bd ⟨_,Tryz.func158,by kernel_rfl⟩ (λ⟨h0,h1,v,h2,h3⟩=> ?_) (λ_ D _ hi _=>⟨trivial,λu hu=> ?_⟩)
 ·have hl:=G6 h2
  have Wl:x.toNat<ws.length:=(List.getElem?_eq_some_iff.1 h2).1
  cases b with
  | true=>
   exact bs (EJ lw c0 c1 c2 c3 c4 ws x v y z) (by (repeat' apply And.intro);all_goals first | trivial | exact rU (by omega) | exact rV (by omega) | exact hl | exact h3 | omega) rfl (by simp [rl,bQ,Jb5]) [2,3] rfl rfl rfl
  | false=>
   exact bs (EK lw c0 c1 c2 c3 c4 ws x v y z) (by (repeat' apply And.intro);all_goals first | trivial | exact rU (by omega) | exact rV (by omega) | exact hl | exact h3 | omega) rfl (by simp [rl,bQ,Jb5]) [2,3] rfl rfl rfl
 ·have h2:=hi (2,bQ lw c0 c1 c2 c3 c4) (by simp [rl])
  have h3:=hi (3,Jb5 ws) (by simp [rl])
  simp only [bQ,ak.aD,aR,AV.aD] at h2
  cases b with
  | true=>
   simp only [rl,List.mem_cons,List.not_mem_nil,or_false] at hu
   rcases hu with rfl | rfl
   ·exact dK h2.1
   ·exact G7 h3
  | false=>
   simp only [rl,List.mem_cons,List.not_mem_nil,or_false] at hu
   subst hu
   exact dK h2.1
def G8 (k:Nat->Int->Int->Int->Int->Int->List AV->Part) (s:St) (oo:List CL):eO AV:=match s with
 | ⟨h,n,r,w,p,_⟩=>match Tr.look deep h 2,Tr.look deep h 3 with
  | some (.row false [.ae 3 1 0 0 lw lw',.aa .i64 c0,.aa .i64 c1,.aa .i64 c2,.aa .i64 c3,.aa .i64 c4,.kx] 129 none),some (.row true ws 40 (some 1))=>
   partG' (k lw c0 c1 c2 c3 c4 ws) ⟨h,n,r,w,p∧lw'=lw,oo⟩
  | _,_=> .fail []
def Pq:List AV->St->eO AV:=λargs s=>match args with
 | [.ptr 2 0,.aa .i64 x]=>match s with
  | ⟨_,_,_,_,_,.val [.aa .u64 v]::oo⟩=>G8 (λlw c0 c1 c2 c3 c4 ws=>CY lw c0 c1 c2 c3 c4 ws x v) s oo
  | _=> .fail []
 | _=> .fail []
def G9:List AV->St->eO AV:=λargs s=>match args with
 | [.ptr 2 0,.aa .i64 x,.aa .u64 y]=>match s with
  | ⟨_,_,_,_,_,oo⟩=>G8 (λlw c0 c1 c2 c3 c4 ws=>p9 lw c0 c1 c2 c3 c4 ws x y) s oo
 | _=> .fail []
def Pr:List AV->St->eO AV:=λargs s=>match args with
 | [.ptr 2 0,.aa .i64 x,.aa .u64 y,.aa .u64 z]=>match s with
  | ⟨_,_,_,_,_,.br b::oo⟩=>G8 (λlw c0 c1 c2 c3 c4 ws=>rl lw c0 c1 c2 c3 c4 ws x y z b) s oo
  | _=> .fail []
 | _=> .fail []
theorem v8 {f:FuncId} {k:Nat->Int->Int->Int->Int->Int->List AV->Part} {args:List AV} (hk: ∀ lw c0 c1 c2 c3 c4 ws,bP prog f (k lw c0 c1 c2 c3 c4 ws)∧(k lw c0 c1 c2 c3 c4 ws).args=args∧(k lw c0 c1 c2 c3 c4 ws).ins=[(2,bQ lw c0 c1 c2 c3 c4),(3,Jb5 ws)]) {s s':St} {v:AV} {oo:List CL} (h:G8 k s oo= .ok v s'):
  (∃ fn,prog.funcs[f]?=some fn∧fn.body.isSome=true)∧ ∃ R W,Sp s s' R W∧nG s s' R W (λD=>aR D args) (λD=>v.aD D)∧
   ∀ φ w,s'.pre->Fits s R φ w->l9 s R->aR (· < s.next) args->
    Calls prog f (az φ args).toArray w (λe w'=> ∃ φ',e= .returned (Jb1 φ' v)∧dG s s' W φ φ' w w'):=by
 obtain ⟨hh,n,r,w,p,o0⟩:=s
 unfold G8 at h
 simp only at h
 split at h
 ·rename_i lw lw' c0 c1 c2 c3 c4 ws h2 h3
  obtain ⟨k1,k2,k3⟩:=hk lw c0 c1 c2 c3 c4 ws
  rw [<- k2]
  refine part_sum' (s:=⟨hh,n,r,w,p,o0⟩) k1 (λaQ=> ?_) h
  unfold partG' at h
  simp only at h
  split at h
  ·simp only [dN] at h
   cases h
   obtain ⟨⟨hp,rfl⟩,_⟩:=aQ
   rw [k3]
   exact ⟨hp,h2,h3,trivial⟩
  ·cases h
 ·cases h
def bz:kP:=λf=>match Nat.beq f 136 with
 | true=>some Pq
 | false=>match Nat.beq f 157 with
  | true=>some G9
  | false=>match Nat.beq f 158 with
   | true=>some Pr
   | false=>sO f
theorem dx:eu prog bz:=by
 intro f g hg args s v s' h
 unfold bz at hg
 split at hg
 ·rename_i hf
  cases hg
  rw [Nat.eq_of_beq_eq_true hf]
  unfold Pq at h
  split at h
  ·split at h
   ·exact v8 (λlw c0 c1 c2 c3 c4 ws=>⟨EL lw c0 c1 c2 c3 c4 ws _ _,rfl,rfl⟩) h
   ·cases h
  ·cases h
 split at hg
 ·rename_i hf
  cases hg
  rw [Nat.eq_of_beq_eq_true hf]
  unfold G9 at h
  split at h
  ·exact v8 (λlw c0 c1 c2 c3 c4 ws=>⟨Bo lw c0 c1 c2 c3 c4 ws _ _,rfl,rfl⟩) h
  ·cases h
 split at hg
 ·rename_i hf
  cases hg
  rw [Nat.eq_of_beq_eq_true hf]
  unfold Pr at h
  split at h
  ·split at h
   ·exact v8 (λlw c0 c1 c2 c3 c4 ws=>⟨EM lw c0 c1 c2 c3 c4 ws _ _ _ _,rfl,rfl⟩) h
   ·cases h
  ·cases h
 ·exact EG f g hg args s v s' h
end
abbrev v9 (B:Int):Prop:=(0:Int)<=B∧B<=(65536:Int)
abbrev zb (x0:AV) (x1 x2 x3 x4 x5:Int):ak:= .row false [x0,.aa .i64 x1,.aa .i64 x2,.aa .i64 x3,.aa .i64 x4,.aa .i64 x5,.kx] 129 none
abbrev z6 (n k B p:Int):Prop:=True∧((1:Int)<=n∧n<=(16:Int)∧(1:Int)<=k∧k<=(32:Int))∧((0:Int)<=B∧B<=(65536:Int))∧((0:Int)<=p∧p<=(18446744073709551615:Int))∧(1:Int)<=p%(1024:Int)∧p%(1024:Int)<=(1:Int)+n*k
abbrev lS (v:Int):Bool:=v%(2:Int)==(1:Int)
abbrev ue (v:Int):Bool:=v/(2:Int)%(2:Int)==(1:Int)
abbrev z7 (B o:Int) (a:Nat) (j:List AV) (v:Int):Prop:=(((True∧((0:Int)<=B∧B<=(65536:Int))∧(0:Int)<=o∧o<=(16:Int))∧a=a)∧(0:Int)<=B+(2:Int)+o∧B+(2:Int)+o<(a:Int)∧j[(B+(2:Int)+o).toNat]?=some (.aa .u64 v))∧(0:Int)<=v∧v<=(18446744073709551615:Int)
abbrev Ue (B o:Int) (a:Nat) (j:List AV) (v:Int):Prop:=(((z7 B o a j v)∧(lS v)=true)∧(lS v)=true)∧(lS v)=true
abbrev Ha (n k B p:Int) (a:Nat) (j:List AV) (v:Int):Prop:=(((z6 n k B p)∧a=a)∧(0:Int)<=B+((2:Int)+n+(4:Int)*(p%(1024:Int)-(1:Int))+(0:Int))∧B+((2:Int)+n+(4:Int)*(p%(1024:Int)-(1:Int))+(0:Int))<(a:Int)∧j[(B+((2:Int)+n+(4:Int)*(p%(1024:Int)-(1:Int))+(0:Int))).toNat]?=some (.aa .u64 v))∧rE v∧(0:Int)<=p∧p<=(18446744073709551615:Int)
abbrev XO (n k B p:Int) (a:Nat) (j:List AV) (v:Int):Prop:=(Ha n k B p a j v)∧(0:Int)<=v%(1073741824:Int)∧v%(1073741824:Int)<=(18446744073709551615:Int)
abbrev zc (x0 x1 x2 x3:Int) (x4 x5 x6 x7 x8:AV):ak:= .row false [.aa .i64 x0,.aa .i64 x1,.aa .i64 x2,.int .i64 x3,x4,x5,x6,x7,x8] 342 none
abbrev W9 (B n k q r x d y:Int):ak:=zc B n k 7 (.aa .i64 q) (.aa .u64 r) (.aa .u64 x) (.aa .u64 d) (.aa .u64 y)
abbrev yU (v:Int):Bool:= !v/(2:Int)%(2:Int)==(1:Int)
abbrev z9b (B o:Int) (a:Nat) (j:List AV) (v:Int):Prop:=((((((((Ue B o a j v)∧(lS v)=true)∧(yU v)=true)∧(yU v)=true)∧(yU v)=true)∧(yU v)=true)∧(yU v)=true)∧(yU v)=true)∧(yU v)=true
abbrev za (x0 x1 x2 x3:Int) (x4 x5 x6 x7:AV):ak:= .row false [.aa .i64 x0,.aa .i64 x1,.aa .i64 x2,.int .i64 x3,x4,x5,x6,x7] 340 none
abbrev Uf (a:Nat) (B:Int) (j:List AV) (v:Int):Prop:=(True∧a=a)∧(0:Int)<=B∧B<(a:Int)∧j[B.toNat]?=some (.aa .u64 v)
abbrev Xa (l:Int) (m:List AV):ak:= .row false (.ptr 2 0:: .aa .i64 l::m) 92 none
abbrev XP (y:Int):Prop:=True∧(0:Int)<=y∧y<=(18446744073709551615:Int)
abbrev zdc (B q:Int) (a:Nat) (j:List AV) (v:Int):Prop:=(((((((Ue B q a j v)∧(ue v)=true)∧(ue v)=true)∧(ue v)=true)∧(ue v)=true)∧(ue v)=true)∧(ue v)=true)∧(ue v)=true
abbrev yV (n k:Int):Prop:=(1:Int)<=n∧n<=(16:Int)∧(1:Int)<=k∧k<=(32:Int)
abbrev Xb (v:Int):Prop:=(0:Int)<=v%(1073741824:Int)∧v%(1073741824:Int)<=(18446744073709551615:Int)
abbrev zec (n k B r:Int) (a:Nat) (j:List AV) (v:Int):Prop:=(Ha n k B r a j v)∧(yV n k)∧(v9 B)∧(Xb v)∧(1:Int)<=v%(1073741824:Int)%(1024:Int)∧v%(1073741824:Int)%(1024:Int)<=(1:Int)+n*k
abbrev ln (v p:Int):Bool:= !v/(1073741824:Int)==p/(1024:Int)
abbrev Xc (B n k o p x d:Int):ak:=za B n k 6 (.aa .i64 o) (.aa .u64 p) (.aa .u64 x) (.aa .u64 d)
abbrev zg (a:Nat) (b c e f g:Int) (j:List AV) (l:Int) (m:List AV) (B n k o p x d v:Int) (h0) (h1) (h2) (h3) (h4) (h5) (h6) (h7) (h8) (h9) (kN) (rB) (js):=view [64,2,3] (aW prog (bz) 60 271 [.ptr 64 0,.ptr 1 0] ⟨mk [(64,za B n k h0 (.aa .i64 o) (.aa .u64 p) (.aa .u64 x) (.aa .u64 d)),(1,Xa l m),(2,bQ a b c e f g),(3,Jb5 j)],96,0,0,True,(h1::h2::h3)⟩)=
  some (.bool h4,h5,h6,h7,[some (za B n k h8 (.aa .i64 h9) (.aa .u64 kN) (.aa .u64 rB) (.aa .u64 js)),some (zb (.ae 3 1 0 0 a a) (i64.wrap (b+(1:Int))) c e f g),some (Jb5 j)])
abbrev zgc (n k B r:Int) (a:Nat):Prop:=(((((z6 n k B r)∧(0:Int)<=r∧r<=(18446744073709551615:Int))∧true=true)∧true=true)∧true=true)∧a=a
abbrev zh (a:Nat) (b c e f g:Int) (j:List AV) (l:Int) (m:List AV) (B n k o p x d v:Int) (h0) (h1) (h2) (h3):=view [64,2,3] (aW prog (bz) 60 271 [.ptr 64 0,.ptr 1 0] ⟨mk [(64,za B n k h0 (.aa .i64 o) (.aa .u64 p) (.aa .u64 x) (.aa .u64 d)),(1,Xa l m),(2,bQ a b c e f g),(3,Jb5 j)],96,0,0,True,[.br h1]⟩)=
  some (.bool h2,h3)
abbrev XQ (n k B r:Int) (a:Nat) (j:List AV) (v:Int):Prop:=(((z6 n k B r)∧a=a)∧(0:Int)<=B+((2:Int)+n+(4:Int)*(r%(1024:Int)-(1:Int))+(1:Int))∧B+((2:Int)+n+(4:Int)*(r%(1024:Int)-(1:Int))+(1:Int))<(a:Int)∧j[(B+((2:Int)+n+(4:Int)*(r%(1024:Int)-(1:Int))+(1:Int))).toNat]?=some (.aa .u64 v))∧rE v∧(0:Int)<=r∧r<=(18446744073709551615:Int)
abbrev zi (a:Nat) (b c e f g:Int) (j:List AV) (l:Int) (m:List AV) (B n k x d v q r y:Int) (h0) (h1) (h2) (h3) (h4) (h5) (h6) (h7) (h8) (h9) (kN) (rB) (js) (nO):=view [64,2,3] (aW prog (bz) 60 275 [.ptr 64 0,.ptr 1 0] ⟨mk [(64,zc B n k h0 (.aa .i64 q) (.aa .u64 r) (.aa .u64 x) (.aa .u64 d) (.aa .u64 y)),(1,Xa l m),(2,bQ a b c e f g),(3,Jb5 j)],96,0,0,True,(h1::h2::h3)⟩)=
  some (.bool h4,h5,h6,h7,[some (zc B n k h8 (.aa .i64 h9) (.aa .u64 kN) (.aa .u64 rB) (.aa .u64 js) (.aa .u64 nO)),some (zb (.ae 3 1 0 0 a a) (i64.wrap (b+(1:Int))) c e f g),some (Jb5 j)])
abbrev zic (n k B p:Int) (a:Nat) (j:List AV) (v:Int):Prop:=(XO n k B p a j v)∧(yV n k)∧(2:Int)<=v%(1073741824:Int)%(1024:Int)∧v%(1073741824:Int)%(1024:Int)<=(1:Int)+n*k
abbrev zj (a:Nat) (b c e f g:Int) (j:List AV) (l:Int) (m:List AV) (B n k x d v q r y:Int) (h0) (h1) (h2) (h3):=view [64,2,3] (aW prog (bz) 60 275 [.ptr 64 0,.ptr 1 0] ⟨mk [(64,zc B n k h0 (.aa .i64 q) (.aa .u64 r) (.aa .u64 x) (.aa .u64 d) (.aa .u64 y)),(1,Xa l m),(2,bQ a b c e f g),(3,Jb5 j)],96,0,0,True,h1⟩)=
  some (.bool h2,h3)
abbrev EN (d:Int):Prop:=(0:Int)<=d∧d<=(18446744073709551615:Int)
abbrev zjc (d x B o:Int) (a:Nat):Prop:=((True∧(EN d)∧(0:Int)<=x∧x<(1073741824:Int))∧(v9 B)∧(0:Int)<=o∧o<=(16:Int))∧a=a
abbrev zkc (n k B r:Int) (a:Nat) (j:List AV) (v:Int):Prop:=((((XQ n k B r a j v)∧(ln v r)=false)∧(ln v r)=false)∧aq .eql (v%(1073741824:Int)) (0:Int)=false)∧(ln v r)=false
abbrev Xd (B:Int) (a:Nat) (j:List AV) (v:Int):Prop:=((True∧(0:Int)<=B∧B<=(65536:Int))∧a=a)∧(0:Int)<=B+(1:Int)∧B+(1:Int)<(a:Int)∧j[(B+(1:Int)).toNat]?=some (.aa .u64 v)
section
variable (a:Nat) (b c e f g:Int) (j:List AV) (l:Int) (m:List AV) (B n k o p x d v q r y:Int)
theorem ML:zg a b c e f g j l m B n k o p x d v 0 (.val [.aa .u64 v]) (.br true) ([]) false ((Xd B a j v)∧(yV n k)∧(v9 B)∧rE v∧(1:Int)<=v%(1024:Int)∧v%(1024:Int)<=(1:Int)+n*k) 96 ([2,64]) 1 o v x d:=by unfold zg;kernel_rfl
theorem MM:zg a b c e f g j l m B n k o p x d v 1 (.br true) (.val [.aa .u64 v]) ([.br true,.br false,.br false,.br false,.br false]) false (((((zic n k B p a j v)∧(ln v p)=false)∧(ln v p)=false)∧aq .eql (v%(1073741824:Int)) (0:Int)=false)∧(ln v p)=false) 96 ([2,64]) 3 ((v%(1073741824:Int)%(1024:Int)-(2:Int))/k) p (v%(1073741824:Int)) d:=by unfold zg;kernel_rfl
theorem Hb:zg a b c e f g j l m B n k o p x d v 1 (.br true) (.val [.aa .u64 v]) ([.br false,.br false,.br false,.br true,.br false]) true ((((((XO n k B p a j v)∧(yV n k)∧v%(1073741824:Int)%(1024:Int)<(2:Int))∧(ln v p)=false)∧(ln v p)=false)∧aq .eql (v%(1073741824:Int)) (0:Int)=true)∧(ln v p)=false) 96 ([2]) 1 o p x d:=by unfold zg;kernel_rfl
theorem Hc:zg a b c e f g j l m B n k o p x d v 1 (.br true) (.val [.aa .u64 v]) ([.br true,.br true,.br true,.br true]) true ((((zic n k B p a j v)∧(ln v p)=true)∧(ln v p)=true)∧(ln v p)=true) 96 ([2]) 1 o p x d:=by unfold zg;kernel_rfl
theorem He:zg a b c e f g j l m B n k o p x d v 3 (.val [.aa .u64 v]) (.br true) ([.br true,.br true,.br true,.br true,.br true,.br true,.br true,.br true,.br true,.br true,.br true,.br true]) false (((z9b B o a j v)∧aq .eql (v/(4:Int)%(1073741824:Int)) x=true)∧(yU v)=true) 97 ([2,64,96]) 5 o p x v:=by unfold zg;kernel_rfl
theorem Hf:zg a b c e f g j l m B n k o p x d v 3 (.val [.aa .u64 v]) (.br false) ([.br false,.br false,.br false]) false (((((z7 B o a j v)∧(lS v)=false)∧(lS v)=false)∧(lS v)=false)∧(lS v)=false) 97 ([2,64,96]) 6 o p x v:=by unfold zg;kernel_rfl
theorem Hg:zg a b c e f g j l m B n k o p x d v 3 (.val [.aa .u64 v]) (.br true) ([.br true,.br true,.br true,.br false,.br false,.br false,.br false,.br false,.br false,.br false,.br false]) false ((((((((((Ue B o a j v)∧(lS v)=true)∧(yU v)=false)∧(yU v)=false)∧(yU v)=false)∧(yU v)=false)∧(yU v)=false)∧(yU v)=false)∧(yU v)=false)∧(yU v)=false) 97 ([2,64,96]) 6 o p x v:=by unfold zg;kernel_rfl
theorem Hh:zg a b c e f g j l m B n k o p x d v 3 (.val [.aa .u64 v]) (.br true) ([.br true,.br true,.br true,.br true,.br true,.br true,.br true,.br true,.br true,.br true,.br false,.br true]) false (((z9b B o a j v)∧aq .eql (v/(4:Int)%(1073741824:Int)) x=false)∧(yU v)=true) 97 ([2,64,96]) 6 o p x v:=by unfold zg;kernel_rfl
theorem Hi:zh a b c e f g j l m B n k o p x d v 5 true false ((zjc d x B o a)∧(0:Int)<=B+(2:Int)+o∧B+(2:Int)+o<(a:Int)∧ ∃ (v:Int),j[(B+(2:Int)+o).toNat]?=some (.aa .u64 v)∧(v==d)=true,96,[2,3,64],[some (Xc B n k o p x d),some (zb (.ae 3 1 0 0 a a) b c (i64.wrap (e+(1:Int))) f g),some (Jb5 (j.set (B+(2:Int)+o).toNat (.aa .u64 (d-d%(2:Int)-d/(4:Int)%(1073741824:Int)*(4:Int)+x*(4:Int)))))]):=by unfold zh;kernel_rfl
theorem Hj:zh a b c e f g j l m B n k o p x d v 5 false false ((zjc d x B o a)∧(0:Int)<=B+(2:Int)+o∧B+(2:Int)+o<(a:Int)∧ ∃ (v:Int),j[(B+(2:Int)+o).toNat]?=some (.aa .u64 v)∧(v==d)=false,96,[2,64],[some (Xc B n k o p x d),some (zb (.ae 3 1 0 0 a a) b c (i64.wrap (e+(1:Int))) f g),some (Jb5 j)]):=by unfold zh;kernel_rfl
theorem Hk:zh a b c e f g j l m B n k o p x d v 6 true true (((True∧(0:Int)<=B∧B<=(65536:Int))∧a=a)∧(0:Int)<=B+(1:Int)∧B+(1:Int)<(a:Int)∧ ∃ (v:Int),j[(B+(1:Int)).toNat]?=some (.aa .u64 v)∧(v==p)=true,96,[2,3],[some (Xc B n k o p x d),some (zb (.ae 3 1 0 0 a a) b c (i64.wrap (e+(1:Int))) f g),some (Jb5 (j.set (B+(1:Int)).toNat (.aa .u64 x)))]):=by unfold zh;kernel_rfl
theorem Hl:zh a b c e f g j l m B n k o p x d v 6 false true (((True∧(0:Int)<=B∧B<=(65536:Int))∧a=a)∧(0:Int)<=B+(1:Int)∧B+(1:Int)<(a:Int)∧ ∃ (v:Int),j[(B+(1:Int)).toNat]?=some (.aa .u64 v)∧(v==p)=false,96,[2],[some (Xc B n k o p x d),some (zb (.ae 3 1 0 0 a a) b c (i64.wrap (e+(1:Int))) f g),some (Jb5 j)]):=by unfold zh;kernel_rfl
theorem MN:zi a b c e f g j l m B n k x d v q r y 0 (.val [.aa .u64 v]) (.br true) ([]) false ((Uf a B j v)∧(yV n k)∧(v9 B)∧rE v∧(1:Int)<=v%(1024:Int)∧v%(1024:Int)<=(1:Int)+n*k) 97 ([2,64,96]) 1 q v x d y:=by unfold zi;kernel_rfl
theorem MO:zi a b c e f g j l m B n k x d v q r y 1 (.br true) (.val [.aa .u64 v]) ([.br true,.br false,.br false,.br false,.br false]) false (((((zec n k B r a j v)∧(ln v r)=false)∧(ln v r)=false)∧aq .eql (v%(1073741824:Int)) (0:Int)=false)∧(ln v r)=false) 96 ([2,64]) 2 q r (v%(1073741824:Int)) d y:=by unfold zi;kernel_rfl
theorem Ho:zi a b c e f g j l m B n k x d v q r y 1 (.br true) (.val [.aa .u64 v]) ([.br false,.br false,.br false,.br true,.br false]) true ((((((Ha n k B r a j v)∧(yV n k)∧(Xb v)∧v%(1073741824:Int)%(1024:Int)<(1:Int))∧(ln v r)=false)∧(ln v r)=false)∧aq .eql (v%(1073741824:Int)) (0:Int)=true)∧(ln v r)=false) 96 ([2,64]) 2 q r (v%(1073741824:Int)) d y:=by unfold zi;kernel_rfl
theorem Hq:zi a b c e f g j l m B n k x d v q r y 1 (.br true) (.val [.aa .u64 v]) ([.br true,.br true,.br true,.br true]) true ((((zec n k B r a j v)∧(ln v r)=true)∧(ln v r)=true)∧(ln v r)=true) 96 ([2,64]) 2 q r (v%(1073741824:Int)) d y:=by unfold zi;kernel_rfl
theorem EO:zi a b c e f g j l m B n k x d v q r y 1 (.br true) (.val [.aa .u64 v]) ([.br false,.br true,.br true,.br true]) true (((((Ha n k B r a j v)∧(yV n k)∧(Xb v)∧v%(1073741824:Int)%(1024:Int)<(1:Int))∧(ln v r)=true)∧(ln v r)=true)∧(ln v r)=true) 96 ([2,64]) 2 q r (v%(1073741824:Int)) d y:=by unfold zi;kernel_rfl
theorem Hr:zi a b c e f g j l m B n k x d v q r y 2 (.br true) (.val [.aa .u64 v]) ([.br true,.br true,.br true]) true ((((XQ n k B r a j v)∧(ln v r)=true)∧(ln v r)=true)∧(ln v r)=true) 96 ([2]) 2 q r x d y:=by unfold zi;kernel_rfl
theorem Ht:zi a b c e f g j l m B n k x d v q r y 2 (.br true) (.val [.aa .u64 v]) ([.br false,.br false,.br true,.br false]) true (((((XQ n k B r a j v)∧(ln v r)=false)∧(ln v r)=false)∧aq .eql (v%(1073741824:Int)) (0:Int)=true)∧(ln v r)=false) 96 ([2]) 2 q r x d y:=by unfold zi;kernel_rfl
theorem Hu:zi a b c e f g j l m B n k x d v q r y 2 (.br true) (.val [.aa .u64 v]) ([.br false,.br false,.br false,.br false,.br true]) false (((zkc n k B r a j v)∧aq .leq (v%(1073741824:Int)) (u64.wrap n)=true)∧true=true) 96 ([2,64]) 3 (i64.wrap (i64.wrap (v%(1073741824:Int))-(1:Int))) r x d y:=by unfold zi;kernel_rfl
theorem Hv:zi a b c e f g j l m B n k x d v q r y 2 (.br true) (.val [.aa .u64 v]) ([.br false,.br false,.br false,.br false,.br false]) false ((zkc n k B r a j v)∧aq .leq (v%(1073741824:Int)) (u64.wrap n)=false) 96 ([2,64]) 6 q r x d y:=by unfold zi;kernel_rfl
theorem Hw:zi a b c e f g j l m B n k x d v q r y 3 (.val [.aa .u64 v]) (.br true) ([.br true,.br true,.br true,.br true,.br true,.br true,.br true,.br true,.br true,.br true,.br true]) false (((zdc B q a j v)∧aq .eql (v/(4:Int)%(1073741824:Int)) r=true)∧(ue v)=true) 97 ([2,64,96]) 4 q r x v y:=by unfold zi;kernel_rfl
theorem Hx:zi a b c e f g j l m B n k x d v q r y 3 (.val [.aa .u64 v]) (.br false) ([.br false,.br false]) false ((((z7 B q a j v)∧(lS v)=false)∧(lS v)=false)∧(lS v)=false) 97 ([2,64,96]) 6 q r x v y:=by unfold zi;kernel_rfl
theorem Hy:zi a b c e f g j l m B n k x d v q r y 3 (.val [.aa .u64 v]) (.br true) ([.br true,.br true,.br false,.br false,.br false,.br false,.br false,.br false,.br false,.br false]) false (((((((((Ue B q a j v)∧(ue v)=false)∧(ue v)=false)∧(ue v)=false)∧(ue v)=false)∧(ue v)=false)∧(ue v)=false)∧(ue v)=false)∧(ue v)=false) 97 ([2,64,96]) 6 q r x v y:=by unfold zi;kernel_rfl
theorem Hz:zi a b c e f g j l m B n k x d v q r y 3 (.val [.aa .u64 v]) (.br true) ([.br true,.br true,.br true,.br true,.br true,.br true,.br true,.br true,.br true,.br false,.br true]) false (((zdc B q a j v)∧aq .eql (v/(4:Int)%(1073741824:Int)) r=false)∧(ue v)=true) 97 ([2,64,96]) 6 q r x v y:=by unfold zi;kernel_rfl
theorem MP:zi a b c e f g j l m B n k x d v q r y 4 (.br true) (.val [.aa .u64 v]) ([]) false (((z6 n k B x)∧a=a)∧(0:Int)<=B+((2:Int)+n+(4:Int)*(x%(1024:Int)-(1:Int))+(2:Int))∧B+((2:Int)+n+(4:Int)*(x%(1024:Int)-(1:Int))+(2:Int))<(a:Int)∧j[(B+((2:Int)+n+(4:Int)*(x%(1024:Int)-(1:Int))+(2:Int))).toNat]?=some (.aa .u64 v)) 96 ([2,64]) 5 q r x d v:=by unfold zi;kernel_rfl
theorem HA:zj a b c e f g j l m B n k x d v q r y 5 ([.br true]) false (((((((XP y)∧true=true)∧true=true)∧(EN d)∧(0:Int)<=u64.wrap ((y%(4294967296:Int)).tmod (16777216:Int)+(1:Int))∧u64.wrap ((y%(4294967296:Int)).tmod (16777216:Int)+(1:Int))<(1073741824:Int))∧(v9 B)∧(0:Int)<=q∧q<=(16:Int))∧a=a)∧(0:Int)<=B+(2:Int)+q∧B+(2:Int)+q<(a:Int)∧ ∃ (v:Int),j[(B+(2:Int)+q).toNat]?=some (.aa .u64 v)∧(v==d)=true,96,[2,3,64],[some (zc B n k 6 (.aa .i64 q) (.aa .u64 r) (.aa .u64 x) (.aa .u64 d) (.aa .u64 y)),some (zb (.ae 3 1 0 0 a a) b c (i64.wrap (e+(1:Int))) f g),some (Jb5 (j.set (B+(2:Int)+q).toNat (.aa .u64 (d-d%(2:Int)-d/(4:Int)%(1073741824:Int)*(4:Int)+u64.wrap ((y%(4294967296:Int)).tmod (16777216:Int)+(1:Int))*(4:Int)))))]):=by unfold zj;kernel_rfl
theorem HC:zj a b c e f g j l m B n k x d v q r y 5 ([.br false]) false (((((((XP y)∧true=true)∧true=true)∧(EN d)∧(0:Int)<=u64.wrap ((y%(4294967296:Int)).tmod (16777216:Int)+(1:Int))∧u64.wrap ((y%(4294967296:Int)).tmod (16777216:Int)+(1:Int))<(1073741824:Int))∧(v9 B)∧(0:Int)<=q∧q<=(16:Int))∧a=a)∧(0:Int)<=B+(2:Int)+q∧B+(2:Int)+q<(a:Int)∧ ∃ (v:Int),j[(B+(2:Int)+q).toNat]?=some (.aa .u64 v)∧(v==d)=false,96,[2,64],[some (zc B n k 6 (.aa .i64 q) (.aa .u64 r) (.aa .u64 x) (.aa .u64 d) (.aa .u64 y)),some (zb (.ae 3 1 0 0 a a) b c (i64.wrap (e+(1:Int))) f g),some (Jb5 j)]):=by unfold zj;kernel_rfl
theorem HD:zj a b c e f g j l m B n k x d v q r y 6 ([.br true]) false ((True∧a=a)∧(0:Int)<=B∧B<(a:Int)∧ ∃ (v:Int),j[B.toNat]?=some (.aa .u64 v)∧(v==r)=true,97,[2,3,64,96],[some (W9 B n k q r x d y),some (zb (.ae 3 1 0 0 a a) b c (i64.wrap (e+(1:Int))) f g),some (Jb5 (j.set B.toNat (.aa .u64 x)))]):=by unfold zj;kernel_rfl
theorem HE:zj a b c e f g j l m B n k x d v q r y 6 ([.br false]) true ((True∧a=a)∧(0:Int)<=B∧B<(a:Int)∧ ∃ (v:Int),j[B.toNat]?=some (.aa .u64 v)∧(v==r)=false,97,[2,64,96],[some (W9 B n k q r x d y),some (zb (.ae 3 1 0 0 a a) b c (i64.wrap (e+(1:Int))) f g),some (Jb5 j)]):=by unfold zj;kernel_rfl
theorem HF:zj a b c e f g j l m B n k x d v q r y 7 ([.br true,.br true]) true ((zgc n k B r a)∧(0:Int)<=B+((2:Int)+n+(4:Int)*(r%(1024:Int)-(1:Int))+(3:Int))∧B+((2:Int)+n+(4:Int)*(r%(1024:Int)-(1:Int))+(3:Int))<(a:Int)∧ ∃ (v:Int),j[(B+((2:Int)+n+(4:Int)*(r%(1024:Int)-(1:Int))+(3:Int))).toNat]?=some (.aa .u64 v)∧(v==u64.wrap (u64.wrap ((2:Int)*(r/(1024:Int)))+(1:Int)))=true,96,[2,3],[some (W9 B n k q r x d y),some (zb (.ae 3 1 0 0 a a) b c (i64.wrap (e+(1:Int))) f g),some (Jb5 (j.set (B+((2:Int)+n+(4:Int)*(r%(1024:Int)-(1:Int))+(3:Int))).toNat (.aa .u64 (u64.wrap ((2:Int)*(r/(1024:Int)))))))]):=by unfold zj;kernel_rfl
theorem HG:zj a b c e f g j l m B n k x d v q r y 7 ([.br true,.br false]) true ((zgc n k B r a)∧(0:Int)<=B+((2:Int)+n+(4:Int)*(r%(1024:Int)-(1:Int))+(3:Int))∧B+((2:Int)+n+(4:Int)*(r%(1024:Int)-(1:Int))+(3:Int))<(a:Int)∧ ∃ (v:Int),j[(B+((2:Int)+n+(4:Int)*(r%(1024:Int)-(1:Int))+(3:Int))).toNat]?=some (.aa .u64 v)∧(v==u64.wrap (u64.wrap ((2:Int)*(r/(1024:Int)))+(1:Int)))=false,96,[2],[some (W9 B n k q r x d y),some (zb (.ae 3 1 0 0 a a) b c (i64.wrap (e+(1:Int))) f g),some (Jb5 j)]):=by unfold zj;kernel_rfl
theorem EP:zg a b c e f g j l m B n k o p x d v 1 (.br true) (.val [.aa .u64 v]) ([.br false,.br true,.br true,.br true]) true (((((XO n k B p a j v)∧(yV n k)∧v%(1073741824:Int)%(1024:Int)<(2:Int))∧(ln v p)=true)∧(ln v p)=true)∧(ln v p)=true) 96 ([2]) 1 o p x d:=by unfold zg;kernel_rfl
end
end Qk
end Go.Proofs.YtpkfimijnkkbjaaGreat
