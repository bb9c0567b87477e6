/- op.Step at headToo, read, take; printed by gengo.py. -/
import Derived.Test.YtpkfimijnkkbjaaGreatJ14
set_option linter.unusedVariables false
namespace Go.Proofs.YtpkfimijnkkbjaaGreat
namespace Qk
open Ev Ct
open Go.IntKind (i64 u64)
section
variable {P:cv} {b t first:Nat} {M:Mm} {o:Op}
theorem Bz (hP:PB P) (iN:P.n<=4) (hb:b<524288) (bi:BI P b M) {last:Nat} {w:Nat×Nat} (hc:m6 P b t o) (eF:o.st= .Jb6 first last w) (tb:pL P M t o) (j:Nat->Int) (ay:Nat->AV) (aA:Int) (inv af:Nat->AV) (c:Nat->Int):eA P t (bp t 64 48 j o) o [] M ay aA inv af c:=by
 obtain ⟨n1,n2⟩:=hP.n
 obtain ⟨k1,k2⟩:=hP.k
 obtain ⟨take,v,tries,ref,i,ag,err,val,os⟩:=o
 obtain ⟨ht,hv,lf,nu,eY,hi,eX⟩:=hc
 simp only at ht hv lf nu eY hi eX
 cases eF
 have hT:i64.wrap ((tries:Int)+1)=((tries+1:Nat):Int):=gg (by omega)
 have hI:i64.wrap ((i:Int)+1)=((i+1:Nat):Int):=gg (by omega)
 obtain ⟨hk,ho,hl,Tz,D2,O1,hw3⟩:=tb
 have hk:take=true:=hk
 subst hk
 have fy:0<sz P:=by unfold sz;omega
 have hw:(aG P M)[(0:Int).toNat]?=some (.aa .u64 (M.head:Int)):=by
  have:=cr (P:=P) (M:=M) (a:=0) fy
  rw [rX] at this;exact this
 obtain ⟨s1,s2⟩:=Bs (x:=w) O1
 have eF:=sV O1 D2
 by_cases hh:M.head=first
 ·have c1:aq .neq (M.head:Int) (first:Int)=false:=by rw [Dh,decide_eq_true hh];rfl
  by_cases hx:w.2=0
  ·have c2:aq .eql ((w.2:Nat):Int) (0:Int)=true:=by rw [show (0:Int)=((0:Nat):Int) from rfl,iC];exact decide_eq_true hx
   have wy:=wA ND P c M aA inv af ay 0 P.n P.k P.att t (j 6) v i tries (j 0) ref (first:Nat) (last:Nat) ((st w:Nat):Int) (j 4) ag (j 5) err val .au (M.head:Int)
   rw [s2] at wy
   refine Jb3 (o':=⟨true,v,tries,ref,i,ag,7,val,.Jb6 first last w⟩) (done:=true) (rj:=j) (row':=gR t ⟨true,v,tries,ref,i,ag,7,val,.Jb6 first last w⟩ 12 (j 6) (j 0) first last ((st w:Nat):Int) (j 4) (j 5) .aX (.slice 97 0 1 1)) (c':=bw c 0) (k:=2) (news1:=[(97,(.row false [.aa .i64 (i64.wrap ((2:Int)*(j 5)))] 3 none))]) (aN:=[(97,(.row false [.aa .i64 (i64.wrap ((2:Int)*(j 5)))] 3 none))]) (e:=by simp [aj,hh,hx]) (hv:=wy)
  ·have c2:aq .eql ((w.2:Nat):Int) (0:Int)=false:=by rw [show (0:Int)=((0:Nat):Int) from rfl,iC];exact decide_eq_false hx
   by_cases vz:first=last
   ·have c3:aq .eql (first:Int) (last:Int)=true:=by rw [iC];exact decide_eq_true vz
    have wy:=wA Ja6 P c M aA inv af ay 0 P.n P.k P.att t (j 6) v i tries (j 0) ref (first:Nat) (last:Nat) ((st w:Nat):Int) (j 4) ag (j 5) err val .au (M.head:Int)
    rw [s2] at wy
    refine Jb3 (o':=⟨true,v,tries,ref,i,ag,err,val,.sub (.fn (.tl .e)) .aH⟩) (ra:=98) (rj:=λq=>if q=3 then ((st w:Nat):Int) else if q=2 then (last:Int) else if q=1 then (first:Int) else if q=7 then 12 else j q) (c':=bw c 0) (k:=3) (news1:=[(98,fT P)]) (aN:=[(98,bk P (λ_=>0) (.tl .e))]) (e:=by simp [aj,hh,hx,vz]) (hv:=wy)
   ·have c3:aq .eql (first:Int) (last:Int)=false:=by rw [iC];exact decide_eq_false vz
    have YY:((st w:Nat):Int)=((w.2:Nat):Int)+1073741824*(((w.1:Nat):Int)%1048576):=by unfold st;omega
    have wy:=wA NF P c M aA inv af ay 0 P.n P.k P.att t (j 6) v i tries (j 0) ref (first:Nat) (last:Nat) ((st w:Nat):Int) (j 4) ag (j 5) err val .au (M.head:Int)
    rw [s2] at wy
    refine Jb3 (o':=⟨true,v,tries,ref,i,ag,err,val,.read first w.2⟩) (rj:=j) (row':=gR t ⟨true,v,tries,ref,i,ag,err,val,.read first w.2⟩ 13 (j 6) (j 0) first last ((st w:Nat):Int) (j 4) (j 5) .aX .au) (c':=bw c 0) (k:=1) (e:=by simp [aj,hh,hx,vz]) (hv:=wy) (hout:=⟨.inl rfl,λ_=>⟨64,80,48,(λq=>if q=3 then ((w.1:Nat):Int) else if q=2 then (last:Int) else j q),by rw [YY];rfl,(λe=>by cases e),.inl (by intro s f h;cases h)⟩,λh=>by cases h⟩)
 ·have c1:aq .neq (M.head:Int) (first:Int)=true:=by rw [Dh,decide_eq_false hh];rfl
  by_cases ha:P.att<tries+1
  ·have uC:aq .gtr ((tries+1:Nat):Int) (P.att:Int)=true:=by rw [fU];exact decide_eq_true ha
   have wy:=wA NB P c M aA inv af ay 0 P.n P.k P.att t (j 6) v i tries (j 0) ref (first:Nat) (last:Nat) ((st w:Nat):Int) (j 4) ag (j 5) err val .au (M.head:Int)
   rw [hT] at wy
   refine Jb3 (o':=⟨true,v,tries+1,ref,0,ag,err,val,.ag⟩) (rj:=λq=>if q=3 then ((st w:Nat):Int) else if q=2 then (last:Int) else if q=1 then (first:Int) else j q) (c':=bw c 0) (k:=1) (e:=by simp [aj,Op.aH,ha,hh]) (hv:=wy)
  ·have uC:aq .gtr ((tries+1:Nat):Int) (P.att:Int)=false:=by rw [fU];exact decide_eq_false ha
   have wy:=wA NC P c M aA inv af ay 0 P.n P.k P.att t (j 6) v i tries (j 0) ref (first:Nat) (last:Nat) ((st w:Nat):Int) (j 4) ag (j 5) err val .au (M.head:Int)
   rw [hT] at wy
   refine Jb3 (o':=⟨true,v,tries+1,ref,i,ag,err,val,.head⟩) (rj:=λq=>if q=3 then ((st w:Nat):Int) else if q=2 then (last:Int) else if q=1 then (first:Int) else j q) (c':=bw c 0) (k:=1) (e:=by simp [aj,Op.aH,ha,hh]) (hv:=wy)
theorem N2 (hP:PB P) (iN:P.n<=4) (hb:b<524288) (bi:BI P b M) {x:Nat} (hc:m6 P b t o) (eF:o.st= .read first x) (tb:pL P M t o) (j:Nat->Int) (ay:Nat->AV) (aA:Int) (inv af:Nat->AV) (c:Nat->Int):eA P t (bp t 64 48 j o) o [] M ay aA inv af c:=by
 obtain ⟨n1,n2⟩:=hP.n
 obtain ⟨k1,k2⟩:=hP.k
 obtain ⟨take,v,tries,ref,i,ag,err,val,os⟩:=o
 obtain ⟨ht,hv,lf,nu,eY,hi,eX⟩:=hc
 simp only at ht hv lf nu eY hi eX
 cases eF
 have hT:i64.wrap ((tries:Int)+1)=((tries+1:Nat):Int):=gg (by omega)
 have hI:i64.wrap ((i:Int)+1)=((i+1:Nat):Int):=gg (by omega)
 obtain ⟨hk,DZ,hl,ho,Tz⟩:=tb
 have hk:take=true:=hk
 subst hk
 obtain ⟨i1,i2⟩:=gH ho
 have hf:=lT (f:=2) ho (by omega)
 simp only [show ((2:Nat):Int)=2 from rfl] at hf
 obtain ⟨g1,g2,g3⟩:=hf
 have hw:(aG P M)[(0+(2+(P.n:Int)+4*((x:Int)%1024-1)+2)).toNat]?=some (.aa .u64 ((vt (M.vl (aO x)):Nat):Int)):=by
  rw [g3,cr (fH ho.1 ho.2 (by omega)),ek ho.1 (by omega),if_neg (by omega),if_neg (by omega),if_pos rfl]
 obtain ⟨xk,Ap⟩:=bi.vl (aO x)
 have hwx:((x:Int)+1073741824*(j 3%1048576))%1073741824=(x:Int):=by omega
 have YY:((vt (M.vl (aO x)):Nat):Int)=(((M.vl (aO x)).2:Nat):Int)+4294967296*((((M.vl (aO x)).1:Nat):Int)%1048576):=by unfold vt;omega
 have wy:=wA NG P c M aA inv af ay 0 P.n P.k P.att t (j 6) v i tries (j 0) ref (first:Nat) (j 2) ((x:Int)+1073741824*(j 3%1048576)) (j 4) ag (j 5) err val .au ((vt (M.vl (aO x)):Nat):Int)
 rw [hwx] at wy
 refine Jb3 (o':=⟨true,v,tries,ref,i,ag,err,val,.take first (M.vl (aO x)).2⟩) (rj:=j) (row':=gR t ⟨true,v,tries,ref,i,ag,err,val,.take first (M.vl (aO x)).2⟩ 14 (j 6) (j 0) first (j 2) ((x:Int)+1073741824*(j 3%1048576)) ((vt (M.vl (aO x)):Nat):Int) (j 5) .aX .au) (c':=bw c 0) (e:=by simp [aj]) (hv:=wy) (hout:=⟨.inl rfl,λ_=>⟨64,80,48,(λq=>if q=4 then (((M.vl (aO x)).1:Nat):Int) else if q=3 then ((x:Int)+1073741824*(j 3%1048576)) else j q),by rw [YY];rfl,(λe=>by cases e),.inl (by intro s f h;cases h)⟩,λh=>by cases h⟩)
theorem N3 (hP:PB P) (iN:P.n<=4) (hb:b<524288) (bi:BI P b M) {y:Nat} (hc:m6 P b t o) (eF:o.st= .take first y) (tb:pL P M t o) (j:Nat->Int) (ay:Nat->AV) (aA:Int) (inv af:Nat->AV) (c:Nat->Int):eA P t (bp t 64 48 j o) o [] M ay aA inv af c:=by
 obtain ⟨n1,n2⟩:=hP.n
 obtain ⟨k1,k2⟩:=hP.k
 obtain ⟨take,v,tries,ref,i,ag,err,val,os⟩:=o
 obtain ⟨ht,hv,lf,nu,eY,hi,eX⟩:=hc
 simp only at ht hv lf nu eY hi eX
 cases eF
 have hT:i64.wrap ((tries:Int)+1)=((tries+1:Nat):Int):=gg (by omega)
 have hI:i64.wrap ((i:Int)+1)=((i+1:Nat):Int):=gg (by omega)
 obtain ⟨hk,ho,hl,hy⟩:=tb
 have hk:take=true:=hk
 subst hk
 obtain ⟨i1,i2⟩:=gH ho
 have hf:=lT (f:=1) ho (by omega)
 simp only [show ((1:Nat):Int)=1 from rfl] at hf
 obtain ⟨g1,g2,g3⟩:=hf
 have hw:(aG P M)[(0+(2+(P.n:Int)+4*((first:Int)%1024-1)+1)).toNat]?=some (.aa .u64 ((st (M.tk (aO first)):Nat):Int)):=by
  rw [g3,cr (fH ho.1 ho.2 (by omega)),ek ho.1 (by omega),if_neg (by omega),if_pos rfl]
 obtain ⟨xk,Ap⟩:=bi.tk (aO first)
 have Ga:bH first<1048576:=by unfold bH;omega
 have hz:(0:Int)+(first:Int)/1024*(1073741824:Int)=((st (bH first,0):Nat):Int):=by rw [jy];unfold st;omega
 have Xw:((y:Int)+4294967296*(j 4%1048576))%4294967296=(y:Int):=by omega
 by_cases hs:M.tk (aO first)=(bH first,0)
 ·have Zi: ∃ v:Int,(aG P M)[(0+(2+(P.n:Int)+4*((first:Int)%1024-1)+1)).toNat]?=some (.aa .u64 v)∧(v==((st (bH first,0):Nat):Int))=true:=⟨_,hw,by rw [qx Ap (by show (0:Nat)<_;omega)];exact decide_eq_true hs⟩
  have h4:t=0∨t=1∨t=2∨t=3:=by omega
  rcases h4 with rfl | rfl | rfl | rfl
  ·have O8:u64.wrap (u64.wrap (0:Int)+(33:Int))=33:=by decide
   have dV:(aG P M).set (0+(2+(P.n:Int)+4*((first:Int)%1024-1)+1)).toNat (.aa .u64 ((33:Int)+(first:Int)/1024*(1073741824:Int)))=aG P { M with tk:=Jb2 M.tk (aO first) (bH first,33) }:=by
    rw [g3];exact qw ho.1 ho.2 (by rw [jy];unfold st;omega)
   have wy:=wA Iv P c M aA inv af ay 0 P.n P.k P.att (j 6) v i tries (j 0) ref (first:Nat) (j 2) (j 3) ((y:Int)+4294967296*(j 4%1048576)) ag (j 5) err val .au 0
   rw [O8] at wy
   unfold zz F5 Bu F4 C6 at wy
   rw [hz] at wy
   rw [dV] at wy
   rw [Xw] at wy
   refine Jb3 (M':={ M with tk:=Jb2 M.tk (aO first) (bH first,33) }) (o':=⟨true,v,tries,ref,i,ag,err,y,.sub (.fn (.hd .e)) .fin⟩) (ra:=100) (rj:=λq=>if q=7 then 14 else if q=4 then ((y:Int)+4294967296*(j 4%1048576)) else if q=1 then (first:Int) else j q) (marks':=Jb2 af 0 eV) (c':=bw c 2) (k:=5) (news1:=[(98,bU (i64.wrap ((2:Int)*aA))),(100,gf P)]) (aN:=[(98,bU (i64.wrap ((2:Int)*aA))),(100,bk P (λ_=>0) (.hd .e))]) (e:=by simp [aj,hs]) (hv:=wy)
  ·have O8:u64.wrap (u64.wrap (1:Int)+(33:Int))=34:=by decide
   have dV:(aG P M).set (0+(2+(P.n:Int)+4*((first:Int)%1024-1)+1)).toNat (.aa .u64 ((34:Int)+(first:Int)/1024*(1073741824:Int)))=aG P { M with tk:=Jb2 M.tk (aO first) (bH first,34) }:=by
    rw [g3];exact qw ho.1 ho.2 (by rw [jy];unfold st;omega)
   have wy:=wA Iw P c M aA inv af ay 0 P.n P.k P.att (j 6) v i tries (j 0) ref (first:Nat) (j 2) (j 3) ((y:Int)+4294967296*(j 4%1048576)) ag (j 5) err val .au 0
   rw [O8] at wy
   unfold zz F5 Bu F4 C6 at wy
   rw [hz] at wy
   rw [dV] at wy
   rw [Xw] at wy
   refine Jb3 (M':={ M with tk:=Jb2 M.tk (aO first) (bH first,34) }) (o':=⟨true,v,tries,ref,i,ag,err,y,.sub (.fn (.hd .e)) .fin⟩) (ra:=100) (rj:=λq=>if q=7 then 14 else if q=4 then ((y:Int)+4294967296*(j 4%1048576)) else if q=1 then (first:Int) else j q) (marks':=Jb2 af 1 eV) (c':=bw c 2) (k:=5) (news1:=[(98,bU (i64.wrap ((2:Int)*aA))),(100,gf P)]) (aN:=[(98,bU (i64.wrap ((2:Int)*aA))),(100,bk P (λ_=>0) (.hd .e))]) (e:=by simp [aj,hs]) (hv:=wy)
  ·have O8:u64.wrap (u64.wrap (2:Int)+(33:Int))=35:=by decide
   have dV:(aG P M).set (0+(2+(P.n:Int)+4*((first:Int)%1024-1)+1)).toNat (.aa .u64 ((35:Int)+(first:Int)/1024*(1073741824:Int)))=aG P { M with tk:=Jb2 M.tk (aO first) (bH first,35) }:=by
    rw [g3];exact qw ho.1 ho.2 (by rw [jy];unfold st;omega)
   have wy:=wA Ix P c M aA inv af ay 0 P.n P.k P.att (j 6) v i tries (j 0) ref (first:Nat) (j 2) (j 3) ((y:Int)+4294967296*(j 4%1048576)) ag (j 5) err val .au 0
   rw [O8] at wy
   unfold zz F5 Bu F4 C6 at wy
   rw [hz] at wy
   rw [dV] at wy
   rw [Xw] at wy
   refine Jb3 (M':={ M with tk:=Jb2 M.tk (aO first) (bH first,35) }) (o':=⟨true,v,tries,ref,i,ag,err,y,.sub (.fn (.hd .e)) .fin⟩) (ra:=100) (rj:=λq=>if q=7 then 14 else if q=4 then ((y:Int)+4294967296*(j 4%1048576)) else if q=1 then (first:Int) else j q) (marks':=Jb2 af 2 eV) (c':=bw c 2) (k:=5) (news1:=[(98,bU (i64.wrap ((2:Int)*aA))),(100,gf P)]) (aN:=[(98,bU (i64.wrap ((2:Int)*aA))),(100,bk P (λ_=>0) (.hd .e))]) (e:=by simp [aj,hs]) (hv:=wy)
  ·have O8:u64.wrap (u64.wrap (3:Int)+(33:Int))=36:=by decide
   have dV:(aG P M).set (0+(2+(P.n:Int)+4*((first:Int)%1024-1)+1)).toNat (.aa .u64 ((36:Int)+(first:Int)/1024*(1073741824:Int)))=aG P { M with tk:=Jb2 M.tk (aO first) (bH first,36) }:=by
    rw [g3];exact qw ho.1 ho.2 (by rw [jy];unfold st;omega)
   have wy:=wA Iy P c M aA inv af ay 0 P.n P.k P.att (j 6) v i tries (j 0) ref (first:Nat) (j 2) (j 3) ((y:Int)+4294967296*(j 4%1048576)) ag (j 5) err val .au 0
   rw [O8] at wy
   unfold zz F5 Bu F4 C6 at wy
   rw [hz] at wy
   rw [dV] at wy
   rw [Xw] at wy
   refine Jb3 (M':={ M with tk:=Jb2 M.tk (aO first) (bH first,36) }) (o':=⟨true,v,tries,ref,i,ag,err,y,.sub (.fn (.hd .e)) .fin⟩) (ra:=100) (rj:=λq=>if q=7 then 14 else if q=4 then ((y:Int)+4294967296*(j 4%1048576)) else if q=1 then (first:Int) else j q) (marks':=Jb2 af 3 eV) (c':=bw c 2) (k:=5) (news1:=[(98,bU (i64.wrap ((2:Int)*aA))),(100,gf P)]) (aN:=[(98,bU (i64.wrap ((2:Int)*aA))),(100,bk P (λ_=>0) (.hd .e))]) (e:=by simp [aj,hs]) (hv:=wy)
 ·have Zi: ∃ v:Int,(aG P M)[(0+(2+(P.n:Int)+4*((first:Int)%1024-1)+1)).toNat]?=some (.aa .u64 v)∧(v==((st (bH first,0):Nat):Int))=false:=⟨_,hw,by rw [qx Ap (by show (0:Nat)<_;omega)];exact decide_eq_false hs⟩
  have O8:u64.wrap (u64.wrap (t:Int)+(33:Int))=((t+33:Nat):Int):=by rw [fm (x:=(t:Int)) (by omega) (by omega),fm (by omega) (by omega)];omega
  have wy:=wA NH P c M aA inv af ay 0 P.n P.k P.att t (j 6) v i tries (j 0) ref (first:Nat) (j 2) (j 3) ((y:Int)+4294967296*(j 4%1048576)) ag (j 5) err val .au 0
  rw [O8] at wy
  unfold zf n9 fp F5 Bu F4 zb C6 at wy
  rw [hz] at wy
  refine Jb3 (o':=⟨true,v,tries,ref,i,ag,err,val,.sub (.fn (.hd .e)) .aH⟩) (ra:=97) (rj:=λq=>if q=7 then 14 else if q=4 then ((y:Int)+4294967296*(j 4%1048576)) else if q=1 then (first:Int) else j q) (c':=bw c 2) (k:=2) (news1:=[(97,gf P)]) (aN:=[(97,bk P (λ_=>0) (.hd .e))]) (e:=by simp [aj,hs]) (hv:=wy)
end
section
variable {P:cv} {b t:Nat} {M:Mm} {o:Op}
theorem Jh (hP:PB P) (iN:P.n<=4) (hb:b<524288) (bi:BI P b M) (hc:m6 P b t o) (eF:o.st= .ag) (tb:pL P M t o) (j:Nat->Int) (ay:Nat->AV) (aA:Int) (inv af:Nat->AV) (c:Nat->Int):eA P t (bp t 64 48 j o) o [] M ay aA inv af c:=by
 obtain ⟨n1,n2⟩:=hP.n
 obtain ⟨k1,k2⟩:=hP.k
 obtain ⟨take,v,tries,ref,i,ag,err,val,os⟩:=o
 obtain ⟨ht,hv,lf,nu,eY,hi,eX⟩:=hc
 simp only at ht hv lf nu eY hi eX
 cases eF
 have hT:i64.wrap ((tries:Int)+1)=((tries+1:Nat):Int):=gg (by omega)
 have hI:i64.wrap ((i:Int)+1)=((i+1:Nat):Int):=gg (by omega)
 have iS:i<P.n:=tb
 obtain ⟨f1,f2,f3⟩:=sW (P:=P) (u:=i) (by omega)
 have nv:=Jc3 hb bi i
 have dA:=jY nv
 obtain ⟨q1,q2,q3,q4⟩:=Jd1 nv
 have hw:(aG P M)[(0+2+(i:Int)).toNat]?=some (.aa .u64 ((cd (M.ds i):Nat):Int)):=by
  rw [f3,cr (by unfold sz;omega),gA (by omega)]
 have Xx:(if (((M.ds i).ag:Nat):Int)>(ag:Int) then (((M.ds i).ag:Nat):Int) else (ag:Int))=((max ag (M.ds i).ag:Nat):Int):=by
  split<;>omega
 by_cases hn:i+1=P.n
 ·have c1:aq .eql ((i+1:Nat):Int) (P.n:Int)=true:=by rw [iC];exact decide_eq_true hn
  cases take
  ·have wy:=wA EU P c M aA inv af ay 0 P.n P.k P.att t (j 6) v i tries (j 0) ref (j 1) (j 2) (j 3) (j 4) ag (j 5) err val .au ((cd (M.ds i):Nat):Int)
   rw [q4] at wy
   rw [Xx] at wy
   rw [hI] at wy
   refine Jb3 (o':=⟨false,v,tries,ref,i+1,max ag (M.ds i).ag,err,val,.cO⟩) (rj:=j) (c':=bw c 0) (e:=by simp [aj,hn]) (hv:=wy)
  ·have wy:=wA EW P c M aA inv af ay 0 P.n P.k P.att t (j 6) v i tries (j 0) ref (j 1) (j 2) (j 3) (j 4) ag (j 5) err val .au ((cd (M.ds i):Nat):Int)
   rw [q4] at wy
   rw [Xx] at wy
   rw [hI] at wy
   refine Jb3 (o':=⟨true,v,tries,ref,i+1,max ag (M.ds i).ag,err,val,.cO⟩) (rj:=j) (c':=bw c 0) (e:=by simp [aj,hn]) (hv:=wy)
 ·have c1:aq .eql ((i+1:Nat):Int) (P.n:Int)=false:=by rw [iC];exact decide_eq_false hn
  cases take
  ·have wy:=wA EV P c M aA inv af ay 0 P.n P.k P.att t (j 6) v i tries (j 0) ref (j 1) (j 2) (j 3) (j 4) ag (j 5) err val .au ((cd (M.ds i):Nat):Int)
   rw [q4] at wy
   rw [Xx] at wy
   rw [hI] at wy
   refine Jb3 (o':=⟨false,v,tries,ref,i+1,max ag (M.ds i).ag,err,val,.ag⟩) (rj:=j) (c':=bw c 0) (e:=by simp [aj,hn]) (hv:=wy)
  ·have wy:=wA EX P c M aA inv af ay 0 P.n P.k P.att t (j 6) v i tries (j 0) ref (j 1) (j 2) (j 3) (j 4) ag (j 5) err val .au ((cd (M.ds i):Nat):Int)
   rw [q4] at wy
   rw [Xx] at wy
   rw [hI] at wy
   refine Jb3 (o':=⟨true,v,tries,ref,i+1,max ag (M.ds i).ag,err,val,.ag⟩) (rj:=j) (c':=bw c 0) (e:=by simp [aj,hn]) (hv:=wy)
theorem zE (hP:PB P) (iN:P.n<=4) (hb:b<524288) (bi:BI P b M) (hc:m6 P b t o) (eF:o.st= .cO) (tb:pL P M t o) (j:Nat->Int) (ay:Nat->AV) (aA:Int) (inv af:Nat->AV) (c:Nat->Int):eA P t (bp t 64 48 j o) o [] M ay aA inv af c:=by
 obtain ⟨n1,n2⟩:=hP.n
 obtain ⟨k1,k2⟩:=hP.k
 obtain ⟨take,v,tries,ref,i,ag,err,val,os⟩:=o
 obtain ⟨ht,hv,lf,nu,eY,hi,eX⟩:=hc
 simp only at ht hv lf nu eY hi eX
 cases eF
 have hT:i64.wrap ((tries:Int)+1)=((tries+1:Nat):Int):=gg (by omega)
 have hI:i64.wrap ((i:Int)+1)=((i+1:Nat):Int):=gg (by omega)
 obtain ⟨f1,f2,f3⟩:=sW (P:=P) (u:=t) (by omega)
 have nv:=Jc3 hb bi t
 have dA:=jY nv
 obtain ⟨q1,q2,q3,q4⟩:=Jd1 nv
 have hw:(aG P M)[(0+2+(t:Int)).toNat]?=some (.aa .u64 ((cd (M.ds t):Nat):Int)):=by
  rw [f3,cr (by unfold sz;omega),gA (by omega)]
 have lf:ref<1073741824:=lf
 have hU:u64.wrap ((ag:Int)+1)=((ag+1:Nat):Int):=XX (by omega)
 cases take
 ·have dV:(aG P M).set (0+2+(t:Int)).toNat (.aa .u64 (gr true+gr false*(2:Int)+(ref:Int)*(4:Int)+((ag+1:Nat):Int)*(4294967296:Int)))=aG P { M with ds:=Jb2 M.ds t ⟨true,false,ref,ag+1⟩ }:=by
   rw [f3];exact qv (by omega) (by simp [gr,cd,Pt];omega)
  have wy:=wA Iz P c M aA inv af ay 0 P.n P.k P.att t (j 6) v i tries (j 0) ref (j 1) (j 2) (j 3) (j 4) ag (j 5) err val .au 0
  unfold z2 at wy
  rw [hU] at wy
  rw [dV] at wy
  refine Jb3 (M':={ M with ds:=Jb2 M.ds t ⟨true,false,ref,ag+1⟩ }) (o':=⟨false,v,tries,ref,0,ag+1,err,val,.b8⟩) (rj:=j) (c':=bw c 1) (e:=by simp [aj]) (hv:=wy)
 ·have dV:(aG P M).set (0+2+(t:Int)).toNat (.aa .u64 (gr true+gr true*(2:Int)+(ref:Int)*(4:Int)+((ag+1:Nat):Int)*(4294967296:Int)))=aG P { M with ds:=Jb2 M.ds t ⟨true,true,ref,ag+1⟩ }:=by
   rw [f3];exact qv (by omega) (by simp [gr,cd,Pt];omega)
  have wy:=wA IG P c M aA inv af ay 0 P.n P.k P.att t (j 6) v i tries (j 0) ref (j 1) (j 2) (j 3) (j 4) ag (j 5) err val .au 0
  unfold z2 at wy
  rw [hU] at wy
  rw [dV] at wy
  refine Jb3 (M':={ M with ds:=Jb2 M.ds t ⟨true,true,ref,ag+1⟩ }) (o':=⟨true,v,tries,ref,0,ag+1,err,val,.b8⟩) (rj:=j) (c':=bw c 1) (e:=by simp [aj]) (hv:=wy)
theorem N4 (hP:PB P) (iN:P.n<=4) (hb:b<524288) (bi:BI P b M) (hc:m6 P b t o) (eF:o.st= .b8) (tb:pL P M t o) (j:Nat->Int) (ay:Nat->AV) (aA:Int) (inv af:Nat->AV) (c:Nat->Int):eA P t (bp t 64 48 j o) o [] M ay aA inv af c:=by
 obtain ⟨n1,n2⟩:=hP.n
 obtain ⟨k1,k2⟩:=hP.k
 obtain ⟨take,v,tries,ref,i,ag,err,val,os⟩:=o
 obtain ⟨ht,hv,lf,nu,eY,hi,eX⟩:=hc
 simp only at ht hv lf nu eY hi eX
 cases eF
 have hT:i64.wrap ((tries:Int)+1)=((tries+1:Nat):Int):=gg (by omega)
 have hI:i64.wrap ((i:Int)+1)=((i+1:Nat):Int):=gg (by omega)
 have iS:i<P.n:=tb
 obtain ⟨f1,f2,f3⟩:=sW (P:=P) (u:=i) (by omega)
 have nv:=Jc3 hb bi i
 have dA:=jY nv
 obtain ⟨q1,q2,q3,q4⟩:=Jd1 nv
 have hw:(aG P M)[(0+2+(i:Int)).toNat]?=some (.aa .u64 ((cd (M.ds i):Nat):Int)):=by
  rw [f3,cr (by unfold sz;omega),gA (by omega)]
 by_cases hp:(M.ds i).bN=true
 ·have e1:(((cd (M.ds i):Nat):Int)%2==1)=true:=by rw [q1];exact hp
  by_cases nj:(M.ds i).ag<=ag
  ·have c2:aq .leq (((M.ds i).ag:Nat):Int) (ag:Int)=true:=by rw [Pz];exact decide_eq_true nj
   cases hd:(M.ds i).take
   ·have e2:(((cd (M.ds i):Nat):Int)/2%2==1)=false:=by rw [q2];exact hd
    cases take
    ·have wy:=wA IB P c M aA inv af ay 0 P.n P.k P.att t (j 6) v i tries (j 0) ref (j 1) (j 2) (j 3) (j 4) ag (j 5) err val .au ((cd (M.ds i):Nat):Int)
     unfold z3 Pu at wy
     rw [q4] at wy
     refine Jb3 (o':=⟨false,v,tries,ref,i,ag,err,val,.sub (.hp false i (M.ds i).ag .look) .b8⟩) (ra:=100) (rj:=λq=>if q=7 then 17 else j q) (c':=bw c 0) (k:=5) (news1:=[(100,(.row false [.aa .i64 0,.aa .i64 (P.n:Nat),.aa .i64 (P.k:Nat),.aa .i64 (i:Nat),.int .i64 0,.aa .u64 (((M.ds i).ag:Nat):Int),.int .u64 0,.int .u64 0,.int .u64 0,.int .u64 0,.int .i64 0,.aX,.bool false] 333 none))]) (aN:=[(100,aY P 80 (λ_=>0) false i (M.ds i).ag .look)]) (e:=by simp [aj,hp,nj,hd]) (hv:=wy)
    ·have wy:=wA II P c M aA inv af ay 0 P.n P.k P.att t (j 6) v i tries (j 0) ref (j 1) (j 2) (j 3) (j 4) ag (j 5) err val .au ((cd (M.ds i):Nat):Int)
     unfold z3 Pu at wy
     rw [q4] at wy
     refine Jb3 (o':=⟨true,v,tries,ref,i,ag,err,val,.sub (.hp false i (M.ds i).ag .look) .b8⟩) (ra:=100) (rj:=λq=>if q=7 then 17 else j q) (c':=bw c 0) (k:=5) (news1:=[(100,(.row false [.aa .i64 0,.aa .i64 (P.n:Nat),.aa .i64 (P.k:Nat),.aa .i64 (i:Nat),.int .i64 0,.aa .u64 (((M.ds i).ag:Nat):Int),.int .u64 0,.int .u64 0,.int .u64 0,.int .u64 0,.int .i64 0,.aX,.bool false] 333 none))]) (aN:=[(100,aY P 80 (λ_=>0) false i (M.ds i).ag .look)]) (e:=by simp [aj,hp,nj,hd]) (hv:=wy)
   ·have e2:(((cd (M.ds i):Nat):Int)/2%2==1)=true:=by rw [q2];exact hd
    cases take
    ·have wy:=wA IA P c M aA inv af ay 0 P.n P.k P.att t (j 6) v i tries (j 0) ref (j 1) (j 2) (j 3) (j 4) ag (j 5) err val .au ((cd (M.ds i):Nat):Int)
     unfold z3 Pv at wy
     rw [q4] at wy
     refine Jb3 (o':=⟨false,v,tries,ref,i,ag,err,val,.sub (.hp true i (M.ds i).ag .look) .b8⟩) (ra:=100) (rj:=λq=>if q=7 then 17 else j q) (c':=bw c 0) (k:=5) (news1:=[(100,(.row false [.aa .i64 0,.aa .i64 (P.n:Nat),.aa .i64 (P.k:Nat),.aa .i64 (i:Nat),.int .i64 0,.aa .u64 (((M.ds i).ag:Nat):Int),.int .u64 0,.int .u64 0,.int .u64 0,.int .u64 0,.int .i64 0,.aX,.bool false] 331 none))]) (aN:=[(100,aY P 80 (λ_=>0) true i (M.ds i).ag .look)]) (e:=by simp [aj,hp,nj,hd]) (hv:=wy)
    ·have wy:=wA IH P c M aA inv af ay 0 P.n P.k P.att t (j 6) v i tries (j 0) ref (j 1) (j 2) (j 3) (j 4) ag (j 5) err val .au ((cd (M.ds i):Nat):Int)
     unfold z3 Pv at wy
     rw [q4] at wy
     refine Jb3 (o':=⟨true,v,tries,ref,i,ag,err,val,.sub (.hp true i (M.ds i).ag .look) .b8⟩) (ra:=100) (rj:=λq=>if q=7 then 17 else j q) (c':=bw c 0) (k:=5) (news1:=[(100,(.row false [.aa .i64 0,.aa .i64 (P.n:Nat),.aa .i64 (P.k:Nat),.aa .i64 (i:Nat),.int .i64 0,.aa .u64 (((M.ds i).ag:Nat):Int),.int .u64 0,.int .u64 0,.int .u64 0,.int .u64 0,.int .i64 0,.aX,.bool false] 331 none))]) (aN:=[(100,aY P 80 (λ_=>0) true i (M.ds i).ag .look)]) (e:=by simp [aj,hp,nj,hd]) (hv:=wy)
  ·have c2:aq .leq (((M.ds i).ag:Nat):Int) (ag:Int)=false:=by rw [Pz];exact decide_eq_false nj
   cases take
   ·by_cases hn:i+1<P.n
    ·have c9:aq .lss ((i+1:Nat):Int) (P.n:Int)=true:=by rw [jB];exact decide_eq_true hn
     have wy:=wA ID P c M aA inv af ay 0 P.n P.k P.att t (j 6) v i tries (j 0) ref (j 1) (j 2) (j 3) (j 4) ag (j 5) err val .au ((cd (M.ds i):Nat):Int)
     unfold z1 Pw at wy
     rw [q4] at wy
     rw [hI] at wy
     refine Jb3 (o':=⟨false,v,tries,ref,i+1,ag,err,val,.b8⟩) (rj:=j) (c':=bw c 0) (k:=1) (e:=by simp [aj,hp,nj,Op.cD,hn]) (hv:=wy)
    ·have c9:aq .lss ((i+1:Nat):Int) (P.n:Int)=false:=by rw [jB];exact decide_eq_false hn
     have wy:=wA IF P c M aA inv af ay 0 P.n P.k P.att t (j 6) v i tries (j 0) ref (j 1) (j 2) (j 3) (j 4) ag (j 5) err val .au ((cd (M.ds i):Nat):Int)
     unfold z1 Pw at wy
     rw [q4] at wy
     rw [hI] at wy
     refine Jb3 (o':=⟨false,v,tries,ref,i+1,ag,err,val,.b8⟩) (done:=true) (rj:=j) (row':=gR t ⟨false,v,tries,ref,i+1,ag,err,val,.b8⟩ 17 (j 6) (j 0) (j 1) (j 2) (j 3) (j 4) (j 5) .aX .au) (c':=bw c 0) (k:=1) (e:=by simp [aj,hp,nj,Op.cD,hn]) (hv:=wy)
   ·by_cases hn:i+1<P.n
    ·have c9:aq .lss ((i+1:Nat):Int) (P.n:Int)=true:=by rw [jB];exact decide_eq_true hn
     have wy:=wA IK P c M aA inv af ay 0 P.n P.k P.att t (j 6) v i tries (j 0) ref (j 1) (j 2) (j 3) (j 4) ag (j 5) err val .au ((cd (M.ds i):Nat):Int)
     unfold z1 Pw at wy
     rw [q4] at wy
     rw [hI] at wy
     refine Jb3 (o':=⟨true,v,tries,ref,i+1,ag,err,val,.b8⟩) (rj:=j) (c':=bw c 0) (k:=1) (e:=by simp [aj,hp,nj,Op.cD,hn]) (hv:=wy)
    ·have c9:aq .lss ((i+1:Nat):Int) (P.n:Int)=false:=by rw [jB];exact decide_eq_false hn
     have wy:=wA IM P c M aA inv af ay 0 P.n P.k P.att t (j 6) v i tries (j 0) ref (j 1) (j 2) (j 3) (j 4) ag (j 5) err val .au ((cd (M.ds i):Nat):Int)
     unfold z1 Pw at wy
     rw [q4] at wy
     rw [hI] at wy
     refine Jb3 (o':=⟨true,v,tries,ref,i+1,ag,err,val,.result⟩) (rj:=j) (c':=bw c 0) (k:=1) (e:=by simp [aj,hp,nj,Op.cD,hn]) (hv:=wy)
 ·have Gd:(M.ds i).bN=false:=by simpa using hp
  have e1:(((cd (M.ds i):Nat):Int)%2==1)=false:=by rw [q1];exact Gd
  cases take
  ·by_cases hn:i+1<P.n
   ·have c9:aq .lss ((i+1:Nat):Int) (P.n:Int)=true:=by rw [jB];exact decide_eq_true hn
    have wy:=wA IC P c M aA inv af ay 0 P.n P.k P.att t (j 6) v i tries (j 0) ref (j 1) (j 2) (j 3) (j 4) ag (j 5) err val .au ((cd (M.ds i):Nat):Int)
    rw [hI] at wy
    refine Jb3 (o':=⟨false,v,tries,ref,i+1,ag,err,val,.b8⟩) (rj:=j) (c':=bw c 0) (k:=1) (e:=by simp [aj,hp,Op.cD,hn]) (hv:=wy)
   ·have c9:aq .lss ((i+1:Nat):Int) (P.n:Int)=false:=by rw [jB];exact decide_eq_false hn
    have wy:=wA IE P c M aA inv af ay 0 P.n P.k P.att t (j 6) v i tries (j 0) ref (j 1) (j 2) (j 3) (j 4) ag (j 5) err val .au ((cd (M.ds i):Nat):Int)
    rw [hI] at wy
    refine Jb3 (o':=⟨false,v,tries,ref,i+1,ag,err,val,.b8⟩) (done:=true) (rj:=j) (row':=gR t ⟨false,v,tries,ref,i+1,ag,err,val,.b8⟩ 17 (j 6) (j 0) (j 1) (j 2) (j 3) (j 4) (j 5) .aX .au) (c':=bw c 0) (k:=1) (e:=by simp [aj,hp,Op.cD,hn]) (hv:=wy)
  ·by_cases hn:i+1<P.n
   ·have c9:aq .lss ((i+1:Nat):Int) (P.n:Int)=true:=by rw [jB];exact decide_eq_true hn
    have wy:=wA IJ P c M aA inv af ay 0 P.n P.k P.att t (j 6) v i tries (j 0) ref (j 1) (j 2) (j 3) (j 4) ag (j 5) err val .au ((cd (M.ds i):Nat):Int)
    rw [hI] at wy
    refine Jb3 (o':=⟨true,v,tries,ref,i+1,ag,err,val,.b8⟩) (rj:=j) (c':=bw c 0) (k:=1) (e:=by simp [aj,hp,Op.cD,hn]) (hv:=wy)
   ·have c9:aq .lss ((i+1:Nat):Int) (P.n:Int)=false:=by rw [jB];exact decide_eq_false hn
    have wy:=wA IL P c M aA inv af ay 0 P.n P.k P.att t (j 6) v i tries (j 0) ref (j 1) (j 2) (j 3) (j 4) ag (j 5) err val .au ((cd (M.ds i):Nat):Int)
    rw [hI] at wy
    refine Jb3 (o':=⟨true,v,tries,ref,i+1,ag,err,val,.result⟩) (rj:=j) (c':=bw c 0) (k:=1) (e:=by simp [aj,hp,Op.cD,hn]) (hv:=wy)
theorem E1 (hP:PB P) (iN:P.n<=4) (hb:b<524288) (bi:BI P b M) (hc:m6 P b t o) (eF:o.st= .result) (tb:pL P M t o) (j:Nat->Int) (ay:Nat->AV) (aA:Int) (inv af:Nat->AV) (c:Nat->Int):eA P t (bp t 64 48 j o) o [] M ay aA inv af c:=by
 obtain ⟨n1,n2⟩:=hP.n
 obtain ⟨k1,k2⟩:=hP.k
 obtain ⟨take,v,tries,ref,i,ag,err,val,os⟩:=o
 obtain ⟨ht,hv,lf,nu,eY,hi,eX⟩:=hc
 simp only at ht hv lf nu eY hi eX
 cases eF
 have hT:i64.wrap ((tries:Int)+1)=((tries+1:Nat):Int):=gg (by omega)
 have hI:i64.wrap ((i:Int)+1)=((i+1:Nat):Int):=gg (by omega)
 have hk:take=true:=tb
 subst hk
 have V4:val=0:=eX (by intro h hh;cases hh)
 subst V4
 obtain ⟨f1,f2,f3⟩:=sW (P:=P) (u:=t) (by omega)
 have nv:=Jc3 hb bi t
 have dA:=jY nv
 obtain ⟨q1,q2,q3,q4⟩:=Jd1 nv
 have hw:(aG P M)[(0+2+(t:Int)).toNat]?=some (.aa .u64 ((cd (M.ds t):Nat):Int)):=by
  rw [f3,cr (by unfold sz;omega),gA (by omega)]
 have F7:(M.ds t).load<1073741824:=nv.1
 by_cases hl:0<(M.ds t).load
 ·have c1:aq .gtr (((M.ds t).load:Nat):Int) (0:Int)=true:=by rw [show (0:Int)=((0:Nat):Int) from rfl,fU];exact decide_eq_true hl
  have se:u64.wrap ((((M.ds t).load:Nat):Int)-(1:Int))=(((M.ds t).load-1:Nat):Int):=by rw [fm (by omega) (by omega)];omega
  have wy:=wA NI P c M aA inv af ay 0 P.n P.k P.att t (j 6) v i tries (j 0) ref (j 1) (j 2) (j 3) (j 4) ag (j 5) err ((0:Nat):Int) .au ((cd (M.ds t):Nat):Int)
  rw [q3] at wy
  rw [se] at wy
  refine Jb3 (o':=⟨true,v,tries,ref,i,ag,0,(M.ds t).load-1,.sub (.fn (.hd .e)) .fin⟩) (ra:=97) (rj:=λq=>if q=7 then 18 else j q) (c':=bw c 0) (k:=2) (news1:=[(97,gf P)]) (aN:=[(97,bk P (λ_=>0) (.hd .e))]) (e:=by simp [aj,hl]) (hv:=wy)
 ·have c1:aq .gtr (((M.ds t).load:Nat):Int) (0:Int)=false:=by rw [show (0:Int)=((0:Nat):Int) from rfl,fU];exact decide_eq_false hl
  have TG:(M.ds t).load=0:=by omega
  have wy:=wA NJ P c M aA inv af ay 0 P.n P.k P.att t (j 6) v i tries (j 0) ref (j 1) (j 2) (j 3) (j 4) ag (j 5) err ((0:Nat):Int) .au ((cd (M.ds t):Nat):Int)
  rw [q3] at wy
  refine Jb3 (o':=⟨true,v,tries,ref,i,ag,7,0,.sub (.fn (.hd .e)) .fin⟩) (ra:=97) (rj:=λq=>if q=7 then 18 else j q) (c':=bw c 0) (k:=2) (news1:=[(97,gf P)]) (aN:=[(97,bk P (λ_=>0) (.hd .e))]) (e:=by simp [aj,TG]) (hv:=wy)
end
open Go.Proofs.Tryz (prog)
theorem Um {P:cv} {b:Nat} {M:Mm} (hP:PB P) (iN:P.n<=4) (hb:b<524288) (bi:BI P b M) {t:Nat} {o:Op} {f:Fn} {fo:Fo} (hc:m6 P b t o) (eF:o.st= .sub (.fn f) fo) (tb:pL P M t o) (j j2 j3:Nat->Int) (ay:Nat->AV) (aA:Int) (inv af:Nat->AV) (c:Nat->Int):eA P t (bp t 64 48 j o) o [(64,bk P j2 f)] M ay aA inv af c:=by
 obtain ⟨n1,n2⟩:=hP.n
 obtain ⟨k1,k2⟩:=hP.k
 obtain ⟨take,v,tries,ref,i,ag,err,val,os⟩:=o
 obtain ⟨ht,hv,lf,nu,eY,hi,eX⟩:=hc
 simp only at ht hv lf nu eY hi eX
 cases eF
 have hT:i64.wrap ((tries:Int)+1)=((tries+1:Nat):Int):=gg (by omega)
 have hI:i64.wrap ((i:Int)+1)=((i+1:Nat):Int):=gg (by omega)
 obtain ⟨fb,AT⟩:=tb
 obtain ⟨c',eZ,hp,ha,hn⟩:=vb hP hb bi fb j2 aA inv af c
 have ij:eu prog (dw [(wm f,LV P 64 (bk P j2 f) eZ aA inv af c c' M (bu P M f).1 (bu P M f).2.isNone)] bz):=gu dx (λx hx=>by
  simp only [List.mem_cons,List.not_mem_nil,or_false] at hx
  subst hx;exact hp)
 cases hf:(bu P M f).2 with
 | some f'=>
  obtain ⟨h1,j',rfl⟩:=hn f' hf
  rw [hf] at ij
  cases f with
  | tl q=>
   cases f' with
   | hd q'=>exact absurd h1 (show ¬ (275:Nat)=271 by decide)
   | tl q'=>
    have wy:=wA NK P c M aA inv af ay 0 P.n P.k P.att t v i tries (j 0) ref (j 1) (j 2) (j 3) (j 4) ag (j 5) err val .au 0 (bk P j2 (.tl q)) (bk P j' (.tl q')) (c' 0) (c' 1) (c' 2) (c' 3) (c' 4) (aG P (bu P M (.tl q)).1) take (ug fo) (j 7)
    exact bI (M':=(bu P M (.tl q)).1) (o':=⟨take,v,tries,ref,i,ag,err,val,.sub (.fn (.tl q')) fo⟩) (rj:=j) (c':=c') (e:=by simp [aj,bF,hf]) (hv:=wy)
  | hd q=>
   cases f' with
   | tl q'=>exact absurd h1 (show ¬ (271:Nat)=275 by decide)
   | hd q'=>
    have wy:=wA NN P c M aA inv af ay 0 P.n P.k P.att t v i tries (j 0) ref (j 1) (j 2) (j 3) (j 4) ag (j 5) err val .au 0 (bk P j2 (.hd q)) (bk P j' (.hd q')) (c' 0) (c' 1) (c' 2) (c' 3) (c' 4) (aG P (bu P M (.hd q)).1) take (ug fo) (j 7)
    exact bI (M':=(bu P M (.hd q)).1) (o':=⟨take,v,tries,ref,i,ag,err,val,.sub (.fn (.hd q')) fo⟩) (rj:=j) (c':=c') (e:=by simp [aj,bF,hf]) (hv:=wy)
 | none=>
  rw [hf] at ij
  cases f with
  | tl q=>
   rcases AT with rfl | ⟨rfl,fx⟩
   ·have wy:=wA NL P c M aA inv af ay 0 P.n P.k P.att t v i tries (j 0) ref (j 1) (j 2) (j 3) (j 4) ag (j 5) err val .au 0 (bk P j2 (.tl q)) eZ (c' 0) (c' 1) (c' 2) (c' 3) (c' 4) (aG P (bu P M (.tl q)).1) take (j 7)
    exact bI (M':=(bu P M (.tl q)).1) (o':=⟨take,v,tries,ref,i,ag,err,val,.sub (.fn (.tl q)) .fin⟩) (done:=true) (rj:=j) (row':=gR t ⟨take,v,tries,ref,i,ag,err,val,.sub (.fn (.tl q)) .fin⟩ (j 7) 3 (j 0) (j 1) (j 2) (j 3) (j 4) (j 5) .aX .au) (c':=c') (e:=by simp [aj,bF,hf,Op.gv]) (hv:=wy)
   ·cases take
    ·by_cases bf:P.att<tries+1
     ·have uC:aq .gtr ((tries+1:Nat):Int) (P.att:Int)=true:=by rw [fU];exact decide_eq_true bf
      have wy:=wA C8 P c M aA inv af ay 0 P.n P.k P.att t v i tries (j 0) ref (j 1) (j 2) (j 3) (j 4) ag (j 5) err val .au 0 (bk P j2 (.tl q)) eZ (c' 0) (c' 1) (c' 2) (c' 3) (c' 4) (aG P (bu P M (.tl q)).1) false (j 7)
      rw [hT] at wy
      exact bI (M':=(bu P M (.tl q)).1) (o':=⟨false,v,tries+1,ref,0,ag,err,val,.ag⟩) (rj:=λq=>if q=6 then 1 else j q) (c':=c') (e:=by simp [aj,bF,hf,Op.gv,Op.aH,bf]) (hv:=wy)
     ·have uC:aq .gtr ((tries+1:Nat):Int) (P.att:Int)=false:=by rw [fU];exact decide_eq_false bf
      have wy:=wA NR P c M aA inv af ay 0 P.n P.k P.att t v i tries (j 0) ref (j 1) (j 2) (j 3) (j 4) ag (j 5) err val .au 0 (bk P j2 (.tl q)) eZ (c' 0) (c' 1) (c' 2) (c' 3) (c' 4) (aG P (bu P M (.tl q)).1) (j 7)
      rw [hT] at wy
      exact bI (M':=(bu P M (.tl q)).1) (o':=⟨false,v,tries+1,ref,i,ag,err,val,.tail⟩) (rj:=λq=>if q=6 then 1 else j q) (c':=c') (e:=by simp [aj,bF,hf,Op.gv,Op.aH,bf]) (hv:=wy)
    ·by_cases bf:P.att<tries+1
     ·have uC:aq .gtr ((tries+1:Nat):Int) (P.att:Int)=true:=by rw [fU];exact decide_eq_true bf
      have wy:=wA C8 P c M aA inv af ay 0 P.n P.k P.att t v i tries (j 0) ref (j 1) (j 2) (j 3) (j 4) ag (j 5) err val .au 0 (bk P j2 (.tl q)) eZ (c' 0) (c' 1) (c' 2) (c' 3) (c' 4) (aG P (bu P M (.tl q)).1) true (j 7)
      rw [hT] at wy
      exact bI (M':=(bu P M (.tl q)).1) (o':=⟨true,v,tries+1,ref,0,ag,err,val,.ag⟩) (rj:=λq=>if q=6 then 1 else j q) (c':=c') (e:=by simp [aj,bF,hf,Op.gv,Op.aH,bf]) (hv:=wy)
     ·have uC:aq .gtr ((tries+1:Nat):Int) (P.att:Int)=false:=by rw [fU];exact decide_eq_false bf
      have wy:=wA NM P c M aA inv af ay 0 P.n P.k P.att t v i tries (j 0) ref (j 1) (j 2) (j 3) (j 4) ag (j 5) err val .au 0 (bk P j2 (.tl q)) eZ (c' 0) (c' 1) (c' 2) (c' 3) (c' 4) (aG P (bu P M (.tl q)).1) (j 7)
      rw [hT] at wy
      exact bI (M':=(bu P M (.tl q)).1) (o':=⟨true,v,tries+1,ref,i,ag,err,val,.head⟩) (rj:=λq=>if q=6 then 1 else j q) (c':=c') (e:=by simp [aj,bF,hf,Op.gv,Op.aH,bf]) (hv:=wy)
  | hd q=>
   rcases AT with rfl | ⟨rfl,fx⟩
   ·have wy:=wA NO P c M aA inv af ay 0 P.n P.k P.att t v i tries (j 0) ref (j 1) (j 2) (j 3) (j 4) ag (j 5) err val .au 0 (bk P j2 (.hd q)) eZ (c' 0) (c' 1) (c' 2) (c' 3) (c' 4) (aG P (bu P M (.hd q)).1) take (j 7)
    exact bI (M':=(bu P M (.hd q)).1) (o':=⟨take,v,tries,ref,i,ag,err,val,.sub (.fn (.hd q)) .fin⟩) (done:=true) (rj:=j) (row':=gR t ⟨take,v,tries,ref,i,ag,err,val,.sub (.fn (.hd q)) .fin⟩ (j 7) 3 (j 0) (j 1) (j 2) (j 3) (j 4) (j 5) .aX .au) (c':=c') (e:=by simp [aj,bF,hf,Op.gv]) (hv:=wy)
   ·have fx:take=true:=fx q rfl
    subst fx
    by_cases bf:P.att<tries+1
    ·have uC:aq .gtr ((tries+1:Nat):Int) (P.att:Int)=true:=by rw [fU];exact decide_eq_true bf
     have wy:=wA NP P c M aA inv af ay 0 P.n P.k P.att t v i tries (j 0) ref (j 1) (j 2) (j 3) (j 4) ag (j 5) err val .au 0 (bk P j2 (.hd q)) eZ (c' 0) (c' 1) (c' 2) (c' 3) (c' 4) (aG P (bu P M (.hd q)).1) true (j 7)
     rw [hT] at wy
     exact bI (M':=(bu P M (.hd q)).1) (o':=⟨true,v,tries+1,ref,0,ag,err,val,.ag⟩) (rj:=λq=>if q=6 then 1 else j q) (c':=c') (e:=by simp [aj,bF,hf,Op.gv,Op.aH,bf]) (hv:=wy)
    ·have uC:aq .gtr ((tries+1:Nat):Int) (P.att:Int)=false:=by rw [fU];exact decide_eq_false bf
     have wy:=wA NQ P c M aA inv af ay 0 P.n P.k P.att t v i tries (j 0) ref (j 1) (j 2) (j 3) (j 4) ag (j 5) err val .au 0 (bk P j2 (.hd q)) eZ (c' 0) (c' 1) (c' 2) (c' 3) (c' 4) (aG P (bu P M (.hd q)).1) (j 7)
     rw [hT] at wy
     exact bI (M':=(bu P M (.hd q)).1) (o':=⟨true,v,tries+1,ref,i,ag,err,val,.head⟩) (rj:=λq=>if q=6 then 1 else j q) (c':=c') (e:=by simp [aj,bF,hf,Op.gv,Op.aH,bf]) (hv:=wy)
section
variable {P:cv} {b t u ph:Nat} {M:Mm} {o:Op} {s:Hs} {fo:Fo}
theorem N5 (hP:PB P) (iN:P.n<=4) (hb:b<524288) (bi:BI P b M) (hc:m6 P b t o) (VE:s.sX=false) (eF:o.st= .sub (.hp false u ph s) fo) (tb:pL P M t o) (j j2 j3:Nat->Int) (ay:Nat->AV) (aA:Int) (inv af:Nat->AV) (c:Nat->Int):eA P t (bp t 64 48 j o) o [(64,aY P 80 j2 false u ph s)] M ay aA inv af c:=by
 obtain ⟨n1,n2⟩:=hP.n
 obtain ⟨k1,k2⟩:=hP.k
 obtain ⟨take,v,tries,ref,i,ag,err,val,os⟩:=o
 obtain ⟨ht,hv,lf,nu,eY,hi,eX⟩:=hc
 simp only at ht hv lf nu eY hi eX
 cases eF
 have hT:i64.wrap ((tries:Int)+1)=((tries+1:Nat):Int):=gg (by omega)
 have hI:i64.wrap ((i:Int)+1)=((i+1:Nat):Int):=gg (by omega)
 obtain ⟨hu,O7,AT⟩:=tb
 obtain ⟨c',row',marks',k,aN,hp,ho⟩:=Nh hP iN hb bi (ph:=ph) hu VE O7 j2 aA inv af c
 have ij:eu prog (dw [(286,wk P (aY P 80 j2 false u ph s) row' aA inv af marks' c c' M (ax P M false u ph s).1 (.bool (ax P M false u ph s).2.isNone) k aN)] bz):=gu dx (λx hx=>by
  simp only [List.mem_cons,List.not_mem_nil,or_false] at hx
  subst hx;exact hp)
 have hid:=ho.ids
 cases hs:(ax P M false u ph s).2 with
 | none=>
  rw [hs] at ij ho
  cases ho with
  | fin h=>
   rcases AT with rfl | ⟨rfl,F8⟩
   ·cases take
    ·have wy:=wA IN P c M aA inv af ay 0 P.n P.k P.att t v i tries (j 0) ref (j 1) (j 2) (j 3) (j 4) ag (j 5) err val .au 0 (aY P 80 j2 false u ph s) row' (c' 0) (c' 1) (c' 2) (c' 3) (c' 4) (aG P (ax P M false u ph s).1) (j 7)
     exact bI (M':=(ax P M false u ph s).1) (o':=⟨false,v,tries,ref,0,ag,err,val,.mark⟩) (rj:=λq=>if q=6 then 0 else j q) (c':=c') (e:=by simp [aj,bF,hs,Op.gv,Op.cM]) (hv:=wy)
    ·by_cases bf:P.att<tries+1
     ·have uC:aq .gtr ((tries+1:Nat):Int) (P.att:Int)=true:=by rw [fU];exact decide_eq_true bf
      have wy:=wA IP P c M aA inv af ay 0 P.n P.k P.att t v i tries (j 0) ref (j 1) (j 2) (j 3) (j 4) ag (j 5) err val .au 0 (aY P 80 j2 false u ph s) row' (c' 0) (c' 1) (c' 2) (c' 3) (c' 4) (aG P (ax P M false u ph s).1) (j 7)
      rw [hT] at wy
      exact bI (M':=(ax P M false u ph s).1) (o':=⟨true,v,tries+1,ref,0,ag,err,val,.ag⟩) (rj:=λq=>if q=6 then 0 else j q) (c':=c') (e:=by simp [aj,bF,hs,Op.gv,Op.cM,Op.aH,bf]) (hv:=wy)
     ·have uC:aq .gtr ((tries+1:Nat):Int) (P.att:Int)=false:=by rw [fU];exact decide_eq_false bf
      have wy:=wA IQ P c M aA inv af ay 0 P.n P.k P.att t v i tries (j 0) ref (j 1) (j 2) (j 3) (j 4) ag (j 5) err val .au 0 (aY P 80 j2 false u ph s) row' (c' 0) (c' 1) (c' 2) (c' 3) (c' 4) (aG P (ax P M false u ph s).1) (j 7)
      rw [hT] at wy
      exact bI (M':=(ax P M false u ph s).1) (o':=⟨true,v,tries+1,ref,i,ag,err,val,.head⟩) (rj:=λq=>if q=6 then 0 else j q) (c':=c') (e:=by simp [aj,bF,hs,Op.gv,Op.cM,Op.aH,bf]) (hv:=wy)
   ·by_cases cF:i+1<P.n
    ·have c9:aq .lss ((i+1:Nat):Int) (P.n:Int)=true:=by rw [jB];exact decide_eq_true cF
     have wy:=wA Ja3 P c M aA inv af ay 0 P.n P.k P.att t v i tries (j 0) ref (j 1) (j 2) (j 3) (j 4) ag (j 5) err val .au 0 (aY P 80 j2 false u ph s) row' (c' 0) (c' 1) (c' 2) (c' 3) (c' 4) (aG P (ax P M false u ph s).1) take (j 7)
     rw [hI] at wy
     exact bI (M':=(ax P M false u ph s).1) (o':=⟨take,v,tries,ref,i+1,ag,err,val,.b8⟩) (rj:=λq=>if q=6 then 2 else j q) (c':=c') (e:=by simp [aj,bF,hs,Op.gv,Op.cD,cF]) (hv:=wy)
    ·have c9:aq .lss ((i+1:Nat):Int) (P.n:Int)=false:=by rw [jB];exact decide_eq_false cF
     cases take
     ·have wy:=wA IS P c M aA inv af ay 0 P.n P.k P.att t v i tries (j 0) ref (j 1) (j 2) (j 3) (j 4) ag (j 5) err val .au 0 (aY P 80 j2 false u ph s) row' (c' 0) (c' 1) (c' 2) (c' 3) (c' 4) (aG P (ax P M false u ph s).1) (j 7)
      rw [hI] at wy
      exact bI (M':=(ax P M false u ph s).1) (o':=⟨false,v,tries,ref,i+1,ag,err,val,.b8⟩) (done:=true) (rj:=j) (row':=gR t ⟨false,v,tries,ref,i+1,ag,err,val,.b8⟩ 17 2 (j 0) (j 1) (j 2) (j 3) (j 4) (j 5) .aX .au) (c':=c') (e:=by simp [aj,bF,hs,Op.gv,Op.cD,cF]) (hv:=wy)
     ·have wy:=wA IT P c M aA inv af ay 0 P.n P.k P.att t v i tries (j 0) ref (j 1) (j 2) (j 3) (j 4) ag (j 5) err val .au 0 (aY P 80 j2 false u ph s) row' (c' 0) (c' 1) (c' 2) (c' 3) (c' 4) (aG P (ax P M false u ph s).1) (j 7)
      rw [hI] at wy
      exact bI (M':=(ax P M false u ph s).1) (o':=⟨true,v,tries,ref,i+1,ag,err,val,.result⟩) (rj:=λq=>if q=6 then 2 else j q) (c':=c') (e:=by simp [aj,bF,hs,Op.gv,Op.cD,cF]) (hv:=wy)
  | @Bw _ z h fx=>
   cases fx
 | some s'=>
  rw [hs] at ij ho
  cases ho with
  | @go _ k j' nK hk=>
   rcases hk with rfl | ⟨h,_⟩
   ·have wy:=wA NS P c M aA inv af ay 0 P.n P.k P.att t v i tries (j 0) ref (j 1) (j 2) (j 3) (j 4) ag (j 5) err val .au 0 (aY P 80 j2 false u ph s) (aY P 80 j' false u ph s') (c' 0) (c' 1) (c' 2) (c' 3) (c' 4) (aG P (ax P M false u ph s).1) take (ug fo) (j 7)
    exact bI (M':=(ax P M false u ph s).1) (o':=⟨take,v,tries,ref,i,ag,err,val,.sub (.hp false u ph s') fo⟩) (rj:=j) (c':=c') (e:=by simp [aj,bF,hs]) (hv:=wy)
   ·cases h
  | @tl a k j' j'' hk=>
   rcases hk with ⟨rfl,rfl⟩ | ⟨h,rfl,rfl⟩
   ·have wy:=wA C9 P c M aA inv af ay 0 P.n P.k P.att t v i tries (j 0) ref (j 1) (j 2) (j 3) (j 4) ag (j 5) err val .au 0 (aY P 80 j2 false u ph s) (aY P 97 j' false u ph (.sub (.tl .e) false)) (c' 0) (c' 1) (c' 2) (c' 3) (c' 4) (aG P (ax P M false u ph s).1) take (ug fo) (bk P j'' (.tl .e)) (j 7)
    exact bI (M':=(ax P M false u ph s).1) (o':=⟨take,v,tries,ref,i,ag,err,val,.sub (.hp false u ph (.sub (.tl .e) false)) fo⟩) (rj:=j) (c':=c') (k:=2) (aN:=[(97,bk P j'' (.tl .e))]) (e:=by simp [aj,bF,hs]) (hv:=wy)
   ·cases h
  | @Rf z j' j''=>
   have wy:=wA Da P c M aA inv af ay 0 P.n P.k P.att t v i tries (j 0) ref (j 1) (j 2) (j 3) (j 4) ag (j 5) err val .au 0 (aY P 80 j2 false u ph s) (aY P 100 j' false u ph (.sub (.tl .e) true)) (c' 0) (c' 1) (c' 2) (c' 3) (c' 4) (aG P (ax P M false u ph s).1) take (ug fo) (bU z) (bk P j'' (.tl .e)) (Jb2 af u eV) (j 7)
   exact bI (M':=(ax P M false u ph s).1) (o':=⟨take,v,tries,ref,i,ag,err,val,.sub (.hp false u ph (.sub (.tl .e) true)) fo⟩) (rj:=j) (marks':=Jb2 af u eV) (c':=c') (k:=5) (aN:=[(98,bU z),(100,bk P j'' (.tl .e))]) (e:=by simp [aj,bF,hs]) (hv:=wy)
  | @hd j' j''=>
   have wy:=wA C9 P c M aA inv af ay 0 P.n P.k P.att t v i tries (j 0) ref (j 1) (j 2) (j 3) (j 4) ag (j 5) err val .au 0 (aY P 80 j2 false u ph s) (aY P 97 j' false u ph (.sub (.hd .e) false)) (c' 0) (c' 1) (c' 2) (c' 3) (c' 4) (aG P (ax P M false u ph s).1) take (ug fo) (bk P j'' (.hd .e)) (j 7)
   exact bI (M':=(ax P M false u ph s).1) (o':=⟨take,v,tries,ref,i,ag,err,val,.sub (.hp false u ph (.sub (.hd .e) false)) fo⟩) (rj:=j) (c':=c') (k:=2) (aN:=[(97,bk P j'' (.hd .e))]) (e:=by simp [aj,bF,hs]) (hv:=wy)
  | @Rg z j' j''=>
   have wy:=wA Da P c M aA inv af ay 0 P.n P.k P.att t v i tries (j 0) ref (j 1) (j 2) (j 3) (j 4) ag (j 5) err val .au 0 (aY P 80 j2 false u ph s) (aY P 100 j' false u ph (.sub (.hd .e) false)) (c' 0) (c' 1) (c' 2) (c' 3) (c' 4) (aG P (ax P M false u ph s).1) take (ug fo) (bU z) (bk P j'' (.hd .e)) (Jb2 af u eV) (j 7)
   exact bI (M':=(ax P M false u ph s).1) (o':=⟨take,v,tries,ref,i,ag,err,val,.sub (.hp false u ph (.sub (.hd .e) false)) fo⟩) (rj:=j) (marks':=Jb2 af u eV) (c':=c') (k:=5) (aN:=[(98,bU z),(100,bk P j'' (.hd .e))]) (e:=by simp [aj,bF,hs]) (hv:=wy)
theorem N6 (hP:PB P) (iN:P.n<=4) (hb:b<524288) (bi:BI P b M) (hc:m6 P b t o) (VE:s.sX=false) (eF:o.st= .sub (.hp true u ph s) fo) (tb:pL P M t o) (j j2 j3:Nat->Int) (ay:Nat->AV) (aA:Int) (inv af:Nat->AV) (c:Nat->Int):eA P t (bp t 64 48 j o) o [(64,aY P 80 j2 true u ph s)] M ay aA inv af c:=by
 obtain ⟨n1,n2⟩:=hP.n
 obtain ⟨k1,k2⟩:=hP.k
 obtain ⟨take,v,tries,ref,i,ag,err,val,os⟩:=o
 obtain ⟨ht,hv,lf,nu,eY,hi,eX⟩:=hc
 simp only at ht hv lf nu eY hi eX
 cases eF
 have hT:i64.wrap ((tries:Int)+1)=((tries+1:Nat):Int):=gg (by omega)
 have hI:i64.wrap ((i:Int)+1)=((i+1:Nat):Int):=gg (by omega)
 obtain ⟨hu,O7,AT⟩:=tb
 obtain ⟨c',row',marks',k,aN,hp,ho⟩:=Ni hP iN hb bi (ph:=ph) hu VE O7 j2 aA inv af c
 have ij:eu prog (dw [(279,wk P (aY P 80 j2 true u ph s) row' aA inv af marks' c c' M (ax P M true u ph s).1 (.bool (ax P M true u ph s).2.isNone) k aN)] bz):=gu dx (λx hx=>by
  simp only [List.mem_cons,List.not_mem_nil,or_false] at hx
  subst hx;exact hp)
 have hid:=ho.ids
 cases hs:(ax P M true u ph s).2 with
 | none=>
  rw [hs] at ij ho
  cases ho with
  | fin h=>
   rcases AT with rfl | ⟨rfl,F8⟩
   ·cases take
    ·have wy:=wA IU P c M aA inv af ay 0 P.n P.k P.att t v i tries (j 0) ref (j 1) (j 2) (j 3) (j 4) ag (j 5) err val .au 0 (aY P 80 j2 true u ph s) row' (c' 0) (c' 1) (c' 2) (c' 3) (c' 4) (aG P (ax P M true u ph s).1) (j 7)
     exact bI (M':=(ax P M true u ph s).1) (o':=⟨false,v,tries,ref,0,ag,err,val,.mark⟩) (rj:=λq=>if q=6 then 0 else j q) (c':=c') (e:=by simp [aj,bF,hs,Op.gv,Op.cM]) (hv:=wy)
    ·by_cases bf:P.att<tries+1
     ·have uC:aq .gtr ((tries+1:Nat):Int) (P.att:Int)=true:=by rw [fU];exact decide_eq_true bf
      have wy:=wA IV P c M aA inv af ay 0 P.n P.k P.att t v i tries (j 0) ref (j 1) (j 2) (j 3) (j 4) ag (j 5) err val .au 0 (aY P 80 j2 true u ph s) row' (c' 0) (c' 1) (c' 2) (c' 3) (c' 4) (aG P (ax P M true u ph s).1) (j 7)
      rw [hT] at wy
      exact bI (M':=(ax P M true u ph s).1) (o':=⟨true,v,tries+1,ref,0,ag,err,val,.ag⟩) (rj:=λq=>if q=6 then 0 else j q) (c':=c') (e:=by simp [aj,bF,hs,Op.gv,Op.cM,Op.aH,bf]) (hv:=wy)
     ·have uC:aq .gtr ((tries+1:Nat):Int) (P.att:Int)=false:=by rw [fU];exact decide_eq_false bf
      have wy:=wA IW P c M aA inv af ay 0 P.n P.k P.att t v i tries (j 0) ref (j 1) (j 2) (j 3) (j 4) ag (j 5) err val .au 0 (aY P 80 j2 true u ph s) row' (c' 0) (c' 1) (c' 2) (c' 3) (c' 4) (aG P (ax P M true u ph s).1) (j 7)
      rw [hT] at wy
      exact bI (M':=(ax P M true u ph s).1) (o':=⟨true,v,tries+1,ref,i,ag,err,val,.head⟩) (rj:=λq=>if q=6 then 0 else j q) (c':=c') (e:=by simp [aj,bF,hs,Op.gv,Op.cM,Op.aH,bf]) (hv:=wy)
   ·by_cases cF:i+1<P.n
    ·have c9:aq .lss ((i+1:Nat):Int) (P.n:Int)=true:=by rw [jB];exact decide_eq_true cF
     have wy:=wA IX P c M aA inv af ay 0 P.n P.k P.att t v i tries (j 0) ref (j 1) (j 2) (j 3) (j 4) ag (j 5) err val .au 0 (aY P 80 j2 true u ph s) row' (c' 0) (c' 1) (c' 2) (c' 3) (c' 4) (aG P (ax P M true u ph s).1) take (j 7)
     rw [hI] at wy
     exact bI (M':=(ax P M true u ph s).1) (o':=⟨take,v,tries,ref,i+1,ag,err,val,.b8⟩) (rj:=λq=>if q=6 then 2 else j q) (c':=c') (e:=by simp [aj,bF,hs,Op.gv,Op.cD,cF]) (hv:=wy)
    ·have c9:aq .lss ((i+1:Nat):Int) (P.n:Int)=false:=by rw [jB];exact decide_eq_false cF
     cases take
     ·have wy:=wA IY P c M aA inv af ay 0 P.n P.k P.att t v i tries (j 0) ref (j 1) (j 2) (j 3) (j 4) ag (j 5) err val .au 0 (aY P 80 j2 true u ph s) row' (c' 0) (c' 1) (c' 2) (c' 3) (c' 4) (aG P (ax P M true u ph s).1) (j 7)
      rw [hI] at wy
      exact bI (M':=(ax P M true u ph s).1) (o':=⟨false,v,tries,ref,i+1,ag,err,val,.b8⟩) (done:=true) (rj:=j) (row':=gR t ⟨false,v,tries,ref,i+1,ag,err,val,.b8⟩ 17 2 (j 0) (j 1) (j 2) (j 3) (j 4) (j 5) .aX .au) (c':=c') (e:=by simp [aj,bF,hs,Op.gv,Op.cD,cF]) (hv:=wy)
     ·have wy:=wA IZ P c M aA inv af ay 0 P.n P.k P.att t v i tries (j 0) ref (j 1) (j 2) (j 3) (j 4) ag (j 5) err val .au 0 (aY P 80 j2 true u ph s) row' (c' 0) (c' 1) (c' 2) (c' 3) (c' 4) (aG P (ax P M true u ph s).1) (j 7)
      rw [hI] at wy
      exact bI (M':=(ax P M true u ph s).1) (o':=⟨true,v,tries,ref,i+1,ag,err,val,.result⟩) (rj:=λq=>if q=6 then 2 else j q) (c':=c') (e:=by simp [aj,bF,hs,Op.gv,Op.cD,cF]) (hv:=wy)
  | @Bw _ z h fx=>
   rcases AT with rfl | ⟨rfl,F8⟩
   ·cases take
    ·have wy:=wA I0 P c M aA inv af ay 0 P.n P.k P.att t v i tries (j 0) ref (j 1) (j 2) (j 3) (j 4) ag (j 5) err val .au 0 (aY P 80 j2 true u ph s) row' (c' 0) (c' 1) (c' 2) (c' 3) (c' 4) (aG P (ax P M true u ph s).1) (bU z) (Jb2 af u eV) (j 7)
     exact bI (M':=(ax P M true u ph s).1) (o':=⟨false,v,tries,ref,0,ag,err,val,.mark⟩) (rj:=λq=>if q=6 then 0 else j q) (marks':=Jb2 af u eV) (c':=c') (k:=3) (aN:=[(98,bU z)]) (e:=by simp [aj,bF,hs,Op.gv,Op.cM]) (hv:=wy)
    ·by_cases bf:P.att<tries+1
     ·have uC:aq .gtr ((tries+1:Nat):Int) (P.att:Int)=true:=by rw [fU];exact decide_eq_true bf
      have wy:=wA I1 P c M aA inv af ay 0 P.n P.k P.att t v i tries (j 0) ref (j 1) (j 2) (j 3) (j 4) ag (j 5) err val .au 0 (aY P 80 j2 true u ph s) row' (c' 0) (c' 1) (c' 2) (c' 3) (c' 4) (aG P (ax P M true u ph s).1) (bU z) (Jb2 af u eV) (j 7)
      rw [hT] at wy
      exact bI (M':=(ax P M true u ph s).1) (o':=⟨true,v,tries+1,ref,0,ag,err,val,.ag⟩) (rj:=λq=>if q=6 then 0 else j q) (marks':=Jb2 af u eV) (c':=c') (k:=3) (aN:=[(98,bU z)]) (e:=by simp [aj,bF,hs,Op.gv,Op.cM,Op.aH,bf]) (hv:=wy)
     ·have uC:aq .gtr ((tries+1:Nat):Int) (P.att:Int)=false:=by rw [fU];exact decide_eq_false bf
      have wy:=wA I2 P c M aA inv af ay 0 P.n P.k P.att t v i tries (j 0) ref (j 1) (j 2) (j 3) (j 4) ag (j 5) err val .au 0 (aY P 80 j2 true u ph s) row' (c' 0) (c' 1) (c' 2) (c' 3) (c' 4) (aG P (ax P M true u ph s).1) (bU z) (Jb2 af u eV) (j 7)
      rw [hT] at wy
      exact bI (M':=(ax P M true u ph s).1) (o':=⟨true,v,tries+1,ref,i,ag,err,val,.head⟩) (rj:=λq=>if q=6 then 0 else j q) (marks':=Jb2 af u eV) (c':=c') (k:=3) (aN:=[(98,bU z)]) (e:=by simp [aj,bF,hs,Op.gv,Op.cM,Op.aH,bf]) (hv:=wy)
   ·by_cases cF:i+1<P.n
    ·have c9:aq .lss ((i+1:Nat):Int) (P.n:Int)=true:=by rw [jB];exact decide_eq_true cF
     have wy:=wA I3 P c M aA inv af ay 0 P.n P.k P.att t v i tries (j 0) ref (j 1) (j 2) (j 3) (j 4) ag (j 5) err val .au 0 (aY P 80 j2 true u ph s) row' (c' 0) (c' 1) (c' 2) (c' 3) (c' 4) (aG P (ax P M true u ph s).1) take (bU z) (Jb2 af u eV) (j 7)
     rw [hI] at wy
     exact bI (M':=(ax P M true u ph s).1) (o':=⟨take,v,tries,ref,i+1,ag,err,val,.b8⟩) (rj:=λq=>if q=6 then 2 else j q) (marks':=Jb2 af u eV) (c':=c') (k:=3) (aN:=[(98,bU z)]) (e:=by simp [aj,bF,hs,Op.gv,Op.cD,cF]) (hv:=wy)
    ·have c9:aq .lss ((i+1:Nat):Int) (P.n:Int)=false:=by rw [jB];exact decide_eq_false cF
     cases take
     ·have wy:=wA I4 P c M aA inv af ay 0 P.n P.k P.att t v i tries (j 0) ref (j 1) (j 2) (j 3) (j 4) ag (j 5) err val .au 0 (aY P 80 j2 true u ph s) row' (c' 0) (c' 1) (c' 2) (c' 3) (c' 4) (aG P (ax P M true u ph s).1) (bU z) (Jb2 af u eV) (j 7)
      rw [hI] at wy
      exact bI (M':=(ax P M true u ph s).1) (o':=⟨false,v,tries,ref,i+1,ag,err,val,.b8⟩) (done:=true) (rj:=j) (row':=gR t ⟨false,v,tries,ref,i+1,ag,err,val,.b8⟩ 17 2 (j 0) (j 1) (j 2) (j 3) (j 4) (j 5) .aX .au) (marks':=Jb2 af u eV) (c':=c') (k:=3) (aN:=[(98,bU z)]) (e:=by simp [aj,bF,hs,Op.gv,Op.cD,cF]) (hv:=wy)
     ·have wy:=wA I5 P c M aA inv af ay 0 P.n P.k P.att t v i tries (j 0) ref (j 1) (j 2) (j 3) (j 4) ag (j 5) err val .au 0 (aY P 80 j2 true u ph s) row' (c' 0) (c' 1) (c' 2) (c' 3) (c' 4) (aG P (ax P M true u ph s).1) (bU z) (Jb2 af u eV) (j 7)
      rw [hI] at wy
      exact bI (M':=(ax P M true u ph s).1) (o':=⟨true,v,tries,ref,i+1,ag,err,val,.result⟩) (rj:=λq=>if q=6 then 2 else j q) (marks':=Jb2 af u eV) (c':=c') (k:=3) (aN:=[(98,bU z)]) (e:=by simp [aj,bF,hs,Op.gv,Op.cD,cF]) (hv:=wy)
 | some s'=>
  rw [hs] at ij ho
  cases ho with
  | @go _ k j' nK hk=>
   rcases hk with rfl | ⟨_,rfl⟩
   ·have wy:=wA NT P c M aA inv af ay 0 P.n P.k P.att t v i tries (j 0) ref (j 1) (j 2) (j 3) (j 4) ag (j 5) err val .au 0 (aY P 80 j2 true u ph s) (aY P 80 j' true u ph s') (c' 0) (c' 1) (c' 2) (c' 3) (c' 4) (aG P (ax P M true u ph s).1) take (ug fo) (j 7)
    exact bI (M':=(ax P M true u ph s).1) (o':=⟨take,v,tries,ref,i,ag,err,val,.sub (.hp true u ph s') fo⟩) (rj:=j) (c':=c') (e:=by simp [aj,bF,hs]) (hv:=wy)
   ·have wy:=wA NU P c M aA inv af ay 0 P.n P.k P.att t v i tries (j 0) ref (j 1) (j 2) (j 3) (j 4) ag (j 5) err val .au 0 (aY P 80 j2 true u ph s) (aY P 80 j' true u ph s') (c' 0) (c' 1) (c' 2) (c' 3) (c' 4) (aG P (ax P M true u ph s).1) take (ug fo) (j 7)
    exact bI (M':=(ax P M true u ph s).1) (o':=⟨take,v,tries,ref,i,ag,err,val,.sub (.hp true u ph s') fo⟩) (rj:=j) (c':=c') (k:=1) (e:=by simp [aj,bF,hs]) (hv:=wy)
  | @tl a k j' j'' hk=>
   rcases hk with ⟨rfl,rfl⟩ | ⟨h,rfl,rfl⟩
   ·have wy:=wA Db P c M aA inv af ay 0 P.n P.k P.att t v i tries (j 0) ref (j 1) (j 2) (j 3) (j 4) ag (j 5) err val .au 0 (aY P 80 j2 true u ph s) (aY P 97 j' true u ph (.sub (.tl .e) false)) (c' 0) (c' 1) (c' 2) (c' 3) (c' 4) (aG P (ax P M true u ph s).1) take (ug fo) (bk P j'' (.tl .e)) (j 7)
    exact bI (M':=(ax P M true u ph s).1) (o':=⟨take,v,tries,ref,i,ag,err,val,.sub (.hp true u ph (.sub (.tl .e) false)) fo⟩) (rj:=j) (c':=c') (k:=2) (aN:=[(97,bk P j'' (.tl .e))]) (e:=by simp [aj,bF,hs]) (hv:=wy)
   ·have wy:=wA NV P c M aA inv af ay 0 P.n P.k P.att t v i tries (j 0) ref (j 1) (j 2) (j 3) (j 4) ag (j 5) err val .au 0 (aY P 80 j2 true u ph s) (aY P 98 j' true u ph (.sub (.tl .e) false)) (c' 0) (c' 1) (c' 2) (c' 3) (c' 4) (aG P (ax P M true u ph s).1) take (ug fo) (bk P j'' (.tl .e)) (j 7)
    exact bI (M':=(ax P M true u ph s).1) (o':=⟨take,v,tries,ref,i,ag,err,val,.sub (.hp true u ph (.sub (.tl .e) false)) fo⟩) (rj:=j) (c':=c') (k:=3) (aN:=[(98,bk P j'' (.tl .e))]) (e:=by simp [aj,bF,hs]) (hv:=wy)
  | @Rf z j' j''=>
   have wy:=wA Dc P c M aA inv af ay 0 P.n P.k P.att t v i tries (j 0) ref (j 1) (j 2) (j 3) (j 4) ag (j 5) err val .au 0 (aY P 80 j2 true u ph s) (aY P 100 j' true u ph (.sub (.tl .e) true)) (c' 0) (c' 1) (c' 2) (c' 3) (c' 4) (aG P (ax P M true u ph s).1) take (ug fo) (bU z) (bk P j'' (.tl .e)) (Jb2 af u eV) (j 7)
   exact bI (M':=(ax P M true u ph s).1) (o':=⟨take,v,tries,ref,i,ag,err,val,.sub (.hp true u ph (.sub (.tl .e) true)) fo⟩) (rj:=j) (marks':=Jb2 af u eV) (c':=c') (k:=5) (aN:=[(98,bU z),(100,bk P j'' (.tl .e))]) (e:=by simp [aj,bF,hs]) (hv:=wy)
  | @hd j' j''=>
   have wy:=wA Db P c M aA inv af ay 0 P.n P.k P.att t v i tries (j 0) ref (j 1) (j 2) (j 3) (j 4) ag (j 5) err val .au 0 (aY P 80 j2 true u ph s) (aY P 97 j' true u ph (.sub (.hd .e) false)) (c' 0) (c' 1) (c' 2) (c' 3) (c' 4) (aG P (ax P M true u ph s).1) take (ug fo) (bk P j'' (.hd .e)) (j 7)
   exact bI (M':=(ax P M true u ph s).1) (o':=⟨take,v,tries,ref,i,ag,err,val,.sub (.hp true u ph (.sub (.hd .e) false)) fo⟩) (rj:=j) (c':=c') (k:=2) (aN:=[(97,bk P j'' (.hd .e))]) (e:=by simp [aj,bF,hs]) (hv:=wy)
  | @Rg z j' j''=>
   have wy:=wA Dc P c M aA inv af ay 0 P.n P.k P.att t v i tries (j 0) ref (j 1) (j 2) (j 3) (j 4) ag (j 5) err val .au 0 (aY P 80 j2 true u ph s) (aY P 100 j' true u ph (.sub (.hd .e) false)) (c' 0) (c' 1) (c' 2) (c' 3) (c' 4) (aG P (ax P M true u ph s).1) take (ug fo) (bU z) (bk P j'' (.hd .e)) (Jb2 af u eV) (j 7)
   exact bI (M':=(ax P M true u ph s).1) (o':=⟨take,v,tries,ref,i,ag,err,val,.sub (.hp true u ph (.sub (.hd .e) false)) fo⟩) (rj:=j) (marks':=Jb2 af u eV) (c':=c') (k:=5) (aN:=[(98,bU z),(100,bk P j'' (.hd .e))]) (e:=by simp [aj,bF,hs]) (hv:=wy)
end
end Qk
end Go.Proofs.YtpkfimijnkkbjaaGreat
