/- How great the queue's numbers are: what the words and the operations hold can be told by them. -/
import Derived.Test.YtpkfimijnkkbjaaGreatJ13
set_option linter.unusedVariables false
namespace Go.Proofs.YtpkfimijnkkbjaaGreat
namespace Qk
def Oa (b:Nat):Tl->Prop
 | .f _ _ _ d=>d.ag<=b
 | _=>True
def PA (b:Nat):Hd->Prop
 | .v _ _ _ d=>d.ag<=b
 | .f _ _ _ d y=>d.ag<=b∧y<16777216
 | _=>True
def Rl (b:Nat):Fn->Prop
 | .tl t=>Oa b t
 | .hd t=>PA b t
def WZ (P:cv) (w:Nat×Nat):Prop:=w.1<1048576∧w.2<1073741824∧(w.2=0∨ ∃ u,P.own w.2=some u)
def PC (P:cv) (b:Nat):Hs->Prop
 | .ey _ _ _ w=>WZ P w
 | .sub f _=>Rl b f
 | _=>True
def Rm (P:cv) (b:Nat):Sb->Prop
 | .fn f=>Rl b f
 | .hp _ _ _ s=>PC P b s
def Ob (P:cv) (b:Nat):Os->Prop
 | .Jb6 _ _ w=>WZ P w
 | .take _ y=>y<16777216
 | .sub s _=>Rm P b s
 | _=>True
structure zI (P:cv) (b t:Nat) (o:Op):Prop where
 c:m6 P b t o
 z:Ob P b o.st
 JD: ∀ h f,o.st= .sub (.fn (.hd h)) f->o.take=true
 vr:o.st= .value->1<=bH o.ref
section
variable {P:cv} {V:Nat->Nat->Nat} {kd:Nat->Nat->Bool} {pos:Nat->Nat} {g:Gh} {M M':Mm} {b b' t u ph:Nat} {o:Op}
theorem Oa.mono (h:b<=b') {s:Tl} (hs:Oa b s):Oa b' s:=by
 cases s<;>first | trivial | exact Nat.le_trans hs h
theorem PA.mono (h:b<=b') {s:Hd} (hs:PA b s):PA b' s:=by
 cases s<;>first | trivial | exact Nat.le_trans hs h | exact ⟨Nat.le_trans hs.1 h,hs.2⟩
theorem Rl.mono (h:b<=b') {s:Fn} (hs:Rl b s):Rl b' s:=by
 cases s
 ·exact Oa.mono h hs
 ·exact PA.mono h hs
theorem PC.mono (h:b<=b') {s:Hs} (hs:PC P b s):PC P b' s:=by
 cases s<;>first | trivial | exact hs | exact Rl.mono h hs
theorem Rm.mono (h:b<=b') {s:Sb} (hs:Rm P b s):Rm P b' s:=by
 cases s
 ·exact Rl.mono h hs
 ·exact PC.mono h hs
theorem Ob.mono (h:b<=b') {s:Os} (hs:Ob P b s):Ob P b' s:=by
 cases s<;>first | trivial | exact hs | exact Rm.mono h hs
theorem m6.mono (h:b<=b') (hc:m6 P b t o):m6 P b' t o:=⟨hc.t,hc.v,hc.ref,Nat.le_trans hc.tries h,Nat.le_trans hc.ag h,hc.i,hc.val⟩
theorem zI.mono (h:b<=b') (hz:zI P b t o):zI P b' t o:=⟨hz.c.mono h,hz.z.mono h,hz.JD,hz.vr⟩
theorem BI.mono (h:b<=b') (bi:BI P b M):BI P b' M:=⟨bi.head,bi.tail,λu=>⟨(bi.ds u).1,Nat.le_trans (bi.ds u).2 h⟩,bi.nx,bi.tk,bi.vl,λp=>by have:=bi.mr p;omega,bi.own⟩
theorem ck (gi:GI P V pos g M) (bi:BI P b M) (hb:b<524288) {i:Nat} (hi:i<=g.m):g.L i<1073741824:=by
 have h1:=gi.old i hi
 have h2:=bi.mr (aO (g.L i))
 unfold bH at h1
 omega
theorem Up (bi:BI P b M) (hb:b<524288) {d:Ds} (h:M.ds u=d):BD d:=by
 subst h
 exact ⟨(bi.ds u).1,by have:=(bi.ds u).2;omega⟩
theorem tc (gi:GI P V pos g M) (bi:BI P b M) (hb:b<524288) {j:Option Nat} {s:Tl} (h:xC P g M j s) (hz:Oa b s):Xh P M s:=by
 have hm:=gi.tm
 cases s with
 | e=>show P.okp M.tail;rw [gi.tl];exact (gi.okp _ (by omega)).1
 | n last=>
  obtain ⟨i,h1,h2,_⟩:=h
  subst h2
  exact ⟨(gi.okp _ (by omega)).1,ck gi bi hb (by omega)⟩
 | d last x u=>
  obtain ⟨i,h1,h2,h3,h4,h5,_⟩:=h
  subst h3 h4
  exact ⟨HK h5,ck gi bi hb (by omega),ck gi bi hb (by omega)⟩
 | f last x u d=>
  obtain ⟨i,h1,h2,h3,h4,h5,h6,_⟩:=h
  subst h3 h4
  have hz:d.ag<=b:=hz
  exact ⟨HK h5,ck gi bi hb (by omega),ck gi bi hb (by omega),by rw [h6.2.2];exact ck gi bi hb (by omega),by omega⟩
 | s last x=>
  obtain ⟨i,h1,h2,h3,h4,_⟩:=h
  subst h3 h4
  exact ⟨ck gi bi hb (by omega),ck gi bi hb (by omega)⟩
theorem qB (gi:GI P V pos g M) (bi:BI P b M) (hb:b<524288) {j:Option Nat} {s:Hd} (h:AJ P V g M j s) (hz:PA b s):Xi P M s:=by
 have hm:=gi.tm
 have ht:=gi.ht
 cases s with
 | e=>show P.okp M.head;rw [gi.hd];exact (gi.okp _ (by omega)).1
 | n first=>
  obtain ⟨i,h1,h2,_⟩:=h
  subst h2
  exact ⟨(gi.okp _ (by omega)).1,ck gi bi hb (by omega)⟩
 | t first x=>
  obtain ⟨i,h1,h2,h3,h4,_⟩:=h
  subst h3 h4
  exact ⟨(gi.okp _ (by omega)).1,ck gi bi hb (by omega),ck gi bi hb (by omega)⟩
 | d first x u=>
  obtain ⟨i,h1,h2,h3,h4,h5,h6,_⟩:=h
  subst h3 h4
  exact ⟨h6,ck gi bi hb (by omega),ck gi bi hb (by omega)⟩
 | v first x u d=>
  obtain ⟨i,h1,h2,h3,h4,h5,h6,h7,_⟩:=h
  subst h3 h4
  have hz:d.ag<=b:=hz
  exact ⟨(gi.okp _ (by omega)).1,ck gi bi hb (by omega),ck gi bi hb (by omega),by rw [h7.2.2];exact ck gi bi hb (by omega),by omega⟩
 | f first x u d y=>
  obtain ⟨i,h1,h2,h3,h4,h5,h6,h7,_⟩:=h
  subst h3 h4
  have hz:d.ag<=b∧y<16777216:=hz
  exact ⟨h6,ck gi bi hb (by omega),ck gi bi hb (by omega),⟨by rw [h7.2.2];exact ck gi bi hb (by omega),by omega⟩,hz.2⟩
 | s first x=>
  obtain ⟨i,h1,h2,h3,h4,_⟩:=h
  subst h3 h4
  exact ⟨ck gi bi hb (by omega),ck gi bi hb (by omega)⟩
 | m first=>
  obtain ⟨i,h1,h2,_⟩:=h
  subst h2
  exact ⟨(gi.okp _ (by omega)).1,ck gi bi hb (by omega)⟩
theorem vi (gi:GI P V pos g M) (bi:BI P b M) (hb:b<524288) {d:Ds} {k:Nat} (eY:ph<=(M.ds u).ag) (h:Dt g M u ph d k):BD d:=by
 have hm:=gi.tm
 have ht:=gi.ht
 have hp:=(bi.ds u).2
 obtain ⟨_,_,h3,h4⟩:=h
 refine ⟨?_,by omega⟩
 rcases h4 with h4 | ⟨i,_,_,h5,h6,_⟩
 ·rw [h4];omega
 ·rw [<- h6];exact ck gi bi hb (by omega)
theorem BM (gi:GI P V pos g M) (bi:BI P b M) (hb:b<524288) {take:Bool} {s:Hs} (h:yX P V g M take u ph s) (hz:PC P b s):Uj P M take s:=by
 have hm:=gi.tm
 have ht:=gi.ht
 obtain ⟨hu,eY,_,hs,fx⟩:=h
 cases s with
 | look=>trivial
 | iw=>exact fx
 | gG last=>
  obtain ⟨i,h1,h2⟩:=hs
  subst h2
  exact ⟨fx,(gi.okp _ (by omega)).1,ck gi bi hb (by omega)⟩
 | fv last=>
  obtain ⟨i,h1,h2⟩:=hs
  subst h2
  exact ⟨fx,(gi.okp _ (by omega)).1,ck gi bi hb (by omega)⟩
 | kL last d=>
  obtain ⟨i,h1,h2,_,_,h5,_,h7⟩:=hs
  subst h2
  refine ⟨fx,(gi.okp _ (by omega)).1,ck gi bi hb (by omega),?_,?_⟩
  ·rcases h7 with h7 | ⟨k,h7,h8⟩
   ·exact (Up bi hb h7).1
   ·rw [<- h8];exact ck gi bi hb h7
  ·have:=(bi.ds u).2;omega
 | iz d=>exact ⟨fx,vi gi bi hb eY hs.1⟩
 | ji d first=>
  obtain ⟨i,h1,h2,h3,_⟩:=hs
  subst h2
  exact ⟨fx,vi gi bi hb eY h3,(gi.okp _ (by omega)).1,ck gi bi hb (by omega)⟩
 | jj d first last=>
  obtain ⟨i,k,h1,h2,h3,_,h4,h5,h6⟩:=hs
  subst h2 h6
  exact ⟨fx,vi gi bi hb eY h3,(gi.okp _ (by omega)).1,ck gi bi hb (by omega),ck gi bi hb (by omega)⟩
 | ey d first last w=>
  obtain ⟨i,k,h1,h2,h3,_,h4,h5,h6,_⟩:=hs
  subst h2 h6
  exact ⟨fx,vi gi bi hb eY h3,(gi.okp _ (by omega)).1,ck gi bi hb (by omega),ck gi bi hb (by omega),hz.1,hz.2.1⟩
 | ff d=>
  obtain ⟨i,h1,h3,_⟩:=hs
  exact ⟨fx,vi gi bi hb eY h3⟩
 | hZ d first=>
  obtain ⟨i,h1,_,h2,h3,_⟩:=hs
  subst h2
  exact ⟨fx,vi gi bi hb eY h3,(gi.okp _ (by omega)).1,ck gi bi hb (by omega)⟩
 | eJ first=>
  obtain ⟨i,h1,_,h2,_⟩:=hs
  subst h2
  exact ⟨fx,(gi.okp _ (by omega)).1,ck gi bi hb (by omega)⟩
 | sub f bM=>
  cases f with
  | tl x=>
   cases bM with
   | true=>
    obtain ⟨k,h1,_⟩:=hs
    exact ⟨tc gi bi hb h1 hz,λ_=>fx⟩
   | false=>exact ⟨tc gi bi hb hs hz,λh=>by cases h⟩
  | hd x=>
   cases bM with
   | true=>exact hs.elim
   | false=>exact ⟨qB gi bi hb hs hz,rfl,fx⟩
theorem JE (gi:GI P V pos g M) (bi:BI P b M) (hb:b<524288) (h:OI P V kd pos g M t o) (hz:zI P b t o):pL P M t o:=by
 have hm:=gi.tm
 have ht:=gi.ht
 obtain ⟨take,v,tries,ref,i,ag,err,val,os⟩:=o
 obtain ⟨_,_,_,_,hs⟩:=h
 obtain ⟨hc,hz,JD,hvr⟩:=hz
 replace hs:HJ P V pos g M t _ os:=hs
 replace hz:Ob P b os:=hz
 cases os with
 | check=>exact hs.2.2.2.1
 | mark=>exact ⟨hs.2.2.2.2,hs.2.2.1⟩
 | ia mk=>exact ⟨hs.1.kd,own_okp' hs.1.own,hs.2.2.1,hs.2.2.2⟩
 | value=>exact ⟨hs.1.kd,own_okp' hs.1.own,hvr rfl⟩
 | next=>exact ⟨hs.1.kd,own_okp' hs.1.own⟩
 | ib=>exact ⟨hs.1.kd,own_okp' hs.1.own⟩
 | tail=>exact hs.kd
 | behind last=>
  obtain ⟨h1,i,h2,h3⟩:=hs
  subst h3
  exact ⟨h1.kd,(gi.okp _ (by omega)).1,ck gi bi hb (by omega)⟩
 | put last=>
  obtain ⟨h1,i,h2,h3⟩:=hs
  subst h3
  exact ⟨h1.kd,(gi.okp _ (by omega)).1,ck gi bi hb (by omega)⟩
 | head=>exact hs.kd
 | dX first=>
  obtain ⟨h1,i,h2,h3⟩:=hs
  subst h3
  exact ⟨h1.kd,(gi.okp _ (by omega)).1,ck gi bi hb (by omega)⟩
 | first first last=>
  obtain ⟨h1,i,k,h2,h3,h4,h5,h6⟩:=hs
  subst h3 h6
  exact ⟨h1.kd,(gi.okp _ (by omega)).1,ck gi bi hb (by omega),ck gi bi hb (by omega)⟩
 | Jb6 first last w=>
  obtain ⟨h1,i,k,h2,h3,h4,h5,h6,_⟩:=hs
  subst h3 h6
  exact ⟨h1.kd,(gi.okp _ (by omega)).1,ck gi bi hb (by omega),ck gi bi hb (by omega),hz.1,hz.2.1,hz.2.2.imp id λ⟨u,h⟩=>own_okp' h⟩
 | read first x=>
  obtain ⟨h1,i,h2,h3,h4,h5⟩:=hs
  subst h4 h5
  exact ⟨h1.kd,(gi.okp _ (by omega)).1,ck gi bi hb (by omega),(gi.okp _ (by omega)).1,ck gi bi hb (by omega)⟩
 | take first y=>
  obtain ⟨h1,i,h2,h3,h4,_⟩:=hs
  subst h4
  exact ⟨h1.kd,(gi.okp _ (by omega)).1,ck gi bi hb (by omega),hz⟩
 | ag=>exact hs.2.1
 | cO=>trivial
 | b8=>exact hs.2.2.1
 | result=>exact hs.2.1
 | sub s fo=>
  cases s with
  | fn f=>
   cases f with
   | tl x=>
    cases fo with
    | aH=>exact ⟨tc gi bi hb hs.2 hz,.inr ⟨rfl,λh e=>by cases e⟩⟩
    | fin=>exact ⟨tc gi bi hb hs.2.2.2.1 hz,.inl rfl⟩
    | cM=>exact hs.elim
    | b8=>exact hs.elim
   | hd x=>
    cases fo with
    | aH=>exact ⟨qB gi bi hb hs.2 hz,.inr ⟨rfl,λh e=>JD x _ rfl⟩⟩
    | fin=>
     refine ⟨?_,.inl rfl⟩
     rcases hs.2 with ⟨_,_,h,_⟩ | ⟨_,_,⟨_,_,h⟩ | ⟨_,i,_,_,h⟩⟩
     ·exact qB gi bi hb h hz
     ·exact qB gi bi hb h hz
     ·exact qB gi bi hb h hz
    | cM=>exact hs.elim
    | b8=>exact hs.elim
  | hp tk u ph s=>
   cases fo with
   | cM=>exact ⟨hs.2.2.2.2.1,BM gi bi hb hs.2.2.2.2 hz,.inl rfl⟩
   | b8=>exact ⟨hs.2.2.2.2.2.1,BM gi bi hb hs.2.2.2.2.2 hz,.inr ⟨rfl,hs.2.2.1⟩⟩
   | aH=>exact hs.elim
   | fin=>exact hs.elim
theorem Oc (bi:BI P b M) {x:Nat} (hx:x<1073741824):BI P b { M with head:=x }:=⟨hx,bi.tail,bi.ds,bi.nx,bi.tk,bi.vl,bi.mr,bi.own⟩
theorem Od (bi:BI P b M) {x:Nat} (hx:x<1073741824):BI P b { M with tail:=x }:=⟨bi.head,hx,bi.ds,bi.nx,bi.tk,bi.vl,bi.mr,bi.own⟩
theorem zJ (bi:BI P b M) {d:Ds} (h1:d.load<1073741824) (h2:d.ag<=b):BI P b { M with ds:=Jb2 M.ds u d }:=⟨bi.head,bi.tail,λv=>by
 show (Jb2 M.ds u d v).load<_∧(Jb2 M.ds u d v).ag<=b
 by_cases e:v=u
 ·subst e;rw [aM];exact ⟨h1,h2⟩
 ·rw [aJ e];exact bi.ds v,bi.nx,bi.tk,bi.vl,bi.mr,bi.own⟩
theorem JF (bi:BI P b M) {p:Nat} {w:Nat×Nat} (h:WZ P w):BI P b { M with nx:=Jb2 M.nx p w }:=⟨bi.head,bi.tail,bi.ds,λq=>by
 show (Jb2 M.nx p w q).1<_∧(Jb2 M.nx p w q).2<_
 by_cases e:q=p
 ·subst e;rw [aM];exact ⟨h.1,h.2.1⟩
 ·rw [aJ e];exact bi.nx q,bi.tk,bi.vl,bi.mr,λq=>by
 show (Jb2 M.nx p w q).2=0∨ ∃ u,P.own (Jb2 M.nx p w q).2=some u
 by_cases e:q=p
 ·subst e;rw [aM];exact h.2.2
 ·rw [aJ e];exact bi.own q⟩
theorem JG (bi:BI P b M) {p:Nat} {w:Nat×Nat} (h:w.1<1048576∧w.2<1073741824):BI P b { M with tk:=Jb2 M.tk p w }:=⟨bi.head,bi.tail,bi.ds,bi.nx,λq=>by
 show (Jb2 M.tk p w q).1<_∧(Jb2 M.tk p w q).2<_
 by_cases e:q=p
 ·subst e;rw [aM];exact h
 ·rw [aJ e];exact bi.tk q,bi.vl,bi.mr,bi.own⟩
theorem Uq (bi:BI P b M) {p:Nat} {w:Nat×Nat} (h:w.1<1048576∧w.2<16777216):BI P b { M with vl:=Jb2 M.vl p w }:=⟨bi.head,bi.tail,bi.ds,bi.nx,bi.tk,λq=>by
 show (Jb2 M.vl p w q).1<_∧(Jb2 M.vl p w q).2<_
 by_cases e:q=p
 ·subst e;rw [aM];exact h
 ·rw [aJ e];exact bi.vl q,bi.mr,bi.own⟩
theorem PD (bi:BI P b M) {p x:Nat} (h:x<=2*b+1):BI P b { M with mr:=Jb2 M.mr p x }:=⟨bi.head,bi.tail,bi.ds,bi.nx,bi.tk,bi.vl,λq=>by
 show Jb2 M.mr p x q<=_
 by_cases e:q=p
 ·subst e;rw [aM];exact h
 ·rw [aJ e];exact bi.mr q,bi.own⟩
theorem PE (bi:BI P b M) (p:Nat):WZ P (M.nx p):=⟨(bi.nx p).1,(bi.nx p).2,bi.own p⟩
theorem oa {r:Nat} (h:r<1073741824):bH r<1048576:=by unfold bH;omega
theorem Rn (gi:GI P V pos g M) (bi:BI P b M) (hb:b<524288) {j:Option Nat} {s:Tl} (h:xC P g M j s) (hz:Oa b s):BI P b (aU P M s).1∧ ∀ s',(aU P M s).2=some s'->Oa b s':=by
 have hB:=tc gi bi hb h hz
 cases s with
 | e=>exact ⟨bi,λs' h=>by simp only [aU] at h;split at h<;>cases h;trivial⟩
 | n last=>exact ⟨bi,λs' h=>by
   simp only [aU] at h;repeat' split at h
   all_goals cases h;try trivial⟩
 | d last x u=>exact ⟨bi,λs' h=>by simp only [aU] at h;split at h<;>cases h;exact (bi.ds u).2;trivial⟩
 | f last x u d=>
  refine ⟨?_,λs' h=>by simp only [aU] at h;cases h;trivial⟩
  show BI P b (if M.ds u=d then _ else M)
  split
  ·exact zJ bi hB.2.2.1 hz
  ·exact bi
 | s last x=>
  refine ⟨?_,λs' h=>by simp only [aU] at h;cases h⟩
  show BI P b (if M.tail=last then _ else M)
  split
  ·exact Od bi hB.2
  ·exact bi
theorem Ur (gi:GI P V pos g M) (bi:BI P b M) (hb:b<524288) {j:Option Nat} {s:Hd} (h:AJ P V g M j s) (hz:PA b s):BI P b (aS P M s).1∧ ∀ s',(aS P M s).2=some s'->PA b s':=by
 have hB:=qB gi bi hb h hz
 cases s with
 | e=>exact ⟨bi,λs' h=>by simp only [aS] at h;split at h<;>cases h;trivial⟩
 | n first=>exact ⟨bi,λs' h=>by simp only [aS] at h;split at h<;>cases h;trivial⟩
 | t first x=>exact ⟨bi,λs' h=>by
   simp only [aS] at h
   split at h
   ·split at h<;>cases h<;>trivial
   ·cases h⟩
 | d first x u=>exact ⟨bi,λs' h=>by simp only [aS] at h;split at h<;>cases h;exact (bi.ds u).2;trivial⟩
 | v first x u d=>exact ⟨bi,λs' h=>by simp only [aS] at h;cases h;exact ⟨hz,(bi.vl _).2⟩⟩
 | f first x u d y=>
  refine ⟨?_,λs' h=>by simp only [aS] at h;cases h;trivial⟩
  show BI P b (if M.ds u=d then _ else M)
  split
  ·exact zJ bi (by show y%16777216+1<_;omega) hz.1
  ·exact bi
 | s first x=>
  simp only [aS]
  split
  ·exact ⟨Oc bi hB.2,λs' h=>by cases h;trivial⟩
  ·exact ⟨bi,λs' h=>by cases h⟩
 | m first=>
  refine ⟨?_,λs' h=>by simp only [aS] at h;cases h⟩
  show BI P b (if M.mr (aO first)=_ then _ else M)
  split
  ·rename_i h2
   have:=bi.mr (aO first)
   exact PD bi (by omega)
  ·exact bi
theorem JH (gi:GI P V pos g M) (hu:u<P.n) {d:Ds} (hd:M.ds u=d) (hp:d.bN=true) (hk:d.take=false): ∃ v,P.own d.load=some v:=by
 subst hd
 have h:=gi.ds u hu
 cases ha:g.A u with
 | none=>rw [h.quiet ha] at hp;cases hp
 | some a=>
  have Y7:a.take=false:=by rw [<- (h.ph a ha).2.1];exact hk
  exact ⟨u,by rw [(h.putWait a ha Y7 hp).1];exact h.putOwn a ha Y7⟩
theorem XY (gi:GI P V pos g M) (bi:BI P b M) (hb:b<524288) {take:Bool} {s:Hs} (h:yX P V g M take u ph s) (hz:PC P b s):BI P b (ax P M take u ph s).1∧ ∀ s',(ax P M take u ph s).2=some s'->PC P b s':=by
 have hB:=BM gi bi hb h hz
 obtain ⟨hu,eY,_,hs,fx⟩:=h
 have WU:ph<=b:=Nat.le_trans eY (bi.ds u).2
 have hm:=gi.tm
 have ht:=gi.ht
 cases s with
 | look=>exact ⟨bi,λs' h=>by
   simp only [ax] at h
   split at h
   ·cases h;split<;>trivial
   ·cases h⟩
 | iw=>exact ⟨bi,λs' h=>by simp only [ax] at h;cases h;trivial⟩
 | gG last=>exact ⟨bi,λs' h=>by
   simp only [ax] at h
   cases h
   split
   ·split<;>trivial
   ·trivial⟩
 | fv last=>exact ⟨bi,λs' h=>by
   simp only [ax] at h
   split at h<;>cases h
   trivial⟩
 | kL last d=>
  simp only [ax]
  split
  ·refine ⟨JF bi ⟨oa hB.2.2.1,hB.2.2.2.1,?_⟩,λs' h=>by cases h;trivial⟩
   obtain ⟨i,h1,h2,h3,h4,h5,h6,h7⟩:=hs
   rcases h7 with h7 | ⟨k,h7,h8⟩
   ·exact .inr (JH gi hu h7 h3 h4)
   ·have:=h6 k h7 h8
    exact .inr ⟨_,by show P.own d.load=_;rw [<- h8];exact gi.own k (by omega) h7⟩
  ·exact ⟨bi,λs' h=>by cases h;trivial⟩
 | iz d=>exact ⟨bi,λs' h=>by simp only [ax] at h;cases h;trivial⟩
 | ji d first=>exact ⟨bi,λs' h=>by simp only [ax] at h;cases h;trivial⟩
 | jj d first last=>exact ⟨bi,λs' h=>by simp only [ax] at h;cases h;exact PE bi _⟩
 | ey d first last w=>exact ⟨bi,λs' h=>by
   simp only [ax] at h
   cases h
   repeat' split
   all_goals trivial⟩
 | ff d=>
  simp only [ax]
  split
  ·exact ⟨zJ bi (by show 0<_;omega) (by
    obtain ⟨i,h1,h3,_⟩:=hs
    show d.ag<=b;rw [h3.2.2.1];exact WU),λs' h=>by cases h⟩
  ·exact ⟨bi,λs' h=>by cases h;trivial⟩
 | hZ d first=>
  simp only [ax]
  split
  ·exact ⟨zJ bi hB.2.2.2 (by
    obtain ⟨i,h1,_,h2,h3,_⟩:=hs
    show d.ag<=b;rw [h3.2.2.1];exact WU),λs' h=>by cases h;trivial⟩
  ·exact ⟨bi,λs' h=>by cases h;trivial⟩
 | eJ first=>
  refine ⟨?_,λs' h=>by simp only [ax] at h;cases h;trivial⟩
  show BI P b (if M.tk (aO first)=_ then _ else M)
  split
  ·exact JG bi ⟨oa hB.2.2,by show u+1<_;have:=gi.nP;omega⟩
  ·exact bi
 | sub f bM=>
  cases f with
  | tl x=>
   have hx:BI P b (aU P M x).1∧ ∀ s',(aU P M x).2=some s'->Oa b s':=by
    cases bM with
    | true=>
     obtain ⟨k,h1,_⟩:=hs
     exact Rn gi bi hb h1 hz
    | false=>exact Rn gi bi hb hs hz
   simp only [ax,bu]
   cases h2:(aU P M x).2 with
   | none=>exact ⟨hx.1,λs' h=>by cases bM<;>cases h;trivial⟩
   | some x'=>exact ⟨hx.1,λs' h=>by cases h;exact hx.2 _ h2⟩
  | hd x=>
   cases bM with
   | true=>exact hs.elim
   | false=>
    have hx:=Ur gi bi hb hs hz
    simp only [ax,bu]
    cases h2:(aS P M x).2 with
    | none=>exact ⟨hx.1,λs' h=>by cases h;trivial⟩
    | some x'=>exact ⟨hx.1,λs' h=>by cases h;exact hx.2 _ h2⟩
theorem kX (hc:m6 P b t o) (h0:o.val=0):zI P (b+1) t (o.aH P):=by
 obtain ⟨h1,h2,h3,h4,h5,h6,_⟩:=hc
 unfold Op.aH
 split
 ·exact ⟨⟨h1,h2,h3,by show o.tries+1<=_;omega,by show o.ag<=_;omega,by show 0<=_;omega,λ_=>h0⟩,trivial,λh f e=>(by cases e),λe=>(by cases e)⟩
 ·refine ⟨⟨h1,h2,h3,by show o.tries+1<=_;omega,by show o.ag<=_;omega,h6,λ_=>h0⟩,?_,λh f e=> ?_,λe=> ?_⟩
  ·show Ob P _ (if o.take then _ else _);split<;>trivial
  ·replace e:(if o.take=true then Os.head else Os.tail)=_:=e
   split at e<;>cases e
  ·replace e:(if o.take=true then Os.head else Os.tail)=_:=e
   split at e<;>cases e
theorem JI (hc:m6 P b t o) (h0:o.val=0):zI P (b+1) t (o.cM P):=by
 unfold Op.cM
 split
 ·exact kX hc h0
 ·obtain ⟨h1,h2,h3,h4,h5,h6,_⟩:=hc
  exact ⟨⟨h1,h2,h3,by show o.tries<=_;omega,by show o.ag<=_;omega,by show 0<=_;omega,λ_=>h0⟩,trivial,λh f e=>(by cases e),λe=>(by cases e)⟩
theorem zK (hn:P.n<=16) (hi:o.i<P.n) (hc:m6 P b t o) (h0:o.val=0) (hd:(o.cD P).2=false):zI P (b+1) t (o.cD P).1:=by
 obtain ⟨h1,h2,h3,h4,h5,h6,_⟩:=hc
 have F8:o.i+1<=32:=by omega
 unfold Op.cD at hd ⊢
 split
 ·exact ⟨⟨h1,h2,h3,by show o.tries<=_;omega,by show o.ag<=_;omega,F8,λ_=>h0⟩,trivial,λh f e=>(by cases e),λe=>(by cases e)⟩
 ·rename_i hh
  rw [if_neg hh] at hd
  split
  ·exact ⟨⟨h1,h2,h3,by show o.tries<=_;omega,by show o.ag<=_;omega,F8,λ_=>h0⟩,trivial,λh f e=>(by cases e),λe=>(by cases e)⟩
  ·rename_i ZO
   rw [if_neg ZO] at hd
   cases hd
theorem Us (gi:GI P V pos g M) (bi:BI P b M) (hb:b<524287) (hk:1<=P.k∧P.k<=32) (oi:OI P V kd pos g M t o) (hz:zI P b t o):
  BI P (b+1) (aj P M t o).1∧((aj P M t o).2.2=false->zI P (b+1) t (aj P M t o).2.1):=by
 have hB:=JE gi bi (by omega) oi hz
 have hc:=hz.c
 have hn:=gi.nP.2
 have hm:=gi.tm
 have AM:=gi.ht
 have qI:BI P (b+1) M:=bi.mono (by omega)
 obtain ⟨take,v,tries,ref,i,ag,err,val,os⟩:=o
 obtain ⟨_,_,_,_,hs⟩:=oi
 obtain ⟨_,qP,JD,hvr⟩:=hz
 replace hs:HJ P V pos g M t _ os:=hs
 replace qP:Ob P b os:=qP
 have ud:=hc
 obtain ⟨h1,h2,h3,h4,h5,h6,h7⟩:=ud
 replace h2:v<16777216:=h2
 replace h3:ref<1073741824:=h3
 replace h4:tries<=b:=h4
 replace h5:ag<=b:=h5
 replace h6:i<=32:=h6
 have bB: ∀ (FK:Os),(∀ h f,FK≠ .sub (.fn (.hd h)) f)->Ob P (b+1) FK->FK≠ .value->val=0->zI P (b+1) t ⟨take,v,tries,ref,i,ag,err,val,FK⟩:=λFK q1 q2 q3 q4=>
  ⟨⟨h1,h2,h3,by show tries<=_;omega,by show ag<=_;omega,h6,λ_=>q4⟩,q2,λh f e=>absurd e (q1 h f),λe=>absurd e q3⟩
 cases os with
 | check=>
  have h0:val=0:=h7 (λh e=>by cases e)
  simp only [aj]
  split
  ·exact ⟨qI,λ_=>bB _ (λh f e=>by cases e) trivial (λe=>by cases e) h0⟩
  ·exact ⟨qI,λ_=>JI hc h0⟩
 | mark=>
  have h0:val=0:=h7 (λh e=>by cases e)
  have hi:i<P.k:=hB.2
  have SW:=bi.mr (2+t*P.k+i)
  have D3:t*P.k+P.k<=P.n*P.k:=by have:=Nat.mul_le_mul_right P.k (show t+1<=P.n by omega);rw [Nat.add_mul,Nat.one_mul] at this;exact this
  have hnk:P.n*P.k<=16*32:=Nat.mul_le_mul hn hk.2
  simp only [aj]
  split
  ·exact ⟨qI,λ_=>⟨⟨h1,h2,by show kU (2+t*P.k+i) (M.mr (2+t*P.k+i)/2+1)<_;unfold kU;omega,by show tries<=_;omega,by show ag<=_;omega,by show i+1<=_;omega,λ_=>h0⟩,trivial,λh f e=>(by cases e),λe=>(by cases e)⟩⟩
  ·split
   ·exact ⟨qI,λh=>by cases h⟩
   ·exact ⟨qI,λ_=>⟨⟨h1,h2,h3,by show tries<=_;omega,by show ag<=_;omega,by show i+1<=_;omega,λ_=>h0⟩,trivial,λh f e=>(by cases e),λe=>(by cases e)⟩⟩
 | ia mk=>
  have h0:val=0:=h7 (λh e=>by cases e)
  have hv:bH ref=mk/2+1:=hB.2.2.2
  have SW:=bi.mr (aO ref)
  have he:M.mr (aO ref)=mk:=hs.2.1
  have cW:mk%2=0:=hs.2.2.1
  exact ⟨PD qI (by show mk+3<=_;omega),λ_=>⟨⟨h1,h2,h3,by show tries<=_;omega,by show ag<=_;omega,h6,λ_=>h0⟩,trivial,λh f e=>(by cases e),λ_=>by show 1<=bH ref;omega⟩⟩
 | value=>
  have h0:val=0:=h7 (λh e=>by cases e)
  exact ⟨Uq qI ⟨oa h3,h2⟩,λ_=>bB _ (λh f e=>by cases e) trivial (λe=>by cases e) h0⟩
 | next=>
  have h0:val=0:=h7 (λh e=>by cases e)
  exact ⟨JF qI ⟨oa h3,by show 0<_;omega,.inl rfl⟩,λ_=>bB _ (λh f e=>by cases e) trivial (λe=>by cases e) h0⟩
 | ib=>
  have h0:val=0:=h7 (λh e=>by cases e)
  exact ⟨JG qI ⟨oa h3,by show 0<_;omega⟩,λ_=>kX hc h0⟩
 | tail=>
  have h0:val=0:=h7 (λh e=>by cases e)
  exact ⟨qI,λ_=>bB _ (λh f e=>by cases e) trivial (λe=>by cases e) h0⟩
 | behind last=>
  have h0:val=0:=h7 (λh e=>by cases e)
  refine ⟨qI,λ_=> ?_⟩
  simp only [aj]
  split
  ·refine bB _ (λh f e=> ?_) ?_ (λe=> ?_) h0
   ·split at e<;>cases e
   ·split<;>trivial
   ·split at e<;>cases e
  ·exact kX hc h0
 | put last=>
  have h0:val=0:=h7 (λh e=>by cases e)
  simp only [aj]
  split
  ·exact ⟨JF qI ⟨oa hB.2.2,h3,.inr ⟨_,hs.1.rF.1⟩⟩,λ_=>bB _ (λh f e=>by cases e) trivial (λe=>by cases e) h0⟩
  ·exact ⟨qI,λ_=>bB _ (λh f e=>by cases e) trivial (λe=>by cases e) h0⟩
 | head=>
  have h0:val=0:=h7 (λh e=>by cases e)
  exact ⟨qI,λ_=>bB _ (λh f e=>by cases e) trivial (λe=>by cases e) h0⟩
 | dX first=>
  have h0:val=0:=h7 (λh e=>by cases e)
  exact ⟨qI,λ_=>bB _ (λh f e=>by cases e) trivial (λe=>by cases e) h0⟩
 | first first last=>
  have h0:val=0:=h7 (λh e=>by cases e)
  exact ⟨qI,λ_=>bB _ (λh f e=>by cases e) (PE bi _) (λe=>by cases e) h0⟩
 | Jb6 first last w=>
  have h0:val=0:=h7 (λh e=>by cases e)
  simp only [aj]
  split
  ·split
   ·exact ⟨qI,λh=>by cases h⟩
   ·refine ⟨qI,λ_=>bB _ (λh f e=> ?_) ?_ (λe=> ?_) h0⟩
    ·split at e<;>cases e
    ·split<;>trivial
    ·split at e<;>cases e
  ·exact ⟨qI,λ_=>kX hc h0⟩
 | read first x=>
  have h0:val=0:=h7 (λh e=>by cases e)
  exact ⟨qI,λ_=>bB _ (λh f e=>by cases e) (bi.vl _).2 (λe=>by cases e) h0⟩
 | take first y=>
  have h0:val=0:=h7 (λh e=>by cases e)
  have fx:take=true:=hB.1
  simp only [aj]
  split
  ·exact ⟨JG qI ⟨oa hB.2.2.1,by show t+33<_;omega⟩,λ_=>⟨⟨h1,h2,h3,by show tries<=_;omega,by show ag<=_;omega,h6,λq=>absurd rfl (q .e)⟩,trivial,λh f e=>fx,λe=>(by cases e)⟩⟩
  ·exact ⟨qI,λ_=>⟨⟨h1,h2,h3,by show tries<=_;omega,by show ag<=_;omega,h6,λ_=>h0⟩,trivial,λh f e=>fx,λe=>(by cases e)⟩⟩
 | ag=>
  have h0:val=0:=h7 (λh e=>by cases e)
  have hi:i<P.n:=hB
  have hp:=(bi.ds i).2
  refine ⟨qI,λ_=>⟨⟨h1,h2,h3,by show tries<=_;omega,by show max ag (M.ds i).ag<=_;omega,by show i+1<=_;omega,λ_=>h0⟩,?_,λh f e=> ?_,λe=> ?_⟩⟩
  ·show Ob P _ (if i+1=P.n then _ else _);split<;>trivial
  ·replace e:(if i+1=P.n then Os.cO else Os.ag)=_:=e
   split at e<;>cases e
  ·replace e:(if i+1=P.n then Os.cO else Os.ag)=_:=e
   split at e<;>cases e
 | cO=>
  have h0:val=0:=h7 (λh e=>by cases e)
  exact ⟨zJ qI h3 (by show ag+1<=_;omega),λ_=>⟨⟨h1,h2,h3,by show tries<=_;omega,by show ag+1<=_;omega,by show 0<=_;omega,λ_=>h0⟩,trivial,λh f e=>(by cases e),λe=>(by cases e)⟩⟩
 | b8=>
  have h0:val=0:=h7 (λh e=>by cases e)
  simp only [aj]
  split
  ·exact ⟨qI,λ_=>bB _ (λh f e=>by cases e) trivial (λe=>by cases e) h0⟩
  ·exact ⟨qI,λh=>zK hn hB hc h0 h⟩
 | result=>
  have fx:take=true:=hB
  exact ⟨qI,λ_=>⟨⟨h1,h2,h3,by show tries<=_;omega,by show ag<=_;omega,h6,λq=>absurd rfl (q .e)⟩,trivial,λh f e=>fx,λe=>(by cases e)⟩⟩
 | sub s fo=>
  have after: ∀ (M':Mm) (x:Option Sb),bF P M s=(M',x)->BI P b M'->(∀ s',x=some s'->Rm P b s'∧((∃ h,s'= .fn (.hd h))↔ ∃ h',s= .fn (.hd h')))->val=0∨fo= .fin->(fo= .b8->i<P.n)->
    BI P (b+1) (aj P M t ⟨take,v,tries,ref,i,ag,err,val,.sub s fo⟩).1∧((aj P M t ⟨take,v,tries,ref,i,ag,err,val,.sub s fo⟩).2.2=false->zI P (b+1) t (aj P M t ⟨take,v,tries,ref,i,ag,err,val,.sub s fo⟩).2.1):=by
   intro M' x qJ hM hx hv hi
   simp only [aj,qJ]
   cases x with
   | some s'=>
    obtain ⟨q1,q2⟩:=hx s' rfl
    refine ⟨hM.mono (by omega),λ_=>⟨⟨h1,h2,h3,by show tries<=_;omega,by show ag<=_;omega,h6,λq=> ?_⟩,Rm.mono (by omega) q1,λh f e=> ?_,λe=>(by cases e)⟩⟩
    ·refine h7 (λh e=> ?_)
     have e1:s= .fn (.hd h):=by injection e
     have e2:fo= .fin:=by injection e
     obtain ⟨h',e3⟩:=q2.2 ⟨h,e1⟩
     exact q h' (by rw [e3,e2])
    ·have e1:s'= .fn (.hd h):=by injection e
     obtain ⟨h',e2⟩:=q2.1 ⟨h,e1⟩
     exact JD h' fo (by rw [e2])
   | none=>
    refine ⟨hM.mono (by omega),λhd=> ?_⟩
    cases fo with
    | cM=>exact JI hc (hv.resolve_right (λe=>by cases e))
    | aH=>exact kX hc (hv.resolve_right (λe=>by cases e))
    | b8=>exact zK hn (hi rfl) hc (hv.resolve_right (λe=>by cases e)) hd
    | fin=>cases hd
  have QB: ∀ {j:Option Nat} (x:Tl),s= .fn (.tl x)->xC P g M j x->val=0∨fo= .fin->fo≠ .b8->BI P (b+1) (aj P M t ⟨take,v,tries,ref,i,ag,err,val,.sub s fo⟩).1∧((aj P M t ⟨take,v,tries,ref,i,ag,err,val,.sub s fo⟩).2.2=false->zI P (b+1) t (aj P M t ⟨take,v,tries,ref,i,ag,err,val,.sub s fo⟩).2.1):=fun {j} x e hI hv bq=>by
   subst e
   have hx:=Rn gi bi (by omega) hI qP
   refine after _ _ rfl hx.1 (λs' h=> ?_) hv (λe=>absurd e bq)
   replace h:((aU P M x).2.map Fn.tl).map Sb.fn=some s':=h
   cases h2:(aU P M x).2 with
   | none=>rw [h2] at h;cases h
   | some x'=>
    rw [h2] at h
    cases h
    exact ⟨hx.2 _ h2,⟨λ⟨h,e⟩=>(by cases e),λ⟨h,e⟩=>(by cases e)⟩⟩
  have D6: ∀ {j:Option Nat} (x:Hd),s= .fn (.hd x)->AJ P V g M j x->val=0∨fo= .fin->fo≠ .b8->BI P (b+1) (aj P M t ⟨take,v,tries,ref,i,ag,err,val,.sub s fo⟩).1∧((aj P M t ⟨take,v,tries,ref,i,ag,err,val,.sub s fo⟩).2.2=false->zI P (b+1) t (aj P M t ⟨take,v,tries,ref,i,ag,err,val,.sub s fo⟩).2.1):=fun {j} x e hI hv bq=>by
   subst e
   have hx:=Ur gi bi (by omega) hI qP
   refine after _ _ rfl hx.1 (λs' h=> ?_) hv (λe=>absurd e bq)
   replace h:((aS P M x).2.map Fn.hd).map Sb.fn=some s':=h
   cases h2:(aS P M x).2 with
   | none=>rw [h2] at h;cases h
   | some x'=>
    rw [h2] at h
    cases h
    exact ⟨hx.2 _ h2,⟨λ_=>⟨_,rfl⟩,λ_=>⟨_,rfl⟩⟩⟩
  have Qo: ∀ (tk:Bool) (u ph:Nat) (x:Hs),s= .hp tk u ph x->yX P V g M tk u ph x->val=0->(fo= .b8->i<P.n)->BI P (b+1) (aj P M t ⟨take,v,tries,ref,i,ag,err,val,.sub s fo⟩).1∧((aj P M t ⟨take,v,tries,ref,i,ag,err,val,.sub s fo⟩).2.2=false->zI P (b+1) t (aj P M t ⟨take,v,tries,ref,i,ag,err,val,.sub s fo⟩).2.1):=λtk u ph x e hI hv hi=>by
   subst e
   have hx:=XY gi bi (by omega) hI qP
   refine after _ _ rfl hx.1 (λs' h=> ?_) (.inl hv) hi
   replace h:(ax P M tk u ph x).2.map (Sb.hp tk u ph)=some s':=h
   cases h2:(ax P M tk u ph x).2 with
   | none=>rw [h2] at h;cases h
   | some x'=>
    rw [h2] at h
    cases h
    exact ⟨hx.2 _ h2,⟨λ⟨h,e⟩=>(by cases e),λ⟨h,e⟩=>(by cases e)⟩⟩
  cases s with
  | fn f=>
   cases f with
   | tl x=>
    cases fo with
    | aH=>exact QB x rfl hs.2 (.inl (h7 λh e=>by cases e)) (λe=>by cases e)
    | fin=>exact QB x rfl hs.2.2.2.1 (.inr rfl) (λe=>by cases e)
    | cM=>exact hs.elim
    | b8=>exact hs.elim
   | hd x=>
    cases fo with
    | aH=>exact D6 x rfl hs.2 (.inl (h7 λh e=>by cases e)) (λe=>by cases e)
    | fin=>
     rcases hs.2 with ⟨_,_,h,_⟩ | ⟨_,_,⟨_,_,h⟩ | ⟨_,i,_,_,h⟩⟩
     ·exact D6 x rfl h (.inr rfl) (λe=>by cases e)
     ·exact D6 x rfl h (.inr rfl) (λe=>by cases e)
     ·exact D6 x rfl h (.inr rfl) (λe=>by cases e)
    | cM=>exact hs.elim
    | b8=>exact hs.elim
  | hp tk u ph s=>
   cases fo with
   | cM=>exact Qo tk u ph s rfl hs.2.2.2.2 (h7 λh e=>by cases e) (λe=>by cases e)
   | b8=>exact Qo tk u ph s rfl hs.2.2.2.2.2 (h7 λh e=>by cases e) (λ_=>hs.2.2.1)
   | aH=>exact hs.elim
   | fin=>exact hs.elim
end
section
variable {P:cv} {V:Nat->Nat->Nat} {kd:Nat->Nat->Bool} {pos:Nat->Nat} {g g':Gh} {M M':Mm} {me t:Nat} {s:Qs}
def eE (M:Mm):Nat:=if (M.nx (aO M.tail)).2=0 then 0 else 1
def zL (M:Mm) (u:Nat):Nat:=if (M.tk (aO M.head)).2=0∨(M.tk (aO M.head)).2=u+1 then 0 else 1
theorem oc:eE M<=1:=by unfold eE;split<;>omega
theorem Dl {u:Nat}:zL M u<=1:=by unfold zL;split<;>omega
theorem oW (gi:GI P V pos g M):M.nx (aO M.tail)=(bH M.tail,g.ef g.t):=by
 have h1:=gi.ht;have h3:=gi.tm
 have h2:=gi.nxh g.t h1 (by omega)
 rw [gi.tl]
 exact Prod.ext h2 ((gi.nx g.t h3.1).2 h2)
theorem Oe (gi:GI P V pos g M):M.nx (aO M.head)=(bH M.head,g.ef g.h):=by
 have h1:=gi.ht;have h3:=gi.tm
 have h2:=gi.nxh g.h (Nat.le_refl _) (by omega)
 rw [gi.hd]
 exact Prod.ext h2 ((gi.nx g.h (by omega)).2 h2)
theorem Jd5 (gi:GI P V pos g M):M.tk (aO M.head)=(bH M.head,g.T g.h):=by
 have h1:=gi.ht;have h3:=gi.tm
 have h2:=gi.tkh g.h (Nat.le_refl _) (by omega)
 rw [gi.hd]
 exact Prod.ext h2 ((gi.tk g.h (by omega)).2 h2)
theorem oX (gi:GI P V pos g M) {i:Nat}:g.ef i=0↔g.m<=i:=by
 unfold Gh.ef
 by_cases h:i<g.m
 ·rw [if_pos h]
  exact ⟨λe=>absurd e (gi.okp (i+1) (by omega)).2,λe=>by omega⟩
 ·rw [if_neg h];exact ⟨λ_=>by omega,λ_=>rfl⟩
theorem PF (gi:GI P V pos g M):eE M=0↔g.m<=g.t:=by
 unfold eE
 rw [oW gi]
 show (if g.ef g.t=0 then 0 else 1)=0↔_
 rw [<- oX gi]
 by_cases h:g.ef g.t=0<;>simp [h]
theorem BN (gi:GI P V pos g M) {u:Nat}:zL M u=if g.T g.h=0∨g.T g.h=u+1 then 0 else 1:=by
 unfold zL;rw [Jd5 gi]
theorem Rp (gi:GI P V pos g M) {i:Nat} (h:g.t<=i):g.T i=0:=by
 by_cases h0:g.T i=0
 ·exact h0
 ·have:=(gi.T2 i h0).lt.2;omega
def qC:Tl->Nat
 | .e=>5
 | .n _=>4
 | .d _ _ _=>3
 | .f _ _ _ _=>2
 | .s _ _=>1
def xD (M:Mm):Tl->Prop
 | .e=>True
 | .n last=>last=M.tail
 | .d last _ _=>last=M.tail
 | .f last _ _ _=>last=M.tail
 | .s last _=>last=M.tail
instance (M:Mm) (t:Tl):Decidable (xD M t):=by unfold xD;split<;>infer_instance
theorem oY (x:Tl):1<=qC x∧qC x<=5:=by cases x<;>simp [qC]
def fM (M M':Mm):Prop:= ∀ v,(M'.ds v).bN=true->(M.ds v).bN=true
theorem fM.refl:fM M M:=λ_ h=>h
theorem wx (gi:GI P V pos g M) {j:Option Nat} {x:Tl} (h:xC P g M j x):
  fM M (aU P M x).1∧(aU P M x).1.head=M.head∧(aU P M x).1.tk=M.tk∧eE (aU P M x).1<=eE M∧(∀ v,(M.ds v).take=true->(aU P M x).1.ds v=M.ds v)∧match (aU P M x).2 with
   | some x'=>qC x'<qC x∧(xD M x->xD (aU P M x).1 x')
   | none=>xD M x->eE (aU P M x).1=0:=by
 have g1:=gi.ht;have g3:=gi.tm
 cases x with
 | e=>
  have ho:P.okp M.tail:=by rw [gi.tl];exact (gi.okp _ g3.1).1
  simp only [aU,if_pos ho]
  exact ⟨fM.refl,(by simp),(by simp),Nat.le_refl _,(λ_ _=>by simp),by simp [qC],λ_=>rfl⟩
 | n last=>
  simp only [aU]
  refine ⟨fM.refl,(by simp),(by simp),Nat.le_refl _,(λ_ _=>by simp),?_⟩
  by_cases hc:(M.nx (aO last)).1=bH last∧(M.nx (aO last)).2≠0
  ·rw [if_pos hc]
   obtain ⟨i,a,b,c⟩:=h
   subst b
   obtain ⟨hm,hL⟩:=next_ne gi (by omega) hc.1 hc.2
   have ho:=gi.own (i+1) (by omega) (by omega)
   rw [hL] at ho
   simp only [ho]
   exact ⟨by simp [qC],λe=>e⟩
  ·rw [if_neg hc]
   intro e
   have e:last=M.tail:=e
   subst e
   rw [oW gi] at hc
   unfold eE
   rw [oW gi]
   by_cases h0:g.ef g.t=0
   ·simp [h0]
   ·exact absurd ⟨rfl,h0⟩ hc
 | d last x u=>
  simp only [aU]
  refine ⟨fM.refl,(by simp),(by simp),Nat.le_refl _,(λ_ _=>by simp),?_⟩
  split
  ·exact ⟨by simp [qC],λe=>e⟩
  ·exact ⟨by simp [qC],λe=>e⟩
 | f last x u d=>
  obtain ⟨i,a,b,c,hx,e,⟨f1,f2,f3⟩,q,f⟩:=h
  simp only [aU]
  by_cases hc:M.ds u=d
  ·rw [if_pos hc]
   refine ⟨λv hv=> ?_,rfl,rfl,Nat.le_refl _,λv hv=> ?_,by simp [qC],λe=>e⟩
   ·replace hv:(Jb2 M.ds u (d.fin x) v).bN=true:=hv
    by_cases e:v=u
    ·subst e;rw [aM] at hv;cases hv
    ·rw [aJ e] at hv;exact hv
   ·show Jb2 M.ds u (d.fin x) v=_
    by_cases e:v=u
    ·subst e;rw [hc,f2] at hv;cases hv
    ·rw [aJ e]
  ·rw [if_neg hc]
   exact ⟨fM.refl,(by simp),(by simp),Nat.le_refl _,(λ_ _=>by simp),by simp [qC],λe=>e⟩
 | s last x=>
  obtain ⟨i,a,b,c,hx,q,f⟩:=h
  simp only [aU]
  by_cases hc:M.tail=last
  ·rw [if_pos hc]
   have ud:M.tail=g.L i:=by rw [hc,c]
   obtain ⟨k0,k1,_⟩:=nY (me:=0) gi b a hx q ud
   have hl:eE { M with tail:=x }=0:=(PF k1).2 (by show g.m<=i+1;omega)
   exact ⟨fM.refl,rfl,rfl,by rw [hl];exact Nat.zero_le _,λ_ _=>rfl,λ_=>hl⟩
  ·rw [if_neg hc]
   exact ⟨fM.refl,(by simp),(by simp),Nat.le_refl _,(λ_ _=>by simp),λe=>absurd (Eq.symm e) hc⟩
def rn:Hd->Nat
 | .e=>8
 | .n _=>7
 | .t _ _=>6
 | .d _ _ _=>5
 | .v _ _ _ _=>4
 | .f _ _ _ _ _=>3
 | .s _ _=>2
 | .m _=>1
theorem oZ (x:Hd):1<=rn x∧rn x<=8:=by cases x<;>simp [rn]
def gj (M:Mm) (u ph:Nat):Nat:=if (M.ds u).waits ph true=true then 16+15*zL M u+10*eE M else 1
theorem j7 {u ph:Nat}:gj M u ph<=41:=by
 unfold gj
 have:=oc (M:=M);have:=Dl (M:=M) (u:=u)
 split<;>omega
def uh (M:Mm) (u first:Nat):Nat:=if first=M.head then (if (M.tk (aO M.head)).2=u+1 then 1 else 16+10*eE M) else 41
def LW (M:Mm) (u ph:Nat):Hd->Nat
 | .e=>uh M u M.head
 | .n first=>uh M u first
 | .t first _=>uh M u first
 | .d first _ _=>uh M u first
 | .v first _ _ _=>uh M u first
 | .f first _ _ _ _=>uh M u first
 | .s first _=>uh M u first
 | .m _=>gj M u ph
theorem Rq {u first:Nat}:uh M u first<=41:=by
 unfold uh
 have:=oc (M:=M)
 split
 ·split<;>omega
 ·omega
theorem Rr {u ph:Nat} {x:Hd}:LW M u ph x<=41:=by cases x<;>first | exact Rq | exact j7
theorem JJ {u:Nat}:uh M u M.head=if (M.tk (aO M.head)).2=u+1 then 1 else 16+10*eE M:=if_pos rfl
theorem Dm (gi:GI P V pos g M) {j:Option Nat} {x:Hd} (h:AJ P V g M j x) (u ph:Nat):
  fM M (aS P M x).1∧match (aS P M x).2 with
   | some x'=>rn x'<rn x∧LW (aS P M x).1 u ph x'<=LW M u ph x
   | none=>gj (aS P M x).1 u ph<=LW M u ph x:=by
 have g1:=gi.ht;have g3:=gi.tm
 have AM:=Jd5 gi
 have Qr:g.T g.h=0->gj M u ph<=16+10*eE M:=λh0=>by
  unfold gj
  rw [BN gi,h0]
  simp only [true_or,if_true]
  split<;>omega
 cases x with
 | e=>
  have ho:P.okp M.head:=by rw [gi.hd];exact (gi.okp _ (by omega)).1
  simp only [aS,if_pos ho]
  exact ⟨fM.refl,by simp [rn],Nat.le_refl _⟩
 | n first=>
  simp only [aS]
  refine ⟨fM.refl,?_⟩
  by_cases hc:(M.nx (aO first)).1=bH first∧(M.nx (aO first)).2≠0∧P.okp (M.nx (aO first)).2
  ·rw [if_pos hc];exact ⟨by simp [rn],Nat.le_refl _⟩
  ·rw [if_neg hc]
   show _<=uh M u first
   unfold uh
   by_cases hf:first=M.head
   ·rw [if_pos hf]
    subst hf
    rw [Oe gi] at hc
    have h0:g.ef g.h=0:=by
     by_cases h0:g.ef g.h=0
     ·exact h0
     ·refine absurd ⟨rfl,h0,?_⟩ hc
      have hm:g.h<g.m:=by
       have:=mt (oX gi).2 h0;omega
      show P.okp (g.ef g.h)
      unfold Gh.ef
      rw [if_pos hm];exact (gi.okp _ (by omega)).1
    have hT:=Rp gi (i:=g.h) (by have:=(oX gi).1 h0;omega)
    rw [AM]
    show _<=if g.T g.h=u+1 then 1 else _
    rw [hT,if_neg (by omega)];exact Qr hT
   ·rw [if_neg hf];exact j7
 | t first x=>
  simp only [aS]
  refine ⟨fM.refl,?_⟩
  by_cases hc:(M.tk (aO first)).1=bH first∧(M.tk (aO first)).2≠0
  ·rw [if_pos hc]
   simp only
   split
   ·exact ⟨by simp [rn],Nat.le_refl _⟩
   ·exact ⟨by simp [rn],Nat.le_refl _⟩
  ·rw [if_neg hc]
   show _<=uh M u first
   unfold uh
   by_cases hf:first=M.head
   ·rw [if_pos hf]
    subst hf
    rw [AM] at hc ⊢
    have hT:g.T g.h=0:=by
     by_cases h0:g.T g.h=0
     ·exact h0
     ·exact absurd ⟨rfl,h0⟩ hc
    show _<=if g.T g.h=u+1 then 1 else _
    rw [hT,if_neg (by omega)];exact Qr hT
   ·rw [if_neg hf];exact j7
 | d first x v=>
  simp only [aS]
  refine ⟨fM.refl,?_⟩
  split
  ·exact ⟨by simp [rn],Nat.le_refl _⟩
  ·exact ⟨by simp [rn],Nat.le_refl _⟩
 | v first x v d=>
  simp only [aS]
  exact ⟨fM.refl,by simp [rn],Nat.le_refl _⟩
 | f first x v d y=>
  simp only [aS]
  by_cases hc:M.ds v=d
  ·rw [if_pos hc]
   refine ⟨λw hw=> ?_,by simp [rn],Nat.le_refl _⟩
   replace hw:(Jb2 M.ds v (d.fin (y%16777216+1)) w).bN=true:=hw
   by_cases e:w=v
   ·subst e;rw [aM] at hw;cases hw
   ·rw [aJ e] at hw;exact hw
  ·rw [if_neg hc]
   exact ⟨fM.refl,by simp [rn],Nat.le_refl _⟩
 | s first x=>
  obtain ⟨i,a,b,c,d,e,f,q⟩:=h
  simp only [aS]
  by_cases hc:M.head=first
  ·rw [if_pos hc]
   have ud:M.head=g.L i:=by rw [hc,c]
   obtain ⟨k0,k1,_⟩:=nZ (me:=0) gi b a d e f ud
   refine ⟨fM.refl,by simp [rn],?_⟩
   show gj { M with head:=x } u ph<=uh M u first
   unfold uh
   rw [if_pos hc.symm,AM]
   show _<=if g.T g.h=u+1 then 1 else _
   have AA:eE { M with head:=x }=eE M:=rfl
   have fx:zL { M with head:=x } u=0:=by
    rw [BN k1]
    show (if g.T (i+1)=0∨g.T (i+1)=u+1 then 0 else 1)=0
    by_cases h0:g.T (i+1)=0
    ·rw [if_pos (.inl h0)]
    ·have:=(gi.T2 _ h0).lt.1;omega
   unfold gj
   rw [fx,AA]
   by_cases hu:g.T g.h=u+1
   ·rw [if_pos hu]
    by_cases hw:(M.ds u).waits ph true=true
    ·exfalso
     obtain ⟨w1,w2,w3⟩:=mX.1 hw
     obtain ⟨WI,an,ha⟩:=fG gi w1
     have dd:=gi.ds u WI
     have bf:an.take=true:=by rw [<- (dd.ph an ha).2.1];exact w2
     have hk:=ql gi WI hu
     rcases hk.2 with h | ⟨_,_,h⟩
     ·have:=(dd.getWait an ha bf w1).2 g.h (by omega) (Prod.ext hk.1 h)
      exact f u (by rw [k0];exact hu) k0.symm w1 w2 (by rw [k0];exact this.2.2)
     ·have:=h an ha
      have:=(dd.ph an ha).2.2
      omega
    ·rw [if_neg (show ¬ (({ M with head:=x }:Mm).ds u).waits ph true=true from hw)];exact Nat.le_refl _
   ·rw [if_neg hu]
    split<;>omega
  ·rw [if_neg hc]
   refine ⟨fM.refl,?_⟩
   show _<=uh M u first
   unfold uh
   rw [if_neg (λe=>hc e.symm)]
   exact j7
 | m first=>
  simp only [aS]
  by_cases hc:M.mr (aO first)=2*bH first+1
  ·rw [if_pos hc];exact ⟨fM.refl,Nat.le_refl _⟩
  ·rw [if_neg hc];exact ⟨fM.refl,Nat.le_refl _⟩
end
section
variable {P:cv} {V:Nat->Nat->Nat} {kd:Nat->Nat->Bool} {pos:Nat->Nat} {g g':Gh} {M M':Mm} {me t:Nat} {s:Qs}
def pM (M:Mm) (u:Nat):Nat:=15*zL M u+10*eE M
theorem JK {u:Nat}:pM M u<=25:=by
 unfold pM
 have:=oc (M:=M);have:=Dl (M:=M) (u:=u)
 omega
def td (M:Mm) (take:Bool) (u ph:Nat):Hs->Nat
 | .look=>if take=true then gj M u ph else 10+8*eE M
 | .iw=>9+8*eE M
 | .gG last=>if last=M.tail then 8+8*eE M else 21
 | .fv last=>if last=M.tail∧eE M=0 then 7 else 20
 | .kL last _=>if last=M.tail∧eE M=0 then 6 else 19
 | .iz d=>if M.ds u=d then 15+pM M u else 55
 | .ji d first=>if M.ds u=d∧first=M.head then 14+pM M u else 54
 | .jj d first last=>if M.ds u=d∧first=M.head∧last=M.tail then 13+pM M u else 53
 | .ey d first last w=>if M.ds u=d∧first=M.head∧last=M.tail∧w=M.nx (aO first) then 12+pM M u else 52
 | .ff d=>if M.ds u=d then 1 else 51
 | .hZ d first=>if M.ds u=d∧first=M.head then 11+pM M u else 51
 | .eJ first=>if first=M.head then 10+pM M u else 50
 | .sub (.tl x) true=>qC x
 | .sub (.tl x) false=>qC x+if take=true then 16+15*zL M u+10*(if xD M x then 0 else 1) else 10+8*(if xD M x then 0 else 1)
 | .sub (.hd x) _=>rn x+LW M u ph x
theorem BO {take:Bool} {u ph:Nat} {x:Hs}:1<=td M take u ph x∧td M take u ph x<=55:=by
 have h1:=oc (M:=M);have h2:=Dl (M:=M) (u:=u);have h3:=JK (M:=M) (u:=u);have h4:=j7 (M:=M) (u:=u) (ph:=ph)
 have h5:1<=gj M u ph:=by unfold gj;split<;>omega
 have LK: ∀ {c:Prop} [Decidable c] {a b:Nat},1<=a->a<=55->1<=b->b<=55->1<=(if c then a else b)∧(if c then a else b)<=55:=fun {c} _ {a b} q1 q2 q3 q4=>by split<;>omega
 cases x with
 | look=>exact LK (by omega) (by omega) (by omega) (by omega)
 | iw=>exact ⟨by show 1<=9+8*eE M;omega,by show 9+8*eE M<=55;omega⟩
 | gG last=>exact LK (by omega) (by omega) (by omega) (by omega)
 | fv last=>exact LK (by omega) (by omega) (by omega) (by omega)
 | kL last d=>exact LK (by omega) (by omega) (by omega) (by omega)
 | iz d=>exact LK (by omega) (by omega) (by omega) (by omega)
 | ji d first=>exact LK (by omega) (by omega) (by omega) (by omega)
 | jj d first last=>exact LK (by omega) (by omega) (by omega) (by omega)
 | ey d first last w=>exact LK (by omega) (by omega) (by omega) (by omega)
 | ff d=>exact LK (by omega) (by omega) (by omega) (by omega)
 | hZ d first=>exact LK (by omega) (by omega) (by omega) (by omega)
 | eJ first=>exact LK (by omega) (by omega) (by omega) (by omega)
 | sub f bM=>
  cases f with
  | tl x=>
   have h6:=oY x
   cases bM with
   | true=>exact ⟨by show 1<=qC x;omega,by show qC x<=55;omega⟩
   | false=>
    have h8:(if xD M x then 0 else 1)<=1:=by split<;>omega
    have: ∀ c:Bool,(if c=true then 16+15*zL M u+10*(if xD M x then 0 else 1) else 10+8*(if xD M x then 0 else 1))<=41:=λc=>by cases c<;>simp only [if_true,Bool.false_eq_true,if_false]<;>omega
    have:=this take
    exact ⟨by show 1<=qC x+_;omega,by show qC x+_<=55;omega⟩
  | hd x=>
   have h6:=oZ x
   have h7:=Rr (M:=M) (u:=u) (ph:=ph) (x:=x)
   exact ⟨by show 1<=rn x+LW M u ph x;omega,by show rn x+LW M u ph x<=55;omega⟩
theorem Of (gi:GI P V pos g M) {take:Bool} {u ph:Nat} {x:Hs} (h:yX P V g M take u ph x):
  fM M (ax P M take u ph x).1∧ ∀ x',(ax P M take u ph x).2=some x'->td (ax P M take u ph x).1 take u ph x'<td M take u ph x:=by
 have g1:=gi.ht;have g3:=gi.tm
 have h1:=oc (M:=M);have h2:=Dl (M:=M) (u:=u);have h3:=JK (M:=M) (u:=u);have h4:=j7 (M:=M) (u:=u) (ph:=ph)
 obtain ⟨hu,eY,hc,h,hk⟩:=h
 have lk: ∀ q,td M take u ph .look<q-> ∀ x':Hs,some Hs.look=some x'->td M take u ph x'<q:=λq hq x' e=>by cases e;exact hq
 cases x with
 | look=>
  simp only [ax]
  refine ⟨fM.refl,λx' hx=> ?_⟩
  by_cases hw:(M.ds u).waits ph take=true
  ·rw [if_pos hw] at hx
   cases hx
   cases take with
   | true=>
    have:gj M u ph=16+pM M u:=by unfold gj pM;rw [if_pos hw];omega
    simp [td,this]
   | false=>simp [td]
  ·rw [if_neg hw] at hx;cases hx
 | iw=>
  refine ⟨fM.refl,λx' hx=> ?_⟩
  cases hx
  show (if M.tail=M.tail then 8+8*eE M else 21)<9+8*eE M
  rw [if_pos rfl];omega
 | gG last=>
  obtain ⟨i,a,b⟩:=h
  have ru:take=false:=hk
  subst ru
  simp only [ax]
  refine ⟨fM.refl,λx' hx=> ?_⟩
  cases hx
  by_cases hl:last=M.tail
  ·subst hl
   have hn:=oW gi
   rw [hn]
   simp only [if_true]
   by_cases h0:g.ef g.t=0
   ·have AA:eE M=0:=by unfold eE;rw [hn];exact if_pos h0
    simp [h0,td,AA]
   ·have AA:eE M=1:=by unfold eE;rw [hn];exact if_neg h0
    simp [h0,td,AA,qC,xD]
  ·have e1:td M false u ph (.gG last)=21:=if_neg hl
   rw [e1]
   split
   ·split
    ·simp [td,qC,xD]
    ·show (if last=M.tail∧eE M=0 then 7 else 20)<21
     split<;>omega
   ·show (if false=true then gj M u ph else 10+8*eE M)<21
    simp only [Bool.false_eq_true,if_false];omega
 | fv last=>
  have ru:take=false:=hk
  subst ru
  simp only [ax]
  refine ⟨fM.refl,λx' hx=> ?_⟩
  split at hx
  ·cases hx
   show (if last=M.tail∧eE M=0 then 6 else 19)<(if last=M.tail∧eE M=0 then 7 else 20)
   split<;>omega
  ·cases hx
 | kL last d=>
  have ru:take=false:=hk
  subst ru
  simp only [ax]
  by_cases fO:M.nx (aO last)=(bH last,0)
  ·rw [if_pos fO]
   refine ⟨fM.refl,λx' hx=> ?_⟩
   cases hx
   show 5<(if last=M.tail∧eE M=0 then 6 else 19)
   split<;>omega
  ·rw [if_neg fO]
   refine ⟨fM.refl,lk _ ?_⟩
   have: ¬ (last=M.tail∧eE M=0):=λ⟨e1,e2⟩=>fO (by
    subst e1
    rw [oW gi,(oX gi).2 ((PF gi).1 e2)])
   show (if false=true then gj M u ph else 10+8*eE M)<(if last=M.tail∧eE M=0 then 6 else 19)
   rw [if_neg this]
   simp only [Bool.false_eq_true,if_false];omega
 | iz d=>
  refine ⟨fM.refl,λx' hx=> ?_⟩
  cases hx
  show (if M.ds u=d∧M.head=M.head then 14+pM M u else 54)<(if M.ds u=d then 15+pM M u else 55)
  by_cases hd:M.ds u=d
  ·rw [if_pos ⟨hd,rfl⟩,if_pos hd];omega
  ·rw [if_neg (λe=>hd e.1),if_neg hd];omega
 | ji d first=>
  refine ⟨fM.refl,λx' hx=> ?_⟩
  cases hx
  show (if M.ds u=d∧first=M.head∧M.tail=M.tail then 13+pM M u else 53)<(if M.ds u=d∧first=M.head then 14+pM M u else 54)
  by_cases hd:M.ds u=d∧first=M.head
  ·rw [if_pos ⟨hd.1,hd.2,rfl⟩,if_pos hd];omega
  ·rw [if_neg (λe=>hd ⟨e.1,e.2.1⟩),if_neg hd];omega
 | jj d first last=>
  refine ⟨fM.refl,λx' hx=> ?_⟩
  cases hx
  show (if M.ds u=d∧first=M.head∧last=M.tail∧M.nx (aO first)=M.nx (aO first) then 12+pM M u else 52)<(if M.ds u=d∧first=M.head∧last=M.tail then 13+pM M u else 53)
  by_cases hd:M.ds u=d∧first=M.head∧last=M.tail
  ·rw [if_pos ⟨hd.1,hd.2.1,hd.2.2,rfl⟩,if_pos hd];omega
  ·rw [if_neg (λe=>hd ⟨e.1,e.2.1,e.2.2.1⟩),if_neg hd];omega
 | ey d first last w=>
  have ru:take=true:=hk
  subst ru
  simp only [ax]
  refine ⟨fM.refl,λx' hx=> ?_⟩
  cases hx
  show _<(if M.ds u=d∧first=M.head∧last=M.tail∧w=M.nx (aO first) then 12+pM M u else 52)
  by_cases hh:M.head=first
  ·rw [if_pos hh]
   by_cases hd:M.ds u=d∧first=M.head∧last=M.tail∧w=M.nx (aO first)
   ·rw [if_pos hd]
    obtain ⟨d1,d2,d3,d4⟩:=hd
    by_cases h0:w.2=0
    ·rw [if_pos h0]
     show (if M.ds u=d then 1 else 51)<_
     rw [if_pos d1];omega
    ·rw [if_neg h0]
     by_cases hl:first=last
     ·rw [if_pos hl]
      have AA:eE M=1:=by
       unfold eE
       rw [if_neg]
       rw [<- d3,<- hl,<- d4];exact h0
      show 5+(if true=true then 16+15*zL M u+10*(if True then 0 else 1) else 10+8*(if True then 0 else 1))<_
      simp only [if_true]
      unfold pM;omega
     ·rw [if_neg hl]
      split
      ·show (if M.ds u=d∧first=M.head then 11+pM M u else 51)<_
       rw [if_pos ⟨d1,d2⟩];omega
      ·show (if first=M.head then 10+pM M u else 50)<_
       rw [if_pos d2];omega
   ·rw [if_neg hd]
    split
    ·show (if M.ds u=d then 1 else 51)<_
     split<;>omega
    ·split
     ·show 5+(if true=true then 16+15*zL M u+10*(if True then 0 else 1) else 10+8*(if True then 0 else 1))<_
      simp only [if_true]
      omega
     ·split
      ·show (if M.ds u=d∧first=M.head then 11+pM M u else 51)<52
       split<;>omega
      ·show (if first=M.head then 10+pM M u else 50)<52
       split<;>omega
  ·rw [if_neg hh,if_neg (λe=>hh e.2.1.symm)]
   show (if true=true then gj M u ph else 10+8*eE M)<_
   simp only [if_true];omega
 | ff d=>
  have ru:take=true:=hk
  subst ru
  simp only [ax]
  by_cases fO:M.ds u=d
  ·rw [if_pos fO]
   refine ⟨λv hv=> ?_,λx' hx=>by cases hx⟩
   replace hv:(Jb2 M.ds u (d.fin 0) v).bN=true:=hv
   by_cases e:v=u
   ·subst e;rw [aM] at hv;cases hv
   ·rw [aJ e] at hv;exact hv
  ·rw [if_neg fO]
   refine ⟨fM.refl,lk _ ?_⟩
   show (if true=true then gj M u ph else 10+8*eE M)<(if M.ds u=d then 1 else 51)
   simp only [if_true]
   rw [if_neg fO];omega
 | hZ d first=>
  have ru:take=true:=hk
  subst ru
  obtain ⟨i,_,_,_,dt,_⟩:=h
  simp only [ax]
  by_cases fO:M.ds u=d
  ·rw [if_pos fO]
   refine ⟨λv hv=> ?_,λx' hx=> ?_⟩
   ·replace hv:(Jb2 M.ds u (d.lB first) v).bN=true:=hv
    by_cases e:v=u
    ·subst e;rw [fO];exact dt.1
    ·rw [aJ e] at hv;exact hv
   ·cases hx
    show (if first=M.head then 10+pM M u else 50)<(if M.ds u=d∧first=M.head then 11+pM M u else 51)
    by_cases hf:first=M.head
    ·rw [if_pos hf,if_pos ⟨fO,hf⟩];omega
    ·rw [if_neg hf,if_neg (λe=>hf e.2)];omega
  ·rw [if_neg fO]
   refine ⟨fM.refl,lk _ ?_⟩
   show (if true=true then gj M u ph else 10+8*eE M)<(if M.ds u=d∧first=M.head then 11+pM M u else 51)
   simp only [if_true]
   rw [if_neg (λe=>fO e.1)];omega
 | eJ first=>
  have ru:take=true:=hk
  subst ru
  obtain ⟨i,a,b,c,e,f⟩:=h
  simp only [ax]
  have AM:=Jd5 gi
  by_cases fO:M.tk (aO first)=(bH first,0)
  ·rw [if_pos fO]
   refine ⟨fM.refl,λx' hx=> ?_⟩
   cases hx
   subst c
   have hl:=qt (me:=0) (z:=u+1) gi hu a b fO (.inr ⟨rfl,λh1 h2=>by rw [f h1 h2];exact ⟨rfl,rfl,rfl⟩⟩)
   show 8+uh { M with tk:=Jb2 M.tk (aO (g.L i)) (bH (g.L i),u+1) } u M.head<(if g.L i=M.head then 10+pM M u else 50)
   have:uh { M with tk:=Jb2 M.tk (aO (g.L i)) (bH (g.L i),u+1) } u M.head=1:=by
    have e1:M.head=g.L i:=by rw [gi.hd,<- hl.1]
    unfold uh
    rw [if_pos rfl]
    refine if_pos ?_
    show (Jb2 M.tk (aO (g.L i)) (bH (g.L i),u+1) (aO M.head)).2=u+1
    rw [e1,aM]
   rw [this]
   split<;>omega
  ·rw [if_neg fO]
   refine ⟨fM.refl,λx' hx=> ?_⟩
   cases hx
   show 8+uh M u M.head<(if first=M.head then 10+pM M u else 50)
   rw [JJ,AM]
   show 8+(if g.T g.h=u+1 then 1 else 16+10*eE M)<_
   by_cases hf:first=M.head
   ·rw [if_pos hf]
    subst hf
    rw [AM] at fO
    have h0:g.T g.h≠0:=λe=>fO (by rw [e])
    by_cases ht:g.T g.h=u+1
    ·rw [if_pos ht];omega
    ·rw [if_neg ht]
     have:zL M u=1:=by rw [BN gi,if_neg (λe=>e.elim h0 ht)]
     unfold pM;omega
   ·rw [if_neg hf]
    split<;>omega
 | sub f bM=>
  cases f with
  | tl x=>
   have hx:=oY x
   cases bM with
   | true=>
    obtain ⟨k,j1,_⟩:=h
    obtain ⟨r1,r2,r3,r4,r5,r6⟩:=wx gi j1
    simp only [ax,bu]
    cases hq:(aU P M x).2 with
    | none=>exact ⟨r1,λx' hx=>by simp at hx⟩
    | some x1=>
     rw [hq] at r6
     exact ⟨r1,λx' hx=>by cases hx;exact r6.1⟩
   | false=>
    obtain ⟨r1,r2,r3,r4,r5,r6⟩:=wx gi h
    have AA:=oc (M:=(aU P M x).1)
    have fx:zL (aU P M x).1 u=zL M u:=by unfold zL;rw [r2,r3]
    simp only [ax,bu]
    cases hq:(aU P M x).2 with
    | none=>
     rw [hq] at r6
     refine ⟨r1,λx' jx=> ?_⟩
     cases jx
     show (if take=true then gj (aU P M x).1 u ph else 10+8*eE (aU P M x).1)<qC x+_
     have vz:eE (aU P M x).1<=if xD M x then 0 else 1:=by
      split
      ·rename_i hf;rw [r6 hf];exact Nat.le_refl _
      ·exact AA
     cases take with
     | true=>
      simp only [if_true]
      have:gj (aU P M x).1 u ph<=16+15*zL M u+10*eE (aU P M x).1:=by
       unfold gj;rw [fx];split<;>omega
      omega
     | false=>
      simp only [Bool.false_eq_true,if_false]
      omega
    | some x1=>
     rw [hq] at r6
     refine ⟨r1,λx' jx=> ?_⟩
     cases jx
     show qC x1+(if take=true then 16+15*zL (aU P M x).1 u+10*(if xD (aU P M x).1 x1 then 0 else 1) else 10+8*(if xD (aU P M x).1 x1 then 0 else 1))<qC x+_
     rw [fx]
     have vz:(if xD (aU P M x).1 x1 then 0 else 1)<=if xD M x then 0 else 1:=by
      by_cases hf:xD M x
      ·rw [if_pos (r6.2 hf)];omega
      ·rw [if_neg hf];split<;>omega
     cases take with
     | true=>simp only [if_true];omega
     | false=>simp only [Bool.false_eq_true,if_false];omega
  | hd x=>
   cases bM with
   | true=>exact h.elim
   | false=>
    have ru:take=true:=hk
    subst ru
    have hx:=oZ x
    obtain ⟨r1,r2⟩:=Dm gi h u ph
    simp only [ax,bu]
    cases hq:(aS P M x).2 with
    | none=>
     rw [hq] at r2
     refine ⟨r1,λx' jx=> ?_⟩
     cases jx
     show (if true=true then gj (aS P M x).1 u ph else 10+8*eE (aS P M x).1)<rn x+LW M u ph x
     simp only [if_true]
     omega
    | some x1=>
     rw [hq] at r2
     refine ⟨r1,λx' jx=> ?_⟩
     cases jx
     show rn x1+LW (aS P M x).1 u ph x1<rn x+LW M u ph x
     omega
end
end Qk
end Go.Proofs.YtpkfimijnkkbjaaGreat
