/- An operation comes to its end, if nobody else steps; and how many steps that takes at most. -/
import Derived.Test.YtpkfimijnkkbjaaGreatJ18
set_option linter.unusedVariables false
namespace Go.Proofs.YtpkfimijnkkbjaaGreat
namespace Qk
section
variable {P:cv} {V:Nat->Nat->Nat} {kd:Nat->Nat->Bool} {pos:Nat->Nat} {g g':Gh} {M M':Mm} {me t:Nat} {s:Qs} {o:Op}
def cost (M:Mm) (t i:Nat):Nat:=if i=t∨(M.ds i).bN=true then 57 else 1
def Jd2 (c:Nat->Nat):Nat->Nat->Nat
 | 0,_=>0
 | d+1,i=>c i+Jd2 c d (i+1)
def eC (P:cv) (M:Mm) (t i:Nat):Nat:=Jd2 (cost M t) (P.n-i) i
theorem Dn {c c':Nat->Nat} (h: ∀ i,c i<=c' i): ∀ d i,Jd2 c d i<=Jd2 c' d i
 | 0,_=>Nat.le_refl _
 | d+1,i=>Nat.add_le_add (h i) (Dn h d (i+1))
theorem Og (h: ∀ v,v≠t->(M'.ds v).bN=true->(M.ds v).bN=true) (i:Nat):cost M' t i<=cost M t i:=by
 unfold cost
 by_cases e:i=t
 ·rw [if_pos (.inl e),if_pos (.inl e)];exact Nat.le_refl _
 ·by_cases hp:(M'.ds i).bN=true
  ·rw [if_pos (.inr hp),if_pos (.inr (h i e hp))];exact Nat.le_refl _
  ·rw [if_neg (λq=>q.elim e hp)]
   split<;>omega
theorem pd (h: ∀ v,v≠t->(M'.ds v).bN=true->(M.ds v).bN=true) (i:Nat):eC P M' t i<=eC P M t i:=Dn (Og h) _ _
theorem JL {i:Nat} (h:i<P.n):eC P M t i=cost M t i+eC P M t (i+1):=by
 unfold eC
 rw [show P.n-i=(P.n-(i+1))+1 by omega]
 rfl
theorem JM {i:Nat}:1<=cost M t i:=by unfold cost;split<;>omega
def rp (P:cv) (M:Mm) (t:Nat):Nat:=P.n+1+eC P M t 0+10
def cZ (P:cv) (M:Mm) (t tries:Nat):Nat:=(P.att-tries)*14+rp P M t
def wz (P:cv) (M:Mm) (t:Nat) (o:Op):Nat:=
 match o.st with
 | .check=>1+(if (M.ds o.i).bN=true then 56 else 0)+cZ P M t 0+4+P.k
 | .mark=>cZ P M t 0+4+(P.k-o.i)
 | .ia _=>cZ P M t 0+4
 | .value=>cZ P M t 0+3
 | .next=>cZ P M t 0+2
 | .ib=>cZ P M t 0+1
 | .tail=>cZ P M t o.tries+8
 | .behind _=>cZ P M t o.tries+7
 | .put _=>cZ P M t o.tries+6
 | .head=>cZ P M t o.tries+14
 | .dX _=>cZ P M t o.tries+13
 | .first _ _=>cZ P M t o.tries+12
 | .Jb6 _ _ _=>cZ P M t o.tries+11
 | .read _ _=>cZ P M t o.tries+10
 | .take _ _=>cZ P M t o.tries+9
 | .ag=>(P.n-o.i)+1+eC P M t 0+10
 | .cO=>1+eC P M t 0+10
 | .b8=>eC P M t o.i+10
 | .result=>9
 | .sub (.hp tk u ph x) .cM=>td M tk u ph x+cZ P M t 0+4+P.k
 | .sub (.hp tk u ph x) _=>td M tk u ph x+eC P M t (o.i+1)+10
 | .sub (.fn (.tl x)) .aH=>cZ P M t o.tries+qC x
 | .sub (.fn (.hd x)) .aH=>cZ P M t o.tries+rn x
 | .sub (.fn (.tl x)) _=>qC x
 | .sub (.fn (.hd x)) _=>rn x
def Less' (t:Nat) (M M':Mm):Prop:= ∀ v,v≠t->(M'.ds v).bN=true->(M.ds v).bN=true
theorem fM.to (h:fM M M'):Less' t M M':=λv _ hv=>h v hv
theorem zM (h:Less' t M M'):rp P M' t<=rp P M t:=by
 have:=pd (P:=P) h 0
 unfold rp;omega
theorem r7 (h:Less' t M M') {a:Nat}:cZ P M' t a<=cZ P M t a:=by
 have:=zM (P:=P) h
 unfold cZ;omega
theorem JN {a:Nat}:cZ P M t a<=cZ P M t 0:=by
 unfold cZ
 have:(P.att-a)*14<=(P.att-0)*14:=Nat.mul_le_mul_right _ (by omega)
 omega
theorem JO {a:Nat}:rp P M t<=cZ P M t a:=by unfold cZ;omega
theorem jQ (h:Less' t M M'):wz P M' t (o.aH P)<=cZ P M t o.tries:=by
 have h1:=zM (P:=P) h
 unfold Op.aH
 split
 ·show (P.n-0)+1+eC P M' t 0+10<=_
  have:rp P M' t=P.n+1+eC P M' t 0+10:=rfl
  have:=JO (P:=P) (M:=M) (t:=t) (a:=o.tries)
  omega
 ·rename_i dA
  have e:cZ P M' t (o.tries+1)+14<=cZ P M t o.tries:=by
   unfold cZ
   rw [show P.att-o.tries=(P.att-(o.tries+1))+1 by omega,Nat.add_mul]
   omega
  by_cases hq:o.take=true
  ·have:wz P M' t { o with tries:=o.tries+1,st:=if o.take=true then Os.head else Os.tail }=cZ P M' t (o.tries+1)+14:=by
    unfold wz;simp only [if_pos hq]
   rw [this];exact e
  ·have:wz P M' t { o with tries:=o.tries+1,st:=if o.take=true then Os.head else Os.tail }=cZ P M' t (o.tries+1)+8:=by
    unfold wz;simp only [if_neg hq]
   rw [this];omega
theorem JP (h:Less' t M M'):wz P M' t (o.cM P)<=cZ P M t 0+4+P.k:=by
 unfold Op.cM
 split
 ·have h1:=jQ (P:=P) (o:=o) h
  have h2:=JN (P:=P) (M:=M) (t:=t) (a:=o.tries)
  omega
 ·show cZ P M' t 0+4+(P.k-0)<=_
  have:=r7 (P:=P) h (a:=0)
  omega
theorem zN (h:Less' t M M') (hi:o.i<P.n) (hn:(o.cD P).2=false):wz P M' t (o.cD P).1<=eC P M t (o.i+1)+10:=by
 have h1:=pd (P:=P) h (o.i+1)
 unfold Op.cD at hn ⊢
 by_cases hc:o.i+1<P.n
 ·simp only [if_pos hc]
  show eC P M' t (o.i+1)+10<=_
  omega
 ·simp only [if_neg hc] at hn ⊢
  by_cases hq:o.take=true
  ·simp only [if_pos hq]
   show 9<=_
   omega
  ·simp only [if_neg hq] at hn
   cases hn
theorem E5 (gi:GI P V pos g M) (ht:t<P.n) (h:OI P V kd pos g M t o) (hn:(aj P M t o).2.2=false):wz P (aj P M t o).1 t (aj P M t o).2.1<wz P M t o∧Less' t M (aj P M t o).1:=by
 have hs:=h.st
 have rf:Less' t M M:=λ_ _ h=>h
 have r0: ∀ {M':Mm},M'.ds=M.ds->Less' t M M':=fun {M'} e v _ hv=>by rw [e] at hv;exact hv
 have tX: ∀ {tk:Bool} {u ph:Nat},td M tk u ph .look<=41:=fun {tk u ph}=>by
  have h4:=j7 (M:=M) (u:=u) (ph:=ph);have h5:=oc (M:=M)
  show (if tk=true then gj M u ph else 10+8*eE M)<=41
  split<;>omega
 revert hn;revert hs
 obtain ⟨tk,v,tries,ref,oi,qK,err,val,st⟩:=o
 cases st with
 | check=>
  intro hs hn
  dsimp only [aj] at hn ⊢
  by_cases hp:(M.ds oi).bN=true
  ·rw [if_pos hp] at hn ⊢
   refine ⟨?_,rf⟩
   show td M _ _ _ .look+cZ P M t 0+4+P.k<1+(if (M.ds oi).bN=true then 56 else 0)+cZ P M t 0+4+P.k
   have:=tX (tk:=(M.ds oi).take) (u:=oi) (ph:=(M.ds oi).ag)
   rw [if_pos hp];omega
  ·rw [if_neg hp] at hn ⊢
   refine ⟨?_,rf⟩
   have:=JP (P:=P) (o:=⟨tk,v,tries,ref,oi,qK,err,val,.check⟩) rf
   show _<1+_+cZ P M t 0+4+P.k
   refine Nat.lt_of_le_of_lt this ?_
   omega
 | mark=>
  intro hs hn
  dsimp only [aj] at hn ⊢
  obtain ⟨_,_,hi,_⟩:=hs
  have hi:oi<P.k:=hi
  split at hn
  ·rename_i cW
   rw [if_pos cW]
   exact ⟨by show cZ P M t 0+4<cZ P M t 0+4+(P.k-oi);omega,rf⟩
  ·rename_i cW
   rw [if_neg cW]
   split at hn
   ·cases hn
   ·rename_i hl
    rw [if_neg hl]
    exact ⟨by show cZ P M t 0+4+(P.k-(oi+1))<cZ P M t 0+4+(P.k-oi);omega,rf⟩
 | ia mk=>exact λ_ _=>⟨Nat.lt_succ_self _,rf⟩
 | value=>exact λ_ _=>⟨Nat.lt_succ_self _,rf⟩
 | next=>exact λ_ _=>⟨Nat.lt_succ_self _,rf⟩
 | ib=>
  intro _ _
  have hl:Less' t M { M with tk:=Jb2 M.tk (aO ref) (bH ref,0) }:=r0 rfl
  have h1:=jQ (P:=P) (o:=⟨tk,v,tries,ref,oi,qK,err,val,.ib⟩) hl
  have h2:=JN (P:=P) (M:=M) (t:=t) (a:=tries)
  refine ⟨?_,hl⟩
  show _<cZ P M t 0+1
  exact Nat.lt_of_le_of_lt h1 (by show cZ P M t tries<_;omega)
 | tail=>exact λ_ _=>⟨Nat.lt_succ_self _,rf⟩
 | behind last=>
  intro _ _
  dsimp only [aj]
  refine ⟨?_,rf⟩
  show wz P M t (if _ then _ else _)<cZ P M t tries+7
  split
  ·split
   ·show cZ P M t tries+5<_;omega
   ·show cZ P M t tries+6<_;omega
  ·have h1:=jQ (P:=P) (o:=⟨tk,v,tries,ref,oi,qK,err,val,.behind last⟩) rf
   exact Nat.lt_of_le_of_lt h1 (by show cZ P M t tries<_;omega)
 | put last=>
  intro _ hn
  dsimp only [aj] at hn ⊢
  split
  ·exact ⟨by show 5<cZ P M t tries+6;omega,r0 rfl⟩
  ·exact ⟨Nat.lt_succ_self _,rf⟩
 | head=>exact λ_ _=>⟨Nat.lt_succ_self _,rf⟩
 | dX first=>exact λ_ _=>⟨Nat.lt_succ_self _,rf⟩
 | first first last=>exact λ_ _=>⟨Nat.lt_succ_self _,rf⟩
 | Jb6 first last w=>
  intro _ hn
  dsimp only [aj] at hn ⊢
  split at hn
  ·rename_i hh
   rw [if_pos hh]
   split at hn
   ·cases hn
   ·rename_i h0
    rw [if_neg h0]
    refine ⟨?_,rf⟩
    show wz P M t ⟨_,_,_,_,_,_,_,_,if first=last then _ else _⟩<cZ P M t tries+11
    by_cases hl:first=last
    ·rw [if_pos hl];show cZ P M t tries+5<_;omega
    ·rw [if_neg hl];show cZ P M t tries+10<_;omega
  ·rename_i hh
   rw [if_neg hh]
   have h1:=jQ (P:=P) (o:=⟨tk,v,tries,ref,oi,qK,err,val,.Jb6 first last w⟩) rf
   exact ⟨Nat.lt_of_le_of_lt h1 (by show cZ P M t tries<cZ P M t tries+11;omega),rf⟩
 | read first x=>exact λ_ _=>⟨Nat.lt_succ_self _,rf⟩
 | take first y=>
  intro _ hn
  dsimp only [aj] at hn ⊢
  split
  ·exact ⟨by show 8<cZ P M t tries+9;omega,r0 rfl⟩
  ·exact ⟨Nat.lt_succ_self _,rf⟩
 | ag=>
  intro hs _
  obtain ⟨_,hi,_⟩:=hs
  have hi:oi<P.n:=hi
  refine ⟨?_,rf⟩
  show wz P M t ⟨_,_,_,_,oi+1,_,_,_,if oi+1=P.n then _ else _⟩<(P.n-oi)+1+eC P M t 0+10
  by_cases hl:oi+1=P.n
  ·rw [if_pos hl];show 1+eC P M t 0+10<_;omega
  ·rw [if_neg hl];show (P.n-(oi+1))+1+eC P M t 0+10<_;omega
 | cO=>
  intro _ _
  have hl:Less' t M { M with ds:=Jb2 M.ds t ⟨true,tk,ref,qK+1⟩ }:=λw hw hp=>by
   replace hp:(Jb2 M.ds t ⟨true,tk,ref,qK+1⟩ w).bN=true:=hp
   rw [aJ hw] at hp;exact hp
  refine ⟨?_,hl⟩
  have:=pd (P:=P) hl 0
  show eC P { M with ds:=Jb2 M.ds t ⟨true,tk,ref,qK+1⟩ } t 0+10<1+eC P M t 0+10
  omega
 | b8=>
  intro hs hn
  dsimp only [aj] at hn ⊢
  obtain ⟨_,_,hi,_⟩:=hs
  have hi:oi<P.n:=hi
  have hc:=JL (P:=P) (M:=M) (t:=t) hi
  have VD:=JM (M:=M) (t:=t) (i:=oi)
  split at hn
  ·rename_i hp
   rw [if_pos hp]
   refine ⟨?_,rf⟩
   show td M _ _ _ .look+eC P M t (oi+1)+10<eC P M t oi+10
   have:=tX (tk:=(M.ds oi).take) (u:=oi) (ph:=(M.ds oi).ag)
   have:cost M t oi=57:=if_pos (.inr hp.1)
   omega
  ·rename_i hp
   rw [if_neg hp]
   have h1:=zN (P:=P) (o:=⟨tk,v,tries,ref,oi,qK,err,val,.b8⟩) rf hi hn
   refine ⟨Nat.lt_of_le_of_lt h1 ?_,rf⟩
   show eC P M t (oi+1)+10<eC P M t oi+10
   omega
 | result=>exact λ_ _=>⟨Nat.lt_succ_self _,rf⟩
 | sub s f=>
  intro hs hn
  dsimp only [aj] at hn ⊢
  cases s with
  | hp tk' u ph x=>
   have qJ:bF P M (.hp tk' u ph x)=((ax P M tk' u ph x).1,(ax P M tk' u ph x).2.map (.hp tk' u ph)):=rfl
   rw [qJ] at hn ⊢
   have Xz:yX P V g M tk' u ph x:=by
    cases f with
    | cM=>exact hs.2.2.2.2
    | b8=>exact hs.2.2.2.2.2
    | aH=>exact hs.elim
    | fin=>exact hs.elim
   obtain ⟨r1,r2⟩:=Of gi Xz
   have fj:=(BO (M:=M) (take:=tk') (u:=u) (ph:=ph) (x:=x)).1
   cases hq:(ax P M tk' u ph x).2 with
   | some x'=>
    have r2:=r2 x' hq
    have q1:=r7 (P:=P) (r1.to (t:=t)) (a:=0)
    have q2:=pd (P:=P) (r1.to (t:=t)) (oi+1)
    cases f with
    | cM=>exact ⟨by show td (ax P M tk' u ph x).1 tk' u ph x'+cZ P (ax P M tk' u ph x).1 t 0+4+P.k<td M tk' u ph x+cZ P M t 0+4+P.k;omega,r1.to⟩
    | b8=>exact ⟨by show td (ax P M tk' u ph x).1 tk' u ph x'+eC P (ax P M tk' u ph x).1 t (oi+1)+10<td M tk' u ph x+eC P M t (oi+1)+10;omega,r1.to⟩
    | aH=>exact hs.elim
    | fin=>exact hs.elim
   | none=>
    rw [hq] at hn
    cases f with
    | cM=>
     have:=JP (P:=P) (o:=⟨tk,v,tries,ref,oi,qK,err,val,.sub (.hp tk' u ph x) .cM⟩) (r1.to (t:=t))
     refine ⟨Nat.lt_of_le_of_lt this ?_,r1.to⟩
     show _<td M tk' u ph x+cZ P M t 0+4+P.k
     omega
    | b8=>
     obtain ⟨_,_,hi,_⟩:=hs
     have:=zN (P:=P) (o:=⟨tk,v,tries,ref,oi,qK,err,val,.sub (.hp tk' u ph x) .b8⟩) (r1.to (t:=t)) hi hn
     refine ⟨Nat.lt_of_le_of_lt this ?_,r1.to⟩
     show eC P M t (oi+1)+10<td M tk' u ph x+eC P M t (oi+1)+10
     omega
    | aH=>exact hs.elim
    | fin=>exact hs.elim
  | fn fn=>
   cases fn with
   | tl x=>
    have qJ:bF P M (.fn (.tl x))=((aU P M x).1,((aU P M x).2.map .tl).map .fn):=rfl
    rw [qJ] at hn ⊢
    have Z2:xC P g M none x:=by
     cases f with
     | aH=>exact hs.2
     | fin=>exact hs.2.2.2.1
     | cM=>exact hs.elim
     | b8=>exact hs.elim
    obtain ⟨r1,_,_,_,_,r6⟩:=wx gi Z2
    have fj:=oY x
    have q1:=r7 (P:=P) (r1.to (t:=t)) (a:=tries)
    cases hq:(aU P M x).2 with
    | some x'=>
     rw [hq] at r6
     have r6:=r6.1
     cases f with
     | aH=>exact ⟨by show cZ P (aU P M x).1 t tries+qC x'<cZ P M t tries+qC x;omega,r1.to⟩
     | fin=>exact ⟨r6,r1.to⟩
     | cM=>exact hs.elim
     | b8=>exact hs.elim
    | none=>
     rw [hq] at hn
     cases f with
     | aH=>
      have:=jQ (P:=P) (o:=⟨tk,v,tries,ref,oi,qK,err,val,.sub (.fn (.tl x)) .aH⟩) (r1.to (t:=t))
      refine ⟨Nat.lt_of_le_of_lt this ?_,r1.to⟩
      show cZ P M t tries<cZ P M t tries+qC x
      omega
     | fin=>cases hn
     | cM=>exact hs.elim
     | b8=>exact hs.elim
   | hd x=>
    have qJ:bF P M (.fn (.hd x))=((aS P M x).1,((aS P M x).2.map .hd).map .fn):=rfl
    rw [qJ] at hn ⊢
    have Zc: ∃ j,AJ P V g M j x:=by
     cases f with
     | aH=>exact ⟨none,hs.2⟩
     | fin=>
      rcases hs.2 with ⟨_,_,h,_⟩ | ⟨_,_,⟨_,_,h⟩ | ⟨_,i,_,_,h⟩⟩
      ·exact ⟨_,h⟩
      ·exact ⟨_,h⟩
      ·exact ⟨_,h⟩
     | cM=>exact hs.elim
     | b8=>exact hs.elim
    obtain ⟨j,Zc⟩:=Zc
    obtain ⟨r1,r6⟩:=Dm gi Zc 0 0
    have fj:=oZ x
    have q1:=r7 (P:=P) (r1.to (t:=t)) (a:=tries)
    cases hq:(aS P M x).2 with
    | some x'=>
     rw [hq] at r6
     have r6:=r6.1
     cases f with
     | aH=>exact ⟨by show cZ P (aS P M x).1 t tries+rn x'<cZ P M t tries+rn x;omega,r1.to⟩
     | fin=>exact ⟨r6,r1.to⟩
     | cM=>exact hs.elim
     | b8=>exact hs.elim
    | none=>
     rw [hq] at hn
     cases f with
     | aH=>
      have:=jQ (P:=P) (o:=⟨tk,v,tries,ref,oi,qK,err,val,.sub (.fn (.hd x)) .aH⟩) (r1.to (t:=t))
      refine ⟨Nat.lt_of_le_of_lt this ?_,r1.to⟩
      show cZ P M t tries<cZ P M t tries+rn x
      omega
     | fin=>cases hn
     | cM=>exact hs.elim
     | b8=>exact hs.elim
theorem te {c:Nat->Nat} {b:Nat} (h: ∀ i,c i<=b): ∀ d i,Jd2 c d i<=d*b
 | 0,_=>Nat.zero_le _
 | d+1,i=>by
  have h1:=h i
  have h2:=te h d (i+1)
  show c i+Jd2 c d (i+1)<=(d+1)*b
  rw [Nat.add_mul,Nat.one_mul];omega
theorem zO {i:Nat}:eC P M t i<=P.n*57:=by
 have h1:=te (c:=cost M t) (b:=57) (λi=>by unfold cost;split<;>omega) (P.n-i) i
 have h2:(P.n-i)*57<=P.n*57:=Nat.mul_le_mul_right _ (by omega)
 unfold eC;omega
theorem wB:1<=wz P M t o∧wz P M t o<=P.att*14+P.n*58+P.k+72:=by
 have hc: ∀ i,eC P M t i<=P.n*57:=λi=>zO
 have h0:=hc 0
 have Wd: ∀ a,cZ P M t a<=P.att*14+P.n*58+11:=λa=>by
  unfold cZ rp
  have:(P.att-a)*14<=P.att*14:=Nat.mul_le_mul_right _ (by omega)
  omega
 have hr:=Wd o.tries
 have V5:=Wd 0
 unfold wz
 split
 all_goals first
  | (split<;>omega)
  | omega
  | (have:=hc o.i;omega)
  | (rename_i tk u ph x _;have:=BO (M:=M) (take:=tk) (u:=u) (ph:=ph) (x:=x);have:=hc (o.i+1);omega)
  | (rename_i x _;have:=oY x;omega)
  | (rename_i x _;have:=oZ x;omega)
  | (rename_i tk u ph x _ _ _;have:=BO (M:=M) (take:=tk) (u:=u) (ph:=ph) (x:=x);have:=hc (o.i+1);omega)
  | (rename_i x _ _ _;have:=oY x;omega)
  | (rename_i x _ _ _;have:=oZ x;omega)
end
section
variable {P:cv} {V:Nat->Nat->Nat} {kd:Nat->Nat->Bool} {g:Gh} {s:Qs} {t:Nat} {nc:Nat->Nat}
def Qs.pick (P:cv) (V:Nat->Nat->Nat) (kd:Nat->Nat->Bool) (nc:Nat->Nat) (s:Qs) (t:Nat):Qs:=if t<P.n∧s.pos t<nc t then s.step P V kd t else s
def Qs.run (P:cv) (V:Nat->Nat->Nat) (kd:Nat->Nat->Bool) (nc:Nat->Nat) (s:Qs) (l:List Nat):Qs:=l.foldl (Qs.pick P V kd nc) s
theorem dR (u:Nat) (h:u≠t):(s.step P V kd t).pos u=s.pos u∧(s.step P V kd t).cur u=s.cur u∧(s.step P V kd t).out u=s.out u:=by
 unfold Qs.step
 generalize aj P s.M t (s.aA V kd t)=r
 obtain ⟨M',o',b⟩:=r
 cases b with
 | false=>exact ⟨rfl,aJ h,rfl⟩
 | true=>exact ⟨aJ h,aJ h,aJ h⟩
theorem JQ:(s.step P V kd t).M=(aj P s.M t (s.aA V kd t)).1:=by
 unfold Qs.step
 generalize aj P s.M t (s.aA V kd t)=r
 obtain ⟨M',o',b⟩:=r
 cases b<;>rfl
theorem pe (h:(aj P s.M t (s.aA V kd t)).2.2=false):(s.step P V kd t).pos=s.pos∧(s.step P V kd t).cur t=some (aj P s.M t (s.aA V kd t)).2.1∧(s.step P V kd t).out=s.out:=by
 unfold Qs.step
 revert h
 generalize aj P s.M t (s.aA V kd t)=r
 obtain ⟨M',o',b⟩:=r
 intro h
 cases h
 exact ⟨rfl,aM,rfl⟩
theorem step_end (h:(aj P s.M t (s.aA V kd t)).2.2=true):(s.step P V kd t).pos t=s.pos t+1∧(s.step P V kd t).cur t=none:=by
 unfold Qs.step
 revert h
 generalize aj P s.M t (s.aA V kd t)=r
 obtain ⟨M',o',b⟩:=r
 intro h
 cases h
 exact ⟨aM,aM⟩
theorem Ja1 (hV: ∀ u p,V u p<16777216) (hk:1<=P.k∧P.k<=32) (hi:Inv P V kd g s): ∃ g',Inv P V kd g' (s.pick P V kd nc t):=by
 unfold Qs.pick
 split
 ·rename_i h
  obtain ⟨g',h1,_⟩:=C5 hV hk hi h.1
  exact ⟨g',h1⟩
 ·exact ⟨g,hi⟩
theorem Rs (hV: ∀ u p,V u p<16777216) (hk:1<=P.k∧P.k<=32) (l:List Nat): ∀ (g:Gh) (s:Qs),Inv P V kd g s-> ∃ g',Inv P V kd g' (s.run P V kd nc l):=by
 induction l with
 | nil=>exact λg s hi=>⟨g,hi⟩
 | cons t l ih=>
  intro g s hi
  obtain ⟨g',h⟩:=Ja1 (nc:=nc) (t:=t) hV hk hi
  exact ih g' _ h
theorem od (l m:List Nat):s.run P V kd nc (l++m)=(s.run P V kd nc l).run P V kd nc m:=List.foldl_append
theorem lD (l:List Nat): ∀ (s:Qs),(∀ u,s.pos u<=nc u)-> ∀ u,(s.run P V kd nc l).pos u<=nc u:=by
 induction l with
 | nil=>exact λs h=>h
 | cons t l ih=>
  intro s h
  refine ih _ λu=> ?_
  unfold Qs.pick
  split
  ·rename_i hh
   by_cases e:u=t
   ·subst e
    cases hb:(aj P s.M u (s.aA V kd u)).2.2 with
    | false=>rw [(pe hb).1];exact h u
    | true=>rw [(step_end hb).1];exact hh.2
   ·rw [(dR u e).1];exact h u
  ·exact h u
def left (P:cv) (V:Nat->Nat->Nat) (kd:Nat->Nat->Bool) (nc:Nat->Nat) (B:Nat) (s:Qs) (t:Nat):Nat:=if s.pos t<nc t then wz P s.M t (s.aA V kd t)+(nc t-s.pos t-1)*B else 0
structure JR (nc:Nat->Nat) (t:Nat) (s s':Qs):Prop where
 pos: ∀ u,u≠t->s'.pos u=s.pos u
 cur: ∀ u,u≠t->s'.cur u=s.cur u
 out: ∀ u,u≠t->s'.out u=s.out u
 done:nc t<=s'.pos t
theorem Ut (hV: ∀ u p,V u p<16777216) (hk:1<=P.k∧P.k<=32) (ht:t<P.n) (B:Nat) (Q:Gh->Qs->Prop)
  (hQ: ∀ g s,Inv P V kd g s->s.pos t<nc t->Q g s-> ∃ g',Inv P V kd g' (s.step P V kd t)∧Q g' (s.step P V kd t))
  (hB: ∀ g s,Inv P V kd g s->Q g s->s.cur t=none->wz P s.M t (s.aA V kd t)<=B):
  ∀ (m:Nat) (g:Gh) (s:Qs),Inv P V kd g s->Q g s->left P V kd nc B s t<=m->
   ∃ g',Inv P V kd g' (s.run P V kd nc (List.replicate m t))∧Q g' (s.run P V kd nc (List.replicate m t))∧JR nc t s (s.run P V kd nc (List.replicate m t)):=by
 intro m
 induction m with
 | zero=>
  intro g s hi hq hl
  refine ⟨g,hi,hq,⟨λ_ _=>rfl,λ_ _=>rfl,λ_ _=>rfl,?_⟩⟩
  unfold left at hl
  split at hl
  ·have:=(wB (P:=P) (M:=s.M) (t:=t) (o:=s.aA V kd t)).1;omega
  ·rename_i h;exact Nat.le_of_not_lt h
 | succ m ih=>
  intro g s hi hq hl
  show ∃ g',Inv P V kd g' ((s.pick P V kd nc t).run P V kd nc (List.replicate m t))∧Q g' ((s.pick P V kd nc t).run P V kd nc (List.replicate m t))∧JR nc t s ((s.pick P V kd nc t).run P V kd nc (List.replicate m t))
  unfold Qs.pick
  by_cases hp:s.pos t<nc t
  ·rw [if_pos ⟨ht,hp⟩]
   obtain ⟨g1,k1,k2⟩:=hQ g s hi hp hq
   have F1:left P V kd nc B (s.step P V kd t) t<=m:=by
    unfold left at hl ⊢
    rw [if_pos hp] at hl
    cases hb:(aj P s.M t (s.aA V kd t)).2.2 with
    | false=>
     obtain ⟨e1,e2,_⟩:=pe hb
     have h1:=(E5 hi.gi ht (qu hi ht) hb).1
     have h2:(s.step P V kd t).aA V kd t=(aj P s.M t (s.aA V kd t)).2.1:=by unfold Qs.aA;rw [e2];rfl
     rw [e1,if_pos hp,JQ,h2]
     omega
    | true=>
     obtain ⟨e1,e2⟩:=step_end hb
     have h1:=hB g1 _ k1 k2 e2
     have h3:=(wB (P:=P) (M:=s.M) (t:=t) (o:=s.aA V kd t)).1
     rw [e1]
     split
     ·rename_i dA
      have:(nc t-s.pos t-1)*B=(nc t-(s.pos t+1)-1)*B+B:=by
       rw [show nc t-s.pos t-1=(nc t-(s.pos t+1)-1)+1 by omega,Nat.add_mul,Nat.one_mul]
      omega
     ·omega
   obtain ⟨g',q1,q2,q3⟩:=ih g1 _ k1 k2 F1
   refine ⟨g',q1,q2,⟨λu hu=> ?_,λu hu=> ?_,λu hu=> ?_,q3.done⟩⟩
   ·rw [q3.pos u hu,(dR u hu).1]
   ·rw [q3.cur u hu,(dR u hu).2.1]
   ·rw [q3.out u hu,(dR u hu).2.2]
  ·rw [if_neg (λh=>hp h.2)]
   have F1:left P V kd nc B s t<=m:=by unfold left;rw [if_neg hp];exact Nat.zero_le _
   exact ih g s hi hq F1
theorem Dp {B:Nat} (hb:wz P s.M t (s.aA V kd t)<=B):left P V kd nc B s t<=(nc t-s.pos t)*B:=by
 unfold left
 split
 ·rename_i h
  have:(nc t-s.pos t)*B=(nc t-s.pos t-1)*B+B:=by
   rw [show nc t-s.pos t=(nc t-s.pos t-1)+1 by omega,Nat.add_mul,Nat.one_mul]
   simp
  omega
 ·exact Nat.zero_le _
theorem JS (hV: ∀ u p,V u p<16777216) (hk:1<=P.k∧P.k<=32) (ht:t<P.n) (hi:Inv P V kd g s) {m:Nat} (hm:(nc t-s.pos t)*(P.att*14+P.n*58+P.k+72)<=m):
  ∃ g',Inv P V kd g' (s.run P V kd nc (List.replicate m t))∧JR nc t s (s.run P V kd nc (List.replicate m t)):=by
 obtain ⟨g',h1,_,h2⟩:=Ut (nc:=nc) hV hk ht (P.att*14+P.n*58+P.k+72) (λ_ _=>True) (λg s hi _ _=>(by
  obtain ⟨g',h,_⟩:=C5 hV hk hi ht
  exact ⟨g',h,trivial⟩)) (λ_ _ _ _ _=>wB.2) m g s hi trivial (Nat.le_trans (Dp wB.2) hm)
 exact ⟨g',h1,h2⟩
end
section
variable {P:cv} {V:Nat->Nat->Nat} {kd:Nat->Nat->Bool} {pos:Nat->Nat} {g g1:Gh} {M M':Mm} {s:Qs} {q:Nat} {nc:Nat->Nat} {o:Op}
def SH (g:Gh):Hs->Prop
 | .ey _ first _ w=> ∃ i,i<=g.h∧g.L i=first∧(g.h=i->w.2=0->g.h=g.m)
 | .ff _=>g.h=g.m
 | _=>True
def SS (g:Gh) (q:Nat):Os->Prop
 | .Jb6 first _ w=> ∃ i,i<=g.h∧g.L i=first∧(g.h=i->w.2=0->g.h=g.m)
 | .sub (.hp _ _ _ _) .cM=>False
 | .sub (.hp tk u _ x) _=>u=q∧tk=true∧SH g x
 | _=>True
structure SO (g:Gh) (M:Mm) (q:Nat) (o:Op):Prop where
 ds: ∀ a,g.A q=some a->(M.ds q).bN=false->(M.ds q).load=0->g.h=g.m
 err:o.err=7->g.h=g.m
 st:SS g q o.st
def Dq (g:Gh) (M M':Mm) (q:Nat):Prop:=M'.ds q=M.ds q∨(M'.ds q).bN=true∨(M'.ds q).load≠0∨g.h=g.m
theorem tf {u:Nat} {d:Ds} (h:d.bN=true∨d.load≠0∨g.h=g.m):Dq g M { M with ds:=Jb2 M.ds u d } q:=by
 unfold Dq
 show Jb2 M.ds u d q=_∨(Jb2 M.ds u d q).bN=true∨(Jb2 M.ds u d q).load≠0∨_
 by_cases e:q=u
 ·rw [e,aM];exact .inr h
 ·rw [aJ e];exact .inl rfl
theorem JT (gi:GI P V pos g M) {j:Option Nat} {x:Tl} (h:xC P g M j x):Dq g M (aU P M x).1 q:=by
 cases x with
 | f last x u d=>
  obtain ⟨i,a,b,c,hx,_⟩:=h
  simp only [aU]
  split
  ·exact tf (.inr (.inl (by show x≠0;rw [<- hx];exact (gi.okp (i+1) (by omega)).2)))
  ·exact .inl rfl
 | s last x=>simp only [aU];split<;>exact .inl rfl
 | e=>exact .inl rfl
 | n last=>exact .inl rfl
 | d last x u=>exact .inl rfl
theorem JU {x:Hd}:Dq g M (aS P M x).1 q:=by
 cases x with
 | f first x u d y=>
  simp only [aS]
  split
  ·exact tf (.inr (.inl (Nat.succ_ne_zero _)))
  ·exact .inl rfl
 | s first x=>simp only [aS];split<;>exact .inl rfl
 | m first=>simp only [aS];split<;>exact .inl rfl
 | e=>exact .inl rfl
 | n first=>exact .inl rfl
 | t first x=>exact .inl rfl
 | d first x u=>exact .inl rfl
 | v first x u d=>exact .inl rfl
theorem Uu (gi:GI P V pos g M) {take:Bool} {u ph:Nat} {x:Hs} (h:yX P V g M take u ph x) (hs:SH g x):Dq g M (ax P M take u ph x).1 q:=by
 cases x with
 | ff d=>
  simp only [ax]
  split
  ·exact tf (.inr (.inr hs))
  ·exact .inl rfl
 | hZ d first=>
  obtain ⟨_,_,_,⟨i,_,_,_,dt,_⟩,_⟩:=h
  simp only [ax]
  split
  ·exact tf (.inl dt.1)
  ·exact .inl rfl
 | eJ first=>simp only [ax];split<;>exact .inl rfl
 | kL last d=>simp only [ax];split<;>exact .inl rfl
 | sub f bM=>
  cases f with
  | tl x=>
   have:Dq g M (aU P M x).1 q:=by
    cases bM with
    | true=>
     obtain ⟨k,j1,_⟩:=h.2.2.2.1
     exact JT gi j1
    | false=>exact JT gi h.2.2.2.1
   simp only [ax,bu]
   cases hq:(aU P M x).2 with
   | none=>exact this
   | some x1=>exact this
  | hd x=>
   simp only [ax,bu]
   cases hq:(aS P M x).2 with
   | none=>exact JU
   | some x1=>exact JU
 | look=>exact .inl rfl
 | iw=>exact .inl rfl
 | gG last=>exact .inl rfl
 | fv last=>exact .inl rfl
 | iz d=>exact .inl rfl
 | ji d first=>exact .inl rfl
 | jj d first last=>exact .inl rfl
 | ey d first last w=>exact .inl rfl
theorem lE (h:o.take=true):SS g q (o.aH P).st∧(o.aH P).err=o.err:=by
 unfold Op.aH
 split
 ·exact ⟨trivial,rfl⟩
 ·refine ⟨?_,rfl⟩
  first
   | trivial
   | (show SS g q (if o.take=true then .head else .tail);rw [if_pos h];trivial)
theorem vj:SS g q (o.cD P).1.st∧(o.cD P).1.err=o.err:=by
 unfold Op.cD
 split
 ·exact ⟨trivial,rfl⟩
 ·split<;>exact ⟨trivial,rfl⟩
theorem tg (gi:GI P V pos g M) {i first:Nat} (hi:i<=g.h) (hL:g.L i=first) (hh:g.h=i) (h0:(M.nx (aO first)).2=0):g.h=g.m:=by
 have g1:=gi.ht;have g3:=gi.tm
 subst hL
 have:=oT gi (i:=i) (by omega) (gi.nxh i (by omega) (by omega)) h0
 omega
theorem Oh (gi : GI P V pos g M) (hq : q < P.n) (nz : ∀ u, u < P.n -> u ≠ q -> g.A u = none) (h : OI P V kd pos g M q o) (fx : o.take = true) (TS : SO g M q o)
    (gi1 : GI P V pos g1 (aj P M q o).1) (hg : dy P pos q g M g1 (aj P M q o).1) (hm : g1.m = g.m) :
    (match (aj P M q o).2.2 with
     | false => SO g1 (aj P M q o).1 q (aj P M q o).2.1
     | true => (aj P M q o).2.1.err = 7 -> g1.h = g1.m) := by
  have e1 : g.h = g.m -> g1.h = g1.m := λe => by
    have := hg.h; have := gi1.ht; have := gi1.tm; omega
  have w1 : ∀ {first : Nat} {w : Nat × Nat}, (∃ i, i <= g.h ∧ g.L i = first ∧ (g.h = i -> w.2 = 0 -> g.h = g.m)) -> ∃ i, i <= g1.h ∧ g1.L i = first ∧ (g1.h = i -> w.2 = 0 -> g1.h = g1.m) := fun {first w} ⟨i, a, b, c⟩ => by
    have h1 := hg.h; have := gi.ht; have := gi.tm
    exact ⟨i, by omega, by rw [hg.L i (by omega)]; exact b, λhh h0 => e1 (c (by omega) h0)⟩
  have dL : Dq g M (aj P M q o).1 q -> ∀ a, g1.A q = some a -> ((aj P M q o).1.ds q).bN = false -> ((aj P M q o).1.ds q).load = 0 -> g1.h = g1.m := λhd a ha hp hl => by
    rcases hd with hd | hd | hd | hd
    · rcases hg.A' q a ha with h' | h'
      · rw [hd] at hp hl; exact e1 (TS.ds a h' hp hl)
      · have := ((gi1.ds q hq).ph a ha).1
        rw [hd] at this; omega
    · rw [hd] at hp; cases hp
    · exact absurd hl hd
    · exact e1 hd
  have Ja0 : ∀ u, u ≠ q -> (M.ds u).bN = false := λu hu => by
    by_cases hn : u < P.n
    · exact (gi.ds u hn).quiet (nz u hn hu)
    · exact (gi.dsOut u (by omega)).1
  obtain ⟨k1, k2, k3, k4, k5⟩ := h
  have gL := TS.err
  have eF := TS.st
  revert dL gi1 hg
  obtain ⟨tk, v, tries, ref, oi, qK, err, val, st⟩ := o
  have fx : tk = true := fx
  cases st with
  | check =>
    intro gi1 hg dL
    have hA : g.A q = none := k5.1
    have hp : ¬ (M.ds oi).bN = true := λe => by
      by_cases Vz : oi = q
      · rw [Vz, (gi.ds q hq).quiet hA] at e; cases e
      · rw [Ja0 oi Vz] at e; cases e
    dsimp only [aj] at gi1 hg dL ⊢
    rw [if_neg hp] at gi1 hg dL ⊢
    have hw : Op.cM P ⟨tk, v, tries, ref, oi, qK, err, val, .check⟩ = Op.aH P ⟨tk, v, tries, ref, oi, qK, err, val, .check⟩ := if_pos fx
    rw [hw]
    have ha := lE (P := P) (g := g1) (q := q) (o := ⟨tk, v, tries, ref, oi, qK, err, val, .check⟩) fx
    exact ⟨dL (.inl rfl), λe => e1 (gL (ha.2.symm.trans e)), ha.1⟩
  | mark => exact absurd (k5.2.2.2.2 : tk = false) (by rw [fx]; simp)
  | ia mk => exact absurd (k5.1.kd : tk = false) (by rw [fx]; simp)
  | value => exact absurd (k5.1.kd : tk = false) (by rw [fx]; simp)
  | next => exact absurd (k5.1.kd : tk = false) (by rw [fx]; simp)
  | ib => exact absurd (k5.1.kd : tk = false) (by rw [fx]; simp)
  | tail => exact absurd ((UP.kd k5) : tk = false) (by rw [fx]; simp)
  | behind last => exact absurd (k5.1.kd : tk = false) (by rw [fx]; simp)
  | put last => exact absurd (k5.1.kd : tk = false) (by rw [fx]; simp)
  | head => intro gi1 hg dL; exact ⟨dL (.inl rfl), λe => e1 (gL e), trivial⟩
  | dX first => intro gi1 hg dL; exact ⟨dL (.inl rfl), λe => e1 (gL e), trivial⟩
  | first first last =>
    intro gi1 hg dL
    obtain ⟨_, i, _, a, b, _⟩ := k5
    exact ⟨dL (.inl rfl), λe => e1 (gL e), w1 ⟨i, a, b, λhh h0 => tg gi a b hh h0⟩⟩
  | Jb6 first last w =>
    intro gi1 hg dL
    dsimp only [aj] at gi1 hg dL ⊢
    by_cases hh : M.head = first
    · rw [if_pos hh] at gi1 hg dL ⊢
      by_cases h0 : w.2 = 0
      · rw [if_pos h0] at gi1 hg dL ⊢
        intro _
        obtain ⟨i, a, b, c⟩ := eF
        have := gi.ht; have := gi.tm
        exact e1 (c (gi.dup g.h i (by omega) (by omega) (by rw [<- gi.hd, hh, b])) h0)
      · rw [if_neg h0] at gi1 hg dL ⊢
        refine ⟨dL (.inl rfl), λe => e1 (gL e), ?_⟩
        show SS g1 q (if first = last then _ else _)
        split <;> trivial
    · rw [if_neg hh] at gi1 hg dL ⊢
      have ha := lE (P := P) (g := g1) (q := q) (o := ⟨tk, v, tries, ref, oi, qK, err, val, .Jb6 first last w⟩) fx
      exact ⟨dL (.inl rfl), λe => e1 (gL (ha.2.symm.trans e)), ha.1⟩
  | read first x => intro gi1 hg dL; exact ⟨dL (.inl rfl), λe => e1 (gL e), trivial⟩
  | take first y =>
    intro gi1 hg dL
    dsimp only [aj] at gi1 hg dL ⊢
    by_cases hc : M.tk (aO first) = (bH first, 0)
    · rw [if_pos hc] at dL ⊢
      exact ⟨dL (.inl rfl), λe => e1 (gL e), trivial⟩
    · rw [if_neg hc] at dL ⊢
      exact ⟨dL (.inl rfl), λe => e1 (gL e), trivial⟩
  | ag =>
    intro gi1 hg dL
    refine ⟨dL (.inl rfl), λe => e1 (gL e), ?_⟩
    show SS g1 q (if oi + 1 = P.n then .cO else .ag)
    split <;> trivial
  | cO =>
    intro gi1 hg dL
    exact ⟨dL (tf (.inl rfl)), λe => e1 (gL e), trivial⟩
  | b8 =>
    intro gi1 hg dL
    dsimp only [aj] at gi1 hg dL ⊢
    by_cases hp : (M.ds oi).bN = true ∧ (M.ds oi).ag <= qK
    · rw [if_pos hp] at gi1 hg dL ⊢
      have Vz : oi = q := by
        by_cases e : oi = q
        · exact e
        · have := Ja0 oi e; rw [hp.1] at this; cases this
      refine ⟨dL (.inl rfl), λe => e1 (gL e), Vz, ?_, trivial⟩
      show (M.ds oi).take = true
      obtain ⟨a, ha, _, Yn, _⟩ := k5.1
      rw [Vz, ((gi.ds q hq).ph a ha).2.1, Yn]; exact fx
    · rw [if_neg hp] at gi1 hg dL ⊢
      have ha := vj (P := P) (g := g1) (q := q) (o := ⟨tk, v, tries, ref, oi, qK, err, val, .b8⟩)
      cases hb : (Op.cD P ⟨tk, v, tries, ref, oi, qK, err, val, .b8⟩).2 with
      | false => simp only; exact ⟨dL (.inl rfl), λe => e1 (gL (ha.2.symm.trans e)), ha.1⟩
      | true => simp only; exact λe => e1 (gL (ha.2.symm.trans e))
  | result =>
    intro gi1 hg dL
    refine ⟨dL (.inl rfl), λe => ?_, trivial⟩
    replace e : (if 0 < (M.ds q).load then 0 else 7) = 7 := e
    obtain ⟨a, ha, _⟩ := k5.1
    by_cases hl : 0 < (M.ds q).load
    · rw [if_pos hl] at e; cases e
    · exact e1 (TS.ds a ha k5.2.2 (by omega))
  | sub s f =>
    intro gi1 hg dL
    dsimp only [aj] at gi1 hg dL ⊢
    cases s with
    | hp tk' u ph x =>
      cases f with
      | cM => exact eF.elim
      | aH => exact k5.elim
      | fin => exact k5.elim
      | b8 =>
        obtain ⟨s1, s2, s3⟩ := eF
        have Xz : yX P V g M tk' u ph x := k5.2.2.2.2.2
        have qJ : bF P M (.hp tk' u ph x) = ((ax P M tk' u ph x).1, (ax P M tk' u ph x).2.map (.hp tk' u ph)) := rfl
        rw [qJ] at gi1 hg dL ⊢
        have D7 : Dq g M (ax P M tk' u ph x).1 q := Uu gi Xz s3
        cases hx : (ax P M tk' u ph x).2 with
        | none =>
          rw [hx] at gi1 hg dL
          have ha := vj (P := P) (g := g1) (q := q) (o := ⟨tk, v, tries, ref, oi, qK, err, val, .sub (.hp tk' u ph x) .b8⟩)
          show match (Op.cD P ⟨tk, v, tries, ref, oi, qK, err, val, .sub (.hp tk' u ph x) .b8⟩).2 with
            | false => SO g1 (ax P M tk' u ph x).1 q (Op.cD P ⟨tk, v, tries, ref, oi, qK, err, val, .sub (.hp tk' u ph x) .b8⟩).1
            | true => (Op.cD P ⟨tk, v, tries, ref, oi, qK, err, val, .sub (.hp tk' u ph x) .b8⟩).1.err = 7 -> g1.h = g1.m
          cases hb : (Op.cD P ⟨tk, v, tries, ref, oi, qK, err, val, .sub (.hp tk' u ph x) .b8⟩).2 with
          | false => exact ⟨dL D7, λe => e1 (gL (ha.2.symm.trans e)), ha.1⟩
          | true => exact λe => e1 (gL (ha.2.symm.trans e))
        | some x' =>
          rw [hx] at gi1 hg dL
          refine ⟨dL D7, λe => e1 (gL e), s1, s2, ?_⟩
          have hHs := Xz.2.2.2.1
          cases x with
          | jj d first last =>
            obtain ⟨i, k, a, b, _⟩ := hHs
            cases hx
            exact w1 ⟨i, a, b, λhh h0 => tg gi a b hh h0⟩
          | ey d first last w =>
            obtain ⟨i, a, b, c⟩ := s3
            simp only [ax, Option.some.injEq] at hx
            subst hx
            by_cases hh : M.head = first
            · rw [if_pos hh]
              by_cases h0 : w.2 = 0
              · rw [if_pos h0]
                have := gi.ht; have := gi.tm
                exact e1 (c (gi.dup g.h i (by omega) (by omega) (by rw [<- gi.hd, hh, b])) h0)
              · rw [if_neg h0]
                split
                · trivial
                · split <;> trivial
            · rw [if_neg hh]; trivial
          | look =>
            simp only [ax] at hx
            split at hx
            · cases hx; first | trivial | (split <;> trivial)
            · cases hx
          | iw => cases hx; trivial
          | gG last =>
            simp only [ax, Option.some.injEq] at hx
            subst hx
            split
            · split <;> trivial
            · trivial
          | fv last =>
            simp only [ax] at hx
            split at hx
            · cases hx; trivial
            · cases hx
          | kL last d =>
            simp only [ax] at hx
            split at hx
            · cases hx; trivial
            · cases hx; trivial
          | iz d => cases hx; trivial
          | ji d first => cases hx; trivial
          | ff d =>
            simp only [ax] at hx
            split at hx
            · cases hx
            · cases hx; trivial
          | hZ d first =>
            simp only [ax] at hx
            split at hx
            · cases hx; trivial
            · cases hx; trivial
          | eJ first => cases hx; trivial
          | sub f bM =>
            simp only [ax] at hx
            split at hx
            · cases hx; trivial
            · split at hx
              · cases hx
              · cases hx; trivial
    | fn fn =>
      cases fn with
      | tl x =>
        have qJ : bF P M (.fn (.tl x)) = ((aU P M x).1, ((aU P M x).2.map .tl).map .fn) := rfl
        rw [qJ] at gi1 hg dL ⊢
        have Z2 : xC P g M none x := by
          cases f with
          | aH => exact k5.2
          | fin => exact k5.2.2.2.1
          | cM => exact k5.elim
          | b8 => exact k5.elim
        have D7 : Dq g M (aU P M x).1 q := JT gi Z2
        cases hx : (aU P M x).2 with
        | some x' =>
          rw [hx] at gi1 hg dL
          refine ⟨dL D7, λe => e1 (gL e), ?_⟩
          cases f <;> trivial
        | none =>
          rw [hx] at gi1 hg dL
          cases f with
          | aH =>
            have ha := lE (P := P) (g := g1) (q := q) (o := ⟨tk, v, tries, ref, oi, qK, err, val, .sub (.fn (.tl x)) .aH⟩) fx
            exact ⟨dL D7, λe => e1 (gL (ha.2.symm.trans e)), ha.1⟩
          | fin => exact λe => e1 (gL e)
          | cM => exact k5.elim
          | b8 => exact k5.elim
      | hd x =>
        have qJ : bF P M (.fn (.hd x)) = ((aS P M x).1, ((aS P M x).2.map .hd).map .fn) := rfl
        rw [qJ] at gi1 hg dL ⊢
        have D7 : Dq g M (aS P M x).1 q := JU
        cases hx : (aS P M x).2 with
        | some x' =>
          rw [hx] at gi1 hg dL
          refine ⟨dL D7, λe => e1 (gL e), ?_⟩
          cases f <;> trivial
        | none =>
          rw [hx] at gi1 hg dL
          cases f with
          | aH =>
            have ha := lE (P := P) (g := g1) (q := q) (o := ⟨tk, v, tries, ref, oi, qK, err, val, .sub (.fn (.hd x)) .aH⟩) fx
            exact ⟨dL D7, λe => e1 (gL (ha.2.symm.trans e)), ha.1⟩
          | fin => exact λe => e1 (gL e)
          | cM => exact k5.elim
          | b8 => exact k5.elim
end
section
variable {P:cv} {V:Nat->Nat->Nat} {kd:Nat->Nat->Bool} {g:Gh} {s:Qs} {q t:Nat} {nc:Nat->Nat}
theorem wC: ∀ (b a:Nat) (f:Nat->Nat),(∀ i,i<a->f i<b)->(∀ i j,i<a->j<a->f i=f j->i=j)->a<=b
 | b,0,_,_,_=>Nat.zero_le _
 | 0,a+1,f,h,_=>absurd (h 0 (Nat.succ_pos _)) (Nat.not_lt_zero _)
 | b+1,a+1,f,h,inj=>by
  refine Nat.succ_le_succ (wC b a (λi=>if f i=b then f a else f i) (λi hi=> ?_) (λi j hi hj e=> ?_))
  ·show (if f i=b then f a else f i)<b
   have h1:=h i (by omega);have h2:=h a (by omega)
   split
   ·rename_i he
    have:f a≠f i:=λe=>by have:=inj a i (by omega) (by omega) e;omega
    omega
   ·omega
  ·replace e:(if f i=b then f a else f i)=(if f j=b then f a else f j):=e
   have iS:f i≠f a:=λe=>by have:=inj i a (by omega) (by omega) e;omega
   have Qv:f j≠f a:=λe=>by have:=inj j a (by omega) (by omega) e;omega
   split at e<;>split at e
   ·exact inj i j (by omega) (by omega) (by omega)
   ·exact absurd e.symm Qv
   ·exact absurd e iS
   ·exact inj i j (by omega) (by omega) e
def vk (nc:Nat->Nat) (s:Qs):Prop:= ∀ u,s.cur u≠none->s.pos u<nc u
theorem zP (h:vk nc s):vk nc (s.pick P V kd nc t):=by
 intro u hu
 unfold Qs.pick at hu ⊢
 split at hu
 ·rename_i hh
  rw [if_pos hh]
  by_cases e:u=t
  ·subst e
   cases hb:(aj P s.M u (s.aA V kd u)).2.2 with
   | false=>rw [(pe hb).1];exact hh.2
   | true=>rw [(step_end hb).2] at hu;exact absurd rfl hu
  ·rw [(dR u e).2.1] at hu
   rw [(dR u e).1];exact h u hu
 ·rename_i hh
  rw [if_neg hh];exact h u hu
theorem wD (l:List Nat): ∀ s,vk nc s->vk nc (s.run P V kd nc l):=by
 induction l with
 | nil=>exact λs h=>h
 | cons t l ih=>exact λs h=>ih _ (zP h)
theorem JV (l:List Nat): ∀ s:Qs,t ∉ l->(s.run P V kd nc l).pos t=s.pos t∧(s.run P V kd nc l).cur t=s.cur t:=by
 induction l with
 | nil=>exact λs _=>⟨rfl,rfl⟩
 | cons u l ih=>
  intro s h
  have h1:t≠u:=λe=>h (by simp [e])
  have h2:=ih (s.pick P V kd nc u) (λe=>h (by simp [e]))
  have h3:(s.pick P V kd nc u).pos t=s.pos t∧(s.pick P V kd nc u).cur t=s.cur t:=by
   unfold Qs.pick
   split
   ·exact ⟨(dR t h1).1,(dR t h1).2.1⟩
   ·exact ⟨rfl,rfl⟩
  exact ⟨h2.1.trans h3.1,h2.2.trans h3.2⟩
def dZ (m:Nat->Nat) (n:Nat):List Nat:=(List.range n).flatMap λt=>List.replicate (m t) t
theorem JW (hV: ∀ u p,V u p<16777216) (hk:1<=P.k∧P.k<=32) {m:Nat->Nat}: ∀ (n:Nat),n<=P.n->(∀ t,t<n->nc t*(P.att*14+P.n*58+P.k+72)<=m t)-> ∀ (g:Gh) (s:Qs),Inv P V kd g s->
  ∃ g',Inv P V kd g' (s.run P V kd nc (dZ m n))∧(∀ t,t<n->nc t<=(s.run P V kd nc (dZ m n)).pos t)∧ ∀ t,n<=t->(s.run P V kd nc (dZ m n)).pos t=s.pos t∧(s.run P V kd nc (dZ m n)).cur t=s.cur t:=by
 intro n
 induction n with
 | zero=>exact λ_ _ g s hi=>⟨g,hi,λt ht=>absurd ht (Nat.not_lt_zero _),λ_ _=>⟨rfl,rfl⟩⟩
 | succ n ih=>
  intro hn hm g s hi
  obtain ⟨g1,k1,k2,k3⟩:=ih (by omega) (λt ht=>hm t (by omega)) g s hi
  have e:s.run P V kd nc (dZ m (n+1))=(s.run P V kd nc (dZ m n)).run P V kd nc (List.replicate (m n) n):=by
   unfold dZ
   rw [List.range_succ,List.flatMap_append,od]
   simp
  rw [e]
  obtain ⟨g2,q1,q2⟩:=JS (nc:=nc) (t:=n) hV hk (by omega) k1 (m:=m n) (Nat.le_trans (Nat.mul_le_mul_right _ (Nat.sub_le _ _)) (hm n (by omega)))
  refine ⟨g2,q1,λt ht=> ?_,λt ht=> ?_⟩
  ·by_cases h:t=n
   ·subst h;exact q2.done
   ·rw [q2.pos t h];exact k2 t (by omega)
  ·rw [q2.pos t (by omega),q2.cur t (by omega)];exact k3 t (by omega)
structure EQ (P:cv) (q:Nat) (g:Gh) (s:Qs):Prop where
 oth: ∀ u,u<P.n->u≠q->s.cur u=none
 XZ: ∀ p,p<s.pos q->(s.out q p).1=7->g.h=g.m
 so: ∀ o,s.cur q=some o->SO g s.M q o
theorem wE (hi:Inv P V kd g s) {u:Nat} (hu:u<P.n) (h:s.cur u=none):g.A u=none:=by
 have:=hi.th u hu
 rw [h] at this
 exact this.1
theorem Oi (hV: ∀ u p,V u p<16777216) (hk:1<=P.k∧P.k<=32) (hq:q<P.n) (QH: ∀ p,kd q p=true) (hi:Inv P V kd g s) (he:EQ P q g s):
  ∃ g',Inv P V kd g' (s.step P V kd q)∧EQ P q g' (s.step P V kd q):=by
 obtain ⟨g1,k1,k2,k3,k4⟩:=yZ hV hk hi hq
 have ZB:=qu hi hq
 have fx:(s.aA V kd q).take=true:=by rw [ZB.kd];exact QH _
 have nz: ∀ u,u<P.n->u≠q->g.A u=none:=λu hu hn=>wE hi hu (he.oth u hu hn)
 have TS:SO g s.M q (s.aA V kd q):=by
  unfold Qs.aA
  cases hc:s.cur q with
  | some o=>exact he.so o hc
  | none=>
   have hA:=wE hi hq hc
   exact ⟨(λa ha=>by rw [hA] at ha;cases ha),(λe=>by cases e),trivial⟩
 have hm:g1.m=g.m:=by
  have h1:=k2.m
  by_cases h:g1.m=g.m
  ·exact h
  ·exfalso
   obtain ⟨_,n2,_,n4⟩:=k2.new g1.m (by omega) (Nat.le_refl _)
   rcases n4 with n4 | ⟨a,n4,n5,n6⟩
   ·have hNP:fF g1 q (s.pos q):=by
     cases hb:(aj P s.M q (s.aA V kd q)).2.2 with
     | false=>
      rw [hb] at k3
      exact (k3.put (by rw [k3.kd];exact QH _)).2
     | true=>
      rw [hb] at k3
      have hr:=k3.uf
      rw [k3.kd,QH] at hr
      exact hr.1
    rw [n4] at n2
    exact hNP g1.m (by omega) (Nat.le_refl _) (Prod.ext n4 n2)
   ·have hu:=(k1.G1 g1.m (by omega) (Nat.le_refl _)).1
    by_cases bq:(g1.G g1.m).1=q
    ·rw [bq] at n4
     have ha:=sR ZB.st.XT a n4
     rw [n5,fx] at ha;cases ha
    ·rw [nz _ hu bq] at n4;cases n4
 have tS:=Oh hi.gi hq nz ZB fx TS k1 k2 hm
 have e1:g.h=g.m->g1.h=g1.m:=λe=>by
  have:=k2.h;have:=k1.ht;have:=k1.tm;omega
 refine ⟨_,k4,λu hu hn=> ?_,λp hp h7=> ?_,λo ho=> ?_⟩
 ·rw [(dR u hn).2.1];exact he.oth u hu hn
 ·have YR:g1.h=g1.m:=by
   unfold Qs.step at hp h7
   revert hp h7 tS
   generalize aj P s.M q (s.aA V kd q)=r
   obtain ⟨M',o',b⟩:=r
   cases b with
   | false=>exact λ_ hp h7=>e1 (he.XZ p hp h7)
   | true=>
    intro tS hp h7
    replace hp:p<Jb2 s.pos q (s.pos q+1) q:=hp
    replace h7:(Jb2 s.out q (Jb2 (s.out q) (s.pos q) (o'.err,o'.val)) q p).1=7:=h7
    rw [aM] at hp h7
    by_cases P7:p=s.pos q
    ·rw [P7,aM] at h7
     exact tS h7
    ·rw [aJ P7] at h7
     exact e1 (he.XZ p (by omega) h7)
  split<;>exact YR
 ·cases hb:(aj P s.M q (s.aA V kd q)).2.2 with
  | false=>
   rw [(pe hb).2.1] at ho
   rw [hb] at tS
   cases ho
   rw [JQ]
   exact tS
  | true=>rw [(step_end hb).2] at ho;cases ho
theorem Dr (hi:Inv P V kd g s) (hq:q<P.n) (he:EQ P q g s) (hc:s.cur q=none):wz P s.M q (s.aA V kd q)<=P.att*14+P.n*2+P.k+72:=by
 have Ja0: ∀ u,(s.M.ds u).bN=false:=λu=>by
  by_cases hn:u<P.n
  ·refine (hi.gi.ds u hn).quiet (wE hi hn ?_)
   by_cases e:u=q
   ·rw [e];exact hc
   ·exact he.oth u hn e
  ·exact (hi.gi.dsOut u (by omega)).1
 have hn:s.aA V kd q=kV V kd s q:=by unfold Qs.aA;rw [hc];rfl
 rw [hn]
 show 1+(if (s.M.ds (s.look q)).bN=true then 56 else 0)+cZ P s.M q 0+4+P.k<=_
 rw [if_neg (by rw [Ja0];simp)]
 unfold cZ rp
 have Jd2: ∀ d i,Jd2 (cost s.M q) d i<=d+(if i<=q∧q<i+d then 56 else 0):=by
  intro d
  induction d with
  | zero=>exact λi=>Nat.zero_le _
  | succ d ih=>
   intro i
   have h1:=ih (i+1)
   show cost s.M q i+Jd2 (cost s.M q) d (i+1)<=_
   have h2:cost s.M q i=if i=q then 57 else 1:=by
    unfold cost
    rw [Ja0]
    simp
   rw [h2]
   by_cases e:i=q
   ·rw [if_pos e]
    rw [if_neg (by omega)] at h1
    rw [if_pos (by omega)];omega
   ·rw [if_neg e]
    by_cases hh:i+1<=q∧q<i+1+d
    ·rw [if_pos hh] at h1
     rw [if_pos (by omega)];omega
    ·rw [if_neg hh] at h1
     split<;>omega
 have:=Jd2 (P.n-0) 0
 have ud:eC P s.M q 0<=P.n+56:=by
  unfold eC
  split at this<;>omega
 omega
structure Calls' (nc:Nat->Nat) (V:Nat->Nat->Nat) (kd:Nat->Nat->Bool) (q own:Nat):Prop where
 lt: ∀ u p,V u p<16777216
 low: ∀ u p,p<nc u->kd u p=false->V u p<own
 inj: ∀ u p u' p',p<nc u->p'<nc u'->kd u p=false->kd u' p'=false->V u p=V u' p'->u=u'∧p=p'
 take: ∀ p,kd q p=true
 last:nc q=own+1
structure Kept (P:cv) (nc:Nat->Nat) (V:Nat->Nat->Nat) (kd:Nat->Nat->Bool) (own:Nat) (s:Qs):Prop where
 pos: ∀ u,u<P.n->s.pos u=nc u
 cur: ∀ u,u<P.n->s.cur u=none
 get: ∀ u p,u<P.n->p<nc u->kd u p=true->(s.out u p).1=0-> ∃ u' p',u'<P.n∧p'<nc u'∧kd u' p'=false∧(s.out u' p').1=0∧(s.out u p).2=V u' p'
 put: ∀ u p,u<P.n->p<nc u->kd u p=false->(s.out u p).1=0-> ∃ u' p',u'<P.n∧p'<nc u'∧kd u' p'=true∧(s.out u' p').1=0∧(s.out u' p').2=V u p
 one: ∀ u p u' p',u<P.n->u'<P.n->p<nc u->p'<nc u'->kd u p=true->kd u' p'=true->(s.out u p).1=0->(s.out u' p').1=0->(s.out u p).2=(s.out u' p').2->u=u'∧p=p'
theorem Oj {own:Nat} (hi:Inv P V kd g s) (hc:Calls' nc V kd q own) (fj: ∀ u,u<P.n->s.pos u=nc u) (dU: ∀ u,u<P.n->s.cur u=none) (hem:g.h=g.m):Kept P nc V kd own s:=by
 have gi:=hi.gi
 have g1:=gi.ht;have g3:=gi.tm
 have node: ∀ i,1<=i->i<=g.m->(g.G i).1<P.n∧(g.G i).2<nc (g.G i).1∧kd (g.G i).1 (g.G i).2=false∧(s.out (g.G i).1 (g.G i).2).1=0:=by
  intro i h1 h2
  obtain ⟨n1,n2⟩:=gi.G1 i h1 h2
  have AM:=hi.th _ n1
  rw [dU _ n1] at AM
  have dA:(g.G i).2<s.pos (g.G i).1:=by
   by_cases e:(g.G i).2=s.pos (g.G i).1
   ·exact absurd (show g.G i=((g.G i).1,s.pos (g.G i).1) from Prod.ext rfl e) (AM.2.2 i h1 h2)
   ·omega
  have hr:=hi.uf _ _ n1 dA
  cases hk:kd (g.G i).1 (g.G i).2 with
  | true=>rw [hk] at hr;exact absurd rfl (hr.1 i h1 h2)
  | false=>
   rw [hk] at hr
   refine ⟨n1,by rw [<- fj _ n1];exact dA,rfl,?_⟩
   rcases hr.2 with h | h
   ·exact h.1
   ·exact absurd rfl (h.2 i h1 h2)
 have Q4: ∀ i,g.T i≠0->(g.O i).1<P.n∧(g.O i).2<nc (g.O i).1∧kd (g.O i).1 (g.O i).2=true∧(s.out (g.O i).1 (g.O i).2).1=0∧(s.out (g.O i).1 (g.O i).2).2=valOf V g (i+1):=by
  intro i h1
  obtain ⟨n1,n2⟩:=(gi.T2 i h1).yW
  have AM:=hi.th _ n1
  rw [dU _ n1] at AM
  have dA:(g.O i).2<s.pos (g.O i).1:=by
   by_cases e:(g.O i).2=s.pos (g.O i).1
   ·exact absurd (show g.O i=((g.O i).1,s.pos (g.O i).1) from Prod.ext rfl e) (AM.2.1 i h1)
   ·omega
  have hr:=hi.uf _ _ n1 dA
  cases hk:kd (g.O i).1 (g.O i).2 with
  | false=>rw [hk] at hr;exact absurd rfl (hr.1 i h1)
  | true=>
   rw [hk] at hr
   rcases hr.2 with ⟨h,k,k1,k2,k3⟩ | h
   ·have:=gi.Oinj k i k1 h1 k2
    subst this
    exact ⟨n1,by rw [<- fj _ n1];exact dA,rfl,h,k3⟩
   ·exact absurd rfl (h.2 i h1)
 have Lf: ∀ u p,u<P.n->p<nc u->kd u p=true->(s.out u p).1=0-> ∃ i,g.T i≠0∧g.O i=(u,p)∧(s.out u p).2=valOf V g (i+1)∧i+1<=g.m:=by
  intro u p hu hp hk h0
  have hr:=hi.uf u p hu (by rw [fj u hu];exact hp)
  rw [hk] at hr
  rcases hr.2 with ⟨_,i,i1,i2,i3⟩ | h
  ·exact ⟨i,i1,i2,i3,by have:=(gi.T2 i i1).lt;omega⟩
  ·rw [h.1] at h0;cases h0
 refine ⟨fj,dU,λu p hu hp hk h0=> ?_,λu p hu hp hk h0=> ?_,λu p u' p' hu FJ hp Gd hk ru h0 Gb he=> ?_⟩
 ·obtain ⟨i,i1,i2,i3,i4⟩:=Lf u p hu hp hk h0
  obtain ⟨n1,n2,n3,n4⟩:=node (i+1) (by omega) i4
  exact ⟨_,_,n1,n2,n3,n4,i3⟩
 ·have hr:=hi.uf u p hu (by rw [fj u hu];exact hp)
  rw [hk] at hr
  rcases hr.2 with ⟨_,i,i1,i2,i3⟩ | h
  ·have hT:g.T (i-1)≠0:=gi.T1 (i-1) (by omega)
   obtain ⟨n1,n2,n3,n4,n5⟩:=Q4 (i-1) hT
   refine ⟨_,_,n1,n2,n3,n4,?_⟩
   rw [n5,show i-1+1=i by omega]
   unfold valOf
   rw [i3]
  ·rw [h.1] at h0;cases h0
 ·obtain ⟨i,i1,i2,i3,i4⟩:=Lf u p hu hp hk h0
  obtain ⟨j,j1,j2,j3,j4⟩:=Lf u' p' FJ Gd ru Gb
  obtain ⟨n1,n2,n3,n4⟩:=node (i+1) (by omega) i4
  obtain ⟨m1,m2,m3,m4⟩:=node (j+1) (by omega) j4
  have hv:valOf V g (i+1)=valOf V g (j+1):=by rw [<- i3,<- j3,he]
  obtain ⟨e1,e2⟩:=hc.inj _ _ _ _ n2 m2 n3 m3 hv
  have:=gi.Ginj (i+1) (j+1) (by omega) i4 (by omega) j4 (Prod.ext e1 e2)
  have XJ:i=j:=by omega
  subst XJ
  have e:=i2.symm.trans j2
  exact ⟨congrArg Prod.fst e,congrArg Prod.snd e⟩
theorem kept {own:Nat} (hP:2<=P.n∧P.n<=4) (hk:1<=P.k∧P.k<=32) (ha:P.att<=3) (hc:Calls' nc V kd (P.n-1) own) {l:List Nat} (hl: ∀ t∈l,t≠P.n-1) {m:Nat->Nat}
  (hm: ∀ t,t<P.n-1->nc t*(P.att*14+P.n*58+P.k+72)<=m t):
  Kept P nc V kd own (iA.run P V kd nc (l++dZ m (P.n-1)++List.replicate (200*(own+1)) (P.n-1))):=by
 have hV:=hc.lt
 rw [od,od]
 obtain ⟨g0,i0⟩:=Rs (nc:=nc) hV hk l Xg iA (Ui (by omega))
 have c0:vk nc iA:=λu h=>absurd rfl h
 have c1:=wD (P:=P) (V:=V) (kd:=kd) l _ c0
 obtain ⟨a1,a2⟩:=JV (P:=P) (V:=V) (kd:=kd) (nc:=nc) (t:=P.n-1) l iA λh=>hl _ h rfl
 obtain ⟨g1,i1,b1,b2⟩:=JW (nc:=nc) hV hk (m:=m) (P.n-1) (by omega) hm g0 _ i0
 have c2:=wD (P:=P) (V:=V) (kd:=kd) (dZ m (P.n-1)) _ c1
 have ZA:=lD (P:=P) (V:=V) (kd:=kd) (nc:=nc) (dZ m (P.n-1)) _ (lD (P:=P) (V:=V) (kd:=kd) (nc:=nc) l iA λu=>Nat.zero_le _)
 revert i1 b1 b2 c2 ZA
 generalize (iA.run P V kd nc l).run P V kd nc (dZ m (P.n-1))=s1
 intro i1 b1 b2 c2 ZA
 have e2:s1.pos (P.n-1)=0∧s1.cur (P.n-1)=none:=by
  obtain ⟨q1,q2⟩:=b2 (P.n-1) (Nat.le_refl _)
  exact ⟨q1.trans a1,q2.trans a2⟩
 have WN: ∀ u,u<P.n->s1.cur u=none:=λu hu=>by
  by_cases e:u=P.n-1
  ·rw [e];exact e2.2
  ·by_cases h:s1.cur u=none
   ·exact h
   ·have:=c2 u h;have:=b1 u (by omega);omega
 have hq:P.n-1<P.n:=by omega
 have ir:EQ P (P.n-1) g1 s1:=⟨λu hu _=>WN u hu,λp hp=>by rw [e2.1] at hp;exact absurd hp (Nat.not_lt_zero _),λo ho=>by rw [e2.2] at ho;cases ho⟩
 obtain ⟨g2,i2,q2,al⟩:=Ut (nc:=nc) hV hk hq (P.att*14+P.n*2+P.k+72) (EQ P (P.n-1)) (λg s hi _ he=>Oi hV hk hq hc.take hi he) (λg s hi he SM=>Dr hi hq he SM) (200*(own+1)) g1 s1 i1 ir
  (Nat.le_trans (Dp (Dr i1 hq ir e2.2)) (by
   rw [e2.1,hc.last,Nat.mul_comm 200]
   exact Nat.mul_le_mul_left _ (by omega)))
 have c3:=wD (P:=P) (V:=V) (kd:=kd) (List.replicate (200*(own+1)) (P.n-1)) _ c2
 have Ze:=lD (P:=P) (V:=V) (kd:=kd) (nc:=nc) (List.replicate (200*(own+1)) (P.n-1)) _ ZA
 revert i2 q2 al c3 Ze
 generalize s1.run P V kd nc (List.replicate (200*(own+1)) (P.n-1))=s2
 intro i2 q2 al c3 Ze
 have fj: ∀ u,u<P.n->s2.pos u=nc u:=λu hu=>by
  have h1:=Ze u
  by_cases e:u=P.n-1
  ·have:=al.done;rw [e] at h1 ⊢;omega
  ·rw [al.pos u e] at h1 ⊢
   have:=b1 u (by omega);omega
 have dU: ∀ u,u<P.n->s2.cur u=none:=λu hu=>by
  by_cases h:s2.cur u=none
  ·exact h
  ·have:=c3 u h;rw [fj u hu] at this;omega
 refine Oj i2 hc fj dU ?_
 by_cases hex: ∃ p,p<s2.pos (P.n-1)∧(s2.out (P.n-1) p).1=7
 ·obtain ⟨p,p1,p2⟩:=hex
  exact q2.XZ p p1 p2
 ·exfalso
  have gi:=i2.gi
  have g3:=gi.tm
  have hT: ∀ p,p<own+1-> ∃ i,g2.T i≠0∧g2.O i=(P.n-1,p):=λp hp=>by
   have Gd:p<s2.pos (P.n-1):=by rw [fj _ hq,hc.last];exact hp
   have hr:=i2.uf _ p hq Gd
   rw [hc.take] at hr
   rcases hr.2 with ⟨_,i,k1,k2,_⟩ | ⟨h,_⟩
   ·exact ⟨i,k1,k2⟩
   ·exact absurd ⟨p,Gd,h⟩ hex
  have se:own+1<=g2.m:=wC g2.m (own+1) (λp=>if h:p<own+1 then (hT p h).choose else 0) (λp hp=>by
    simp only [dif_pos hp]
    have:=(gi.T2 _ (hT p hp).choose_spec.1).lt.2
    omega) (λi j hi hj e=>by
    simp only [dif_pos hi,dif_pos hj] at e
    have h1:=(hT i hi).choose_spec.2
    have h2:=(hT j hj).choose_spec.2
    rw [e,h2] at h1
    exact (congrArg Prod.snd h1).symm)
  have node: ∀ i,1<=i->i<=g2.m->(g2.G i).2<nc (g2.G i).1∧kd (g2.G i).1 (g2.G i).2=false:=λi h1 h2=>by
   obtain ⟨n1,n2⟩:=gi.G1 i h1 h2
   have AM:=i2.th _ n1
   rw [dU _ n1] at AM
   have dA:(g2.G i).2<s2.pos (g2.G i).1:=by
    by_cases e:(g2.G i).2=s2.pos (g2.G i).1
    ·exact absurd (show g2.G i=((g2.G i).1,s2.pos (g2.G i).1) from Prod.ext rfl e) (AM.2.2 i h1 h2)
    ·omega
   have hr:=i2.uf _ _ n1 dA
   refine ⟨by rw [<- fj _ n1];exact dA,?_⟩
   cases D3:kd (g2.G i).1 (g2.G i).2 with
   | true=>rw [D3] at hr;exact absurd rfl (hr.1 i h1 h2)
   | false=>rfl
  have Ay:g2.m<=own:=wC own g2.m (λi=>valOf V g2 (i+1)) (λi hi=>by
    obtain ⟨n1,n2⟩:=node (i+1) (by omega) (by omega)
    exact hc.low _ _ n1 n2) (λi j hi hj e=>by
    obtain ⟨n1,n2⟩:=node (i+1) (by omega) (by omega)
    obtain ⟨m1,m2⟩:=node (j+1) (by omega) (by omega)
    obtain ⟨e1,e2⟩:=hc.inj _ _ _ _ n1 m1 n2 m2 e
    have:=gi.Ginj (i+1) (j+1) (by omega) (by omega) (by omega) (by omega) (Prod.ext e1 e2)
    omega)
  omega
end
end Qk
end Go.Proofs.YtpkfimijnkkbjaaGreat
namespace Go.Proofs.YtpkfimijnkkbjaaGreat
namespace Ct
open Ev
section
variable {κ:dE}
variable {φ φ':bo} {l:List AV} {D:Nat->Prop} {f:Nat->AV}
def kept (φ:bo):AV->AV
 | .int k n=> .aa k n
 | .aa k n=> .aa k n
 | .au=> .au
 | .cQ v=> .cQ v
 | v=> .cQ (Jb1 φ v)
theorem zQ {v:AV} (h:v.flat=true):(Jb1 φ v).oneCell'=true:=by
 cases v<;>first | rfl | (cases h;done) | skip
 ·rename_i v
  unfold Jb1
  split
  ·assumption
  ·rfl
theorem E6 {v:AV} (h:v.flat=true):Jb1 φ' (kept φ v)=Jb1 φ v:=by
 have h1:=zQ (φ:=φ) h
 have h2: ∀ u:Value,u.oneCell'=true->Jb1 φ' (.cQ u)=u:=λu hu=>by unfold Jb1;exact if_pos hu
 cases v<;>first | rfl | exact h2 _ h1
theorem E7 (v:AV):(kept φ v).aD (λ_=>False):=by
 cases v<;>simp [kept,AV.aD]
theorem E8 (v:AV):(kept φ v).flat=true:=by
 cases v<;>rfl
theorem tp (h: ∀ v∈l,v.flat=true):az φ' (l.map (kept φ))=az φ l:=by
 rw [dq,dq,List.map_map]
 exact List.map_congr_left λv hv=>E6 (h v hv)
theorem JX {α:Type} (l:List α) (k:IntKind) (f:α->Int):aR D (l.map λx=> .aa k (f x)):=by
 rw [cS]
 intro v hv
 obtain ⟨_,_,h⟩:=List.mem_map.1 hv
 subst h;trivial
theorem all_append {m:List AV} (h:aR D l) (h':aR D m):aR D (l++m):=cT.2 ⟨h,h'⟩
theorem jl (h: ∀ u,u<16->(f u).aD D):aR D (cP f):=by
 rw [cS]
 intro v hv
 obtain ⟨u,hu,h1⟩:=List.mem_map.1 hv
 subst h1;exact h u (List.mem_range.1 hu)
theorem E9 {g:Nat->AV} (h: ∀ u,u<16->(f u).aD D) (h': ∀ u,u<16->(g u).aD D):aR D (zA f g):=by
 rw [cS]
 intro v hv
 obtain ⟨u,hu,h1⟩:=List.mem_flatMap.1 hv
 simp only [List.mem_cons,List.not_mem_nil,or_false] at h1
 rcases h1 with rfl | rfl
 ·exact h u (List.mem_range.1 hu)
 ·exact h' u (List.mem_range.1 hu)
end
open Go.IntKind (i64 u64)
theorem wrap64 {x:Int} (h: -9223372036854775808<=x) (h':x<9223372036854775808):i64.wrap x=x:=by
 rw [IntKind.wrap_i64];omega
theorem PG {x:Int} (h:0<=x) (h':x<18446744073709551616):u64.wrap x=x:=by
 rw [IntKind.wrap_u64];omega
theorem pg {l:List AV} {i k:Nat} {v:AV} (h:l[k]?=some v) (e:i=k): ∀ j:Nat,j<1->l[i+j]?=[v][j]?:=λj hj=>by
 have:j=0:=by omega
 subst this;subst e;simpa using h
def Rt (o:Option ak) (o':ak):Prop:= ∃ x,o=some x∧(x=o'∨ ∃ s s' l t q,x= .row s l t q∧o'= .row s' l t q)
theorem Rt.same {o:Option ak} {o':ak} (h:o=some o'):Rt o o':=⟨o',h,.inl rfl⟩
theorem Uv {H:Nat->Option ak} {φ:bo} {l:List (Nat×ak)} {nx:Nat} {oo:List CL} (hH: ∀ b o,H b=some o->b<nx∧o.aD (· < nx)) (h: ∀ p∈l,Rt (H p.1) p.2):
  ∀ b o,St.get ⟨mk l,nx,0,0,True,oo⟩ b=some o->o.aD (· < nx)∧ ∃ o0,H b=some o0∧bW φ φ o0 o:=by
 intro b o hb
 obtain ⟨x,hx,hs⟩:=h _ (kJ hb)
 have h1:=(hH b x hx).2
 rcases hs with rfl | ⟨s,s',l,t,q,rfl,rfl⟩
 ·exact ⟨h1,_,hx,bW.refl _ _⟩
 ·exact ⟨h1,_,hx,rfl,rfl,rfl⟩
theorem ab {α:Type} {p:α->Prop} {a:α} {l:List α} (h:p a) (h': ∀ x∈l,p x): ∀ x∈a::l,p x:=λx hx=>by
 rcases List.mem_cons.1 hx with rfl | hx
 ·exact h
 ·exact h' x hx
theorem aC {α:Type} {p:α->Prop}: ∀ x∈([]:List α),p x:=λx hx=>by cases hx
theorem eW {names:List Nat} {rows:List (Option ak)} {s:St} {L:List (Nat×ak)} (h:names.map s.get=rows) (h1:L.map (·.1)=names) (h2:L.map (λp=>some p.2)=rows): ∀ p∈L,s.get p.1=some p.2:=by
 have e:L.map (s.get∘(·.1))=L.map (λp=>some p.2):=by rw [<- List.map_map,h1,h,h2]
 exact List.map_inj_left.1 e
theorem jR {α:Type} {f:Nat->α} {t:Nat} {v:α} (h:f t=v):bm f t v=f:=by
 funext u;rw [cu];split
 ·rename_i e;rw [e,h]
 ·rfl
section
variable {t w e k m s x:Nat}
end
theorem iE {φ φ':bo} {b b' sz k j len iM:Nat} (h:φ b=φ' b'):Jb1 φ (.aF b sz k j len iM)=Jb1 φ' (.aF b' sz k j len iM):=by
 unfold Jb1
 exact congrArg (λs:np=>Value.slice (some ⟨s.dp,if s.fr=0∧k=iM then j*sz else k*sz,none⟩) len (iM-k+s.fr)) h
theorem cI {φ φ':bo} {b b' sz k j len iM:Nat} (h:φ b=φ' b'):Jb1 φ (.ae b sz k j len iM)=Jb1 φ' (.ae b' sz k j len iM):=by
 unfold Jb1
 exact congrArg (λs:np=>Value.slice (some ⟨s.dp,if s.fr=0∧k=iM then j*sz else k*sz,none⟩) len (iM-k+s.fr)) h
theorem Jc6 {φ φ':bo} {f g:Nat->AV} (h: ∀ u,u<16->Jb1 φ (f u)=Jb1 φ' (g u)):az φ (cP f)=az φ' (cP g):=by
 rw [dq,dq]
 unfold cP
 rw [List.map_map,List.map_map]
 exact List.map_congr_left λu hu=>h u (List.mem_range.1 hu)
theorem uu {α β:Type} {l:List α} {f g:α->List β} (h: ∀ a∈l,f a=g a):l.flatMap f=l.flatMap g:=by
 induction l with
 | nil=>rfl
 | cons a l ih=>rw [List.flatMap_cons,List.flatMap_cons,h a (by simp),ih λb hb=>h b (by simp [hb])]
theorem BP {φ φ':bo} {f g f' g':Nat->AV} (h: ∀ u,u<16->Jb1 φ (f u)=Jb1 φ' (f' u)) (h': ∀ u,u<16->Jb1 φ (g u)=Jb1 φ' (g' u)):az φ (zA f g)=az φ' (zA f' g'):=by
 rw [dq,dq]
 unfold zA
 rw [List.map_flatMap,List.map_flatMap]
 exact uu λu hu=>by
  have hu:=List.mem_range.1 hu
  simp only [List.map_cons,List.map_nil,h u hu,h' u hu]
theorem Du {φ φ':bo} {aA:Int} {inv inv' mk mk':Nat->AV} {s s':Bool} (h2:φ' 2=φ 2) (kN:φ' 10=φ 10) (hi: ∀ u,u<16->Jb1 φ (inv u)=Jb1 φ' (inv' u)) (hm: ∀ u,u<16->Jb1 φ (mk u)=Jb1 φ' (mk' u)):
  bW φ φ' (.row s (WL aA inv mk) 92 none) (.row s' (WL aA inv' mk') 92 none):=by
 refine ⟨?_,rfl,rfl⟩
 unfold WL
 rw [bZ,bZ,bZ,bZ,bZ,bZ,Jc6 hi,Jc6 hm]
 simp only [az,Jb1,h2,kN]
theorem JY {α:Type} {f:α->List AV} (hf: ∀ a,(f a).length=6) {r:Nat} (hr:r<6): ∀ (l:List α) (i:Nat),(l.flatMap f)[6*i+r]?=(l[i]?).bind λa=>(f a)[r]?
 | [],i=>by simp
 | a::l,0=>by
  rw [List.flatMap_cons,List.getElem?_append_left (by rw [hf];omega)]
  simp
 | a::l,i+1=>by
  rw [List.flatMap_cons,List.getElem?_append_right (by rw [hf];omega),hf,show 6*(i+1)+r-6=6*i+r by omega,JY hf hr l i]
  simp
theorem kG:room=140737488355328:=rfl
theorem gy:Go.maxLen=9223372036854775807:=by decide
section
variable {a b:Int} {st:AV} {last:Nat->Int}
end
section
variable {aA:Int} {inv mk:Nat->AV}
end
theorem mB {l:List AV} {i:Nat} {v:AV} (h: ∀ u∈l,u.flat=true) (hv:v.flat=true): ∀ u∈l.set i v,u.flat=true:=λu hu=>by
 rcases List.mem_or_eq_of_mem_set hu with h1 | h1
 ·exact h u h1
 ·rw [h1];exact hv
theorem JZ {l m:List AV} {i k:Nat} (h: ∀ u∈l,u.flat=true) (hm: ∀ u∈m,u.flat=true): ∀ u∈l.take i++m++l.drop k,u.flat=true:=λu hu=>by
 rcases List.mem_append.1 hu with h1 | h1
 ·rcases List.mem_append.1 h1 with h1 | h1
  ·exact h u (List.mem_of_mem_take h1)
  ·exact hm u h1
 ·exact h u (List.mem_of_mem_drop h1)
theorem J0 {l m:List AV} (h: ∀ u∈l,u.flat=true) (hm: ∀ u∈m,u.flat=true): ∀ u∈l++m,u.flat=true:=λu hu=>by
 rcases List.mem_append.1 hu with h1 | h1
 ·exact h u h1
 ·exact hm u h1
theorem Ok {l m:List AV} {o k:Nat} (ho:o+m.length<=l.length) (hk:k<o∨o+m.length<=k):(l.take o++m++l.drop (o+m.length))[k]?=l[k]?:=by
 rcases hk with h | h
 ·rw [List.getElem?_append_left (by simp;omega),List.getElem?_append_left (by simp;omega),List.getElem?_take,if_pos h]
 ·rw [List.getElem?_append_right (by simp;omega),List.getElem?_drop]
  congr 1
  simp only [List.length_append,List.length_take]
  omega
theorem Ol {l m:List AV} {o:Nat} (ho:o+m.length<=l.length):(l.take o++m++l.drop (o+m.length)).length=l.length:=by
 simp only [List.length_append,List.length_take,List.length_drop];omega
end Ct
end Go.Proofs.YtpkfimijnkkbjaaGreat
