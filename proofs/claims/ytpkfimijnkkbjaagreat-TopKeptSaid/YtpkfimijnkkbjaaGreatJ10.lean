/- Steps of an operation on its slow way, and of what is under way within it. -/
import Derived.Test.YtpkfimijnkkbjaaGreatJ09
import Derived.Test.YtpkfimijnkkbjaaGreatJ07
set_option linter.unusedVariables false
namespace Go.Proofs.YtpkfimijnkkbjaaGreat
namespace Qk
section
variable {P:cv} {V:Nat->Nat->Nat} {kd:Nat->Nat->Bool} {pos:Nat->Nat} {g g':Gh} {M M':Mm} {me t:Nat} {o:Op}
theorem mY (gi:GI P V pos g M) (ht:t<P.n) (h:OI P V kd pos g M t o) (hs:(match o.st with
  | .ag | .cO | .b8 | .result=>True
  | _=>False)):Stepped P V kd pos g M t (aj P M t o):=by
 obtain ⟨h1,h2,h3,h4,h5⟩:=h
 unfold aj
 cases eF:o.st<;>rw [eF] at h5 hs<;>simp only<;>(try exact hs.elim)
 ·obtain ⟨a,b,c⟩:=h5
  by_cases hn:o.i+1=P.n
  ·rw [if_pos hn]
   refine .go gi ⟨h1,h2,h3,h4,a.slow _ rfl rfl rfl,?_⟩
   show (M.ds t).ag<=max o.ag (M.ds o.i).ag
   by_cases hi:t=o.i
   ·rw [<- hi];omega
   ·have:=c (by omega);omega
  ·rw [if_neg hn]
   refine .go gi ⟨h1,h2,h3,h4,a.slow _ rfl rfl rfl,by show o.i+1<P.n;omega,λe=> ?_⟩
   show (M.ds t).ag<=max o.ag (M.ds o.i).ag
   replace e:t<o.i+1:=e
   by_cases hi:t=o.i
   ·rw [<- hi];omega
   ·have:=c (by omega);omega
 ·obtain ⟨a,b⟩:=h5
  have hA:g.A t=none:=a.elim (·.A) (·.A)
  have Qn:ez g t (pos t):=a.elim (λa=>h4 a.kd) (·.no)
  have hl:=cO (me:=t) (ph:=o.ag+1) (r:=o.ref) (take:=o.take) gi ht hA (by omega) Qn
   (λe=>a.elim (λa=>⟨a.rF.2,a.put⟩) (λa=>absurd (e.symm.trans a.kd) (by simp))) (λe=>(h3 e).1)
  have he:o.err=0:=a.elim (·.err) (·.err)
  exact ⟨_,hl.1,hl.2,h1,h2,h3,h4,⟨_,aM,rfl,rfl,rfl⟩,he,gi.nP.1,λe=>absurd e (Nat.not_lt_zero _)⟩
 ·obtain ⟨a,b,c,d⟩:=h5
  have eY:(M.ds t).ag=o.ag:=by
   obtain ⟨an,q1,q2,_⟩:=a
   rw [((gi.ds t ht).ph an q1).1,q2]
  by_cases hp:(M.ds o.i).bN=true∧(M.ds o.i).ag<=o.ag
  ·rw [if_pos hp]
   exact .go gi ⟨h1,h2,h3,h4,a,b,c,d,λe=>⟨e,by rw [show o.i=t from e];exact eY⟩,c,Nat.le_refl _,λ_=>rfl,trivial,trivial⟩
  ·rw [if_neg hp]
   refine Stepped.stay gi (u6 gi ht h1 h2 h3 h4 a b c λe=> ?_)
   by_cases hi:t=o.i
   ·cases hq:(M.ds t).bN with
    | false=>rfl
    | true=>exact absurd ⟨by rw [<- hi];exact hq,by rw [<- hi,eY];exact Nat.le_refl _⟩ hp
   ·exact d (by omega)
 ·obtain ⟨a,b,c⟩:=h5
  obtain ⟨an,q1,q2,q3,q4⟩:=a
  have hAN: ∀ o':Op,o'.ag=o.ag->o'.take=o.take->o'.ref=o.ref->AN g t o':=λo' e1 e2 e3=>⟨an,q1,by rw [e1,q2],by rw [e2,q3],by rw [e3,q4]⟩
  rcases (gi.ds t ht).getDone an q1 (q3.trans b) c with ⟨e1,e2⟩ | ⟨i,e1,e2,e3,e4⟩
  ·refine .go gi ⟨h1,h2,h3,h4,b,.inr ⟨hAN _ rfl rfl rfl,c,.inl ⟨?_,e2,λk hk=>by cases hk⟩⟩⟩
   show (if 0<(M.ds t).load then 0 else 7)=7
   rw [e1];rfl
  ·refine .go gi ⟨h1,h2,h3,h4,b,.inr ⟨hAN _ rfl rfl rfl,c,.inr ⟨?_,i,e3,⟨e1,e2,?_⟩,λk hk=>by cases hk;exact e1⟩⟩⟩
   ·show (if 0<(M.ds t).load then 0 else 7)=0
    rw [e4];exact if_pos (Nat.succ_pos _)
   ·show (M.ds t).load-1=_
    rw [e4];rfl
theorem UQ.same (h:UQ P V pos g M t o) (o':Op) (h1:o'.take=o.take) (h2:o'.ref=o.ref) (h3:o'.err=o.err):UQ P V pos g M t o':=h.slow o' h1 h2 h3
theorem HN (gi:GI P V pos g M) (hV: ∀ u p,V u p<16777216) (hk:1<=P.k) (ht:t<P.n) (h:OI P V kd pos g M t o) {s:Sb} {f:Fo} (eF:o.st= .sub s f):Stepped P V kd pos g M t (aj P M t o):=by
 have ZG:=h.st.XT
 obtain ⟨h1,h2,h3,h4,h5⟩:=h
 have bq:t≠P.n:=by omega
 have bf:=sR ZG
 rw [eF] at h5
 have tS:aj P M t o=match bF P M s with
  | (M',some s')=>(M',{ o with st:= .sub s' f },false)
  | (M',none)=>(M',o.gv P f):=by cases o;cases eF;rfl
 rw [tS]
 have bB: ∀ {g':Gh} {M':Mm},dy P pos P.n g M g' M'->(o.take=true->o.ref=0∧fF g' t (pos t))∧(o.take=false->ez g' t (pos t)):=λhg=>by
  refine ⟨λe=>⟨(h3 e).1,(h3 e).2.mono hg bq λa h=>(bf a h).trans e⟩,λe=>(h4 e).mono hg bq ?_⟩
  cases hA:g.A t with
  | none=>exact .inl (quiet gi hA)
  | some a=>exact .inr (by rw [((gi.ds t ht).ph a hA).2.1,bf a hA,e])
 cases s with
 | hp tk u ph s=>
  have qJ:bF P M (.hp tk u ph s)=((ax P M tk u ph s).1,(ax P M tk u ph s).2.map (.hp tk u ph)):=rfl
  rw [qJ]
  cases f with
  | aH=>exact h5.elim
  | fin=>exact h5.elim
  | cM=>
   obtain ⟨a,b,c,d,e⟩:=h5
   obtain ⟨g',k1,k2,k3⟩:=C2 gi hV e
   obtain ⟨k4,k5⟩:=bB (k2 P.n)
   have a':g'.A t=none:=by rw [(k2 P.n).A t bq];exact a
   have b':=b.mono (k2 P.n) bq (.inl (quiet gi a))
   have c':=c.mono (k2 P.n) bq (Q5 a)
   refine ⟨g',?_⟩
   cases hq:(ax P M tk u ph s).2 with
   | some s'=>
    rw [hq] at k3
    exact ⟨k1,k2 t,h1,h2,k4,k5,a',b',c',d,k3⟩
   | none=>exact ⟨k1,k2 t,C3 k1 hk ht h1 h2 k4 k5 a' b' c' d⟩
  | b8=>
   obtain ⟨a,b,c,d,e,e'⟩:=h5
   obtain ⟨g',k1,k2,k3⟩:=C2 gi hV e'
   obtain ⟨k4,k5⟩:=bB (k2 P.n)
   have a':=a.mono (k2 P.n) bq
   have d':t<o.i->((ax P M tk u ph s).1.ds t).bN=false:=λq=>iV (k2 P.n) bq (d q)
   refine ⟨g',?_⟩
   cases hq:(ax P M tk u ph s).2 with
   | some s'=>
    rw [hq] at k3
    exact ⟨k1,k2 t,h1,h2,k4,k5,a',b,c,d',e,k3⟩
   | none=>
    rw [hq] at k3
    refine ⟨k1,k2 t,u6 k1 ht h1 h2 k4 k5 a' b c λq=> ?_⟩
    by_cases hi:t=o.i
    ·obtain ⟨e1,e2⟩:=e hi.symm
     subst e1
     obtain ⟨an,q1,q2,_⟩:=a'
     exact k3 (by rw [((k1.ds u ht).ph an q1).1,q2,e2])
    ·exact d' (by omega)
 | fn fn=>
  cases fn with
  | tl x=>
   have qJ:bF P M (.fn (.tl x))=((aU P M x).1,((aU P M x).2.map .tl).map .fn):=rfl
   rw [qJ]
   cases f with
   | cM=>exact h5.elim
   | b8=>exact h5.elim
   | aH=>
    obtain ⟨a,b⟩:=h5
    obtain ⟨g',k1,k2,k3⟩:=rW gi b
    obtain ⟨k4,k5⟩:=bB (k2 P.n)
    have a':=a.mono gi (k2 P.n) bq
    refine ⟨g',?_⟩
    cases hq:(aU P M x).2 with
    | some s'=>
     rw [hq] at k3
     exact ⟨k1,k2 t,h1,h2,k4,k5,a'.same _ rfl rfl rfl,k3⟩
    | none=>exact ⟨k1,k2 t,iW k1 ht h1 h2 k4 k5 a'⟩
   | fin=>
    obtain ⟨a,b,c,d,i,i1,i2,i3⟩:=h5
    obtain ⟨g',k1,k2,k3⟩:=rW gi d
    obtain ⟨k4,k5⟩:=bB (k2 P.n)
    have b':g'.A t=none:=by rw [(k2 P.n).A t bq];exact b
    have i': ∃ i,1<=i∧i<=g'.m∧g'.G i=(t,pos t):=⟨i,i1,Nat.le_trans i2 (k2 P.n).m,by rw [(k2 P.n).G i i2];exact i3⟩
    refine ⟨g',?_⟩
    cases hq:(aU P M x).2 with
    | some s'=>
     rw [hq] at k3
     exact ⟨k1,k2 t,h1,h2,k4,k5,a,b',c,k3,i'⟩
    | none=>
     refine ⟨k1,k2 t,h1,quiet k1 b',λk hk hO=>absurd hO (k5 a k hk),?_⟩
     show eO V g' t (pos t) o.take o.err o.val
     rw [a]
     exact ⟨k5 a,.inl ⟨c,i'⟩⟩
  | hd x=>
   have qJ:bF P M (.fn (.hd x))=((aS P M x).1,((aS P M x).2.map .hd).map .fn):=rfl
   rw [qJ]
   cases f with
   | cM=>exact h5.elim
   | b8=>exact h5.elim
   | aH=>
    obtain ⟨a,b⟩:=h5
    obtain ⟨g',k1,k2,k3⟩:=oU gi hV b
    obtain ⟨k4,k5⟩:=bB (k2 P.n)
    have a':=a.mono gi (k2 P.n) bq
    refine ⟨g',?_⟩
    cases hq:(aS P M x).2 with
    | some s'=>
     rw [hq] at k3
     exact ⟨k1,k2 t,h1,h2,k4,k5,a'.same _ rfl rfl rfl,k3⟩
    | none=>exact ⟨k1,k2 t,iW k1 ht h1 h2 k4 k5 a'⟩
   | fin=>
    obtain ⟨a,b⟩:=h5
    rcases b with ⟨b,c,d,i,i1,i2⟩ | ⟨b,c,⟨d1,d2,d3⟩ | ⟨d1,i,i1,i2,d3⟩⟩
    ·obtain ⟨g',k1,k2,k3⟩:=oU gi hV d
     obtain ⟨k4,k5⟩:=bB (k2 P.n)
     have b':g'.A t=none:=by rw [(k2 P.n).A t bq];exact b
     have j1:g'.T i=t+33:=by rw [((k2 P.n).T i i2.1).1];exact i1
     have j2:=i2.mono gi (k2 P.n)
     refine ⟨g',?_⟩
     cases hq:(aS P M x).2 with
     | some s'=>
      rw [hq] at k3
      exact ⟨k1,k2 t,h1,h2,k4,k5,a,.inl ⟨b',c,k3,i,j1,j2⟩⟩
     | none=>
      refine ⟨k1,k2 t,h1,quiet k1 b',λk hk hO hT=> ?_,?_⟩
      ·have:=k1.Oinj k i hk j2.1 (by rw [show g'.O k=_ from hO,j2.2.1])
       subst this
       rw [show g'.T k=_ from hT] at j1;omega
      ·show eO V g' t (pos t) o.take o.err o.val
       rw [a]
       exact ⟨(k4 a).2,.inl ⟨c,i,j2⟩⟩
    ·obtain ⟨g',k1,k2,k3⟩:=oU gi hV d3
     obtain ⟨k4,k5⟩:=bB (k2 P.n)
     have b':=b.mono (k2 P.n) bq
     have c':=iV (k2 P.n) bq c
     have d':=d2.mono (k2 P.n) bq (.inl c)
     refine ⟨g',?_⟩
     cases hq:(aS P M x).2 with
     | some s'=>
      rw [hq] at k3
      exact ⟨k1,k2 t,h1,h2,k4,k5,a,.inr ⟨b',c',.inl ⟨d1,d',k3⟩⟩⟩
     | none=>
      refine ⟨k1,k2 t,h1,c',λk hk hO=>absurd hO (d' k hk),?_⟩
      show eO V g' t (pos t) o.take o.err o.val
      rw [a]
      exact ⟨(k4 a).2,.inr ⟨d1,d'⟩⟩
    ·obtain ⟨g',k1,k2,k3⟩:=oU gi hV d3
     obtain ⟨k4,k5⟩:=bB (k2 P.n)
     have b':=b.mono (k2 P.n) bq
     have c':=iV (k2 P.n) bq c
     have j1:g'.T i=t+1:=by rw [((k2 P.n).T i i2.1).1];exact i1
     have j2:=i2.mono gi (k2 P.n)
     refine ⟨g',?_⟩
     cases hq:(aS P M x).2 with
     | some s'=>
      rw [hq] at k3
      exact ⟨k1,k2 t,h1,h2,k4,k5,a,.inr ⟨b',c',.inr ⟨d1,i,j1,j2,k3⟩⟩⟩
     | none=>
      rw [hq] at k3
      refine ⟨k1,k2 t,h1,c',λk hk hO hT=> ?_,?_⟩
      ·have:=k1.Oinj k i hk j2.1 (by rw [show g'.O k=_ from hO,j2.2.1])
       subst this
       exact k3 k rfl
      ·show eO V g' t (pos t) o.take o.err o.val
       rw [a]
       exact ⟨(k4 a).2,.inl ⟨d1,i,j2⟩⟩
theorem MR (gi:GI P V pos g M) (hV: ∀ u p,V u p<16777216) (hk:1<=P.k∧P.k<=32) (ht:t<P.n) (h:OI P V kd pos g M t o):Stepped P V kd pos g M t (aj P M t o):=by
 cases eF:o.st with
 | check=>exact jO gi hk ht h (by rw [eF];trivial)
 | mark=>exact jO gi hk ht h (by rw [eF];trivial)
 | ia mk=>exact jO gi hk ht h (by rw [eF];trivial)
 | value=>exact jO gi hk ht h (by rw [eF];trivial)
 | next=>exact jO gi hk ht h (by rw [eF];trivial)
 | ib=>exact jO gi hk ht h (by rw [eF];trivial)
 | tail=>exact gw gi ht h (by rw [eF];trivial)
 | behind last=>exact gw gi ht h (by rw [eF];trivial)
 | put last=>exact gw gi ht h (by rw [eF];trivial)
 | head=>exact gw gi ht h (by rw [eF];trivial)
 | dX first=>exact gw gi ht h (by rw [eF];trivial)
 | first first last=>exact gw gi ht h (by rw [eF];trivial)
 | Jb6 first last w=>exact gw gi ht h (by rw [eF];trivial)
 | read first x=>exact gw gi ht h (by rw [eF];trivial)
 | take first y=>exact gw gi ht h (by rw [eF];trivial)
 | ag=>exact mY gi ht h (by rw [eF];trivial)
 | cO=>exact mY gi ht h (by rw [eF];trivial)
 | b8=>exact mY gi ht h (by rw [eF];trivial)
 | result=>exact mY gi ht h (by rw [eF];trivial)
 | sub s f=>exact HN gi hV hk.1 ht h eF
end
section
structure Qs where
 M:Mm
 pos:Nat->Nat
 cur:Nat->Option Op
 look:Nat->Nat
 out:Nat->Nat->Nat×Nat
section
variable (P:cv) (V:Nat->Nat->Nat) (kd:Nat->Nat->Bool)
def kV (s:Qs) (t:Nat):Op:={ take:=kd t (s.pos t),v:=V t (s.pos t),tries:=0,ref:=0,i:=s.look t,ag:=0,err:=0,val:=0,st:= .check }
def Qs.aA (s:Qs) (t:Nat):Op:=(s.cur t).getD (kV V kd s t)
def Qs.look' (s:Qs) (t:Nat):Nat->Nat:=if (s.cur t).isSome then s.look else Jb2 s.look t ((s.look t+1)%P.n)
def Qs.step (s:Qs) (t:Nat):Qs:=
 match aj P s.M t (s.aA V kd t) with
 | (M',o',false)=>{ s with M:=M',cur:=Jb2 s.cur t (some o'),look:=s.look' P t }
 | (M',o',true)=>{ M:=M',pos:=Jb2 s.pos t (s.pos t+1),cur:=Jb2 s.cur t none,look:=s.look' P t,out:=Jb2 s.out t (Jb2 (s.out t) (s.pos t) (o'.err,o'.val)) }
def iA:Qs:={ M:={ head:=1,tail:=1,ds:=λ_=>⟨false,false,0,0⟩,nx:=λ_=>(0,0),tk:=λ_=>(0,0),vl:=λ_=>(0,0),mr:=λp=>if p=1 then 1 else 0 },pos:=λ_=>0,cur:=λ_=>none,look:=λ_=>0,out:=λ_ _=>(0,0) }
def Xg:Gh:={ L:=λ_=>1,m:=0,h:=0,t:=0,T:=λ_=>0,O:=λ_=>(0,0),G:=λ_=>(0,0),A:=λ_=>none }
def MS (pos:Nat->Nat) (g:Gh) (M:Mm) (t:Nat):Option Op->Prop
 | none=>g.A t=none∧ez g t (pos t)∧fF g t (pos t)
 | some o=>OI P V kd pos g M t o
structure Inv (g:Gh) (s:Qs):Prop where
 gi:GI P V s.pos g s.M
 th: ∀ t,t<P.n->MS P V kd s.pos g s.M t (s.cur t)
 uf: ∀ t p,t<P.n->p<s.pos t->eO V g t p (kd t p) (s.out t p).1 (s.out t p).2
 look: ∀ t,t<P.n->s.look t<P.n
end
variable {P:cv} {V:Nat->Nat->Nat} {kd:Nat->Nat->Bool} {pos:Nat->Nat} {g g':Gh} {M M':Mm} {me t:Nat} {s:Qs}
theorem Ui (hn:1<=P.n∧P.n<=16):Inv P V kd Xg (iA):=by
 refine ⟨⟨hn,Nat.le_refl _,⟨Nat.le_refl _,Nat.zero_le _⟩,λi j hi hj _=> ?_,rfl,rfl,λi _=>⟨⟨Nat.le_refl _,?_⟩,by show (1:Nat)≠0;omega⟩,λi h1 h2=> ?_,λi _=> ?_,(λi _ _=>by show (if aO 1=1 then 1 else 0)=2*bH 1+1;rfl),λi hi=>⟨(by show bH 1<=0;exact Nat.le_refl 0),λ_=> ?_⟩,(λi _ _=>by show (0:Nat)=bH 1;rfl),λi hi=>⟨(by show bH 1<=0;exact Nat.le_refl 0),λ_=>rfl⟩,(λi _ _=>by show (0:Nat)=bH 1;rfl),λi h1 h2=> ?_,λi h=> ?_,λi h=> ?_,λi j h _ _=> ?_,λi h1 h2=> ?_,λi j h1 h2 _ _ _=> ?_,λu hu=> ?_,λu hu=>⟨rfl,rfl⟩⟩,λt ht=>⟨rfl,λi hi=>absurd rfl hi,λi h1 h2=> ?_⟩,λt p ht hp=> ?_,λt ht=>hn.1⟩
 ·have h1:i<=0:=hi
  have h2:j<=0:=hj
  omega
 ·show aO 1<=_;have:aO 1=1:=rfl;omega
 ·have h:i<=0:=h2;omega
 ·show 2*bH 1<=_;have:bH 1=0:=rfl;omega
 ·show (0:Nat)=Gh.ef Xg i
  unfold Gh.ef
  rw [if_neg (by show ¬ i<0;omega)]
 ·have h3:0<i:=h1;have h4:i<=0:=h2;omega
 ·have h:i<0:=h;omega
 ·exact absurd rfl h
 ·exact absurd rfl h
 ·have h:i<=0:=h2;omega
 ·have h:i<=0:=h2;omega
 ·exact ⟨λ_=>rfl,(λa h=>by cases h),(λa h=>by cases h),(λa h=>by cases h),(λa h=>by cases h),(λa h=>by cases h),(λa h=>by cases h)⟩
 ·have h:i<=0:=h2;omega
 ·have h:p<0:=hp;omega
theorem eO.mono (gi:GI P V pos g M) (hg:dy P pos me g M g' M') {p:Nat} (hp:p<pos t) {take:Bool} {err val:Nat} (h:eO V g t p take err val):eO V g' t p take err val:=by
 have g3:=gi.tm
 have hT:ez g t p->ez g' t p:=λh i hi hO=>by
  by_cases h0:g.T i=0
  ·have:=(hg.T' i h0 hi).2.1
   rw [hO] at this
   have:p=pos t:=this
   omega
  ·exact h i h0 (by rw [<- (hg.T i h0).2];exact hO)
 have hP:fF g t p->fF g' t p:=λh i h1 h2 hG=>by
  by_cases hm:i<=g.m
  ·exact h i h1 hm (by rw [<- hg.G i hm];exact hG)
  ·have:=(hg.new i (by omega) h2).2.1
   rw [hG] at this
   have:p=pos t:=this
   omega
 cases take with
 | true=>
  refine ⟨hP h.1,?_⟩
  rcases h.2 with ⟨e,i,i1,i2,i3⟩ | ⟨e1,e2⟩
  ·have:=(gi.T2 i i1).lt
   obtain ⟨q1,q2⟩:=hg.T i i1
   exact .inl ⟨e,i,by rw [q1];exact i1,by rw [q2];exact i2,by rw [sP hg (by omega)];exact i3⟩
  ·exact .inr ⟨e1,hT e2⟩
 | false=>
  refine ⟨hT h.1,?_⟩
  rcases h.2 with ⟨e,i,i1,i2,i3⟩ | ⟨e1,e2⟩
  ·exact .inl ⟨e,i,i1,Nat.le_trans i2 hg.m,by rw [hg.G i i2];exact i3⟩
  ·exact .inr ⟨e1,hP e2⟩
theorem MS.mono (gi:GI P V pos g M) (hg:dy P pos me g M g' M') (bq:t≠me) (ht:t<P.n) {o:Option Op} (h:MS P V kd pos g M t o):MS P V kd pos g' M' t o:=by
 cases o with
 | none=>exact ⟨by rw [hg.A t bq];exact h.1,h.2.1.mono hg bq (.inl (quiet gi h.1)),h.2.2.mono hg bq (Q5 h.1)⟩
 | some o=>exact OI.mono gi hg bq ht h
theorem OI.Q6 {pos':Nat->Nat} (hp:pos' t=pos t) {o:Op} (h:OI P V kd pos g M t o):OI P V kd pos' g M t o:=by
 obtain ⟨h1,h2,h3,h4,h5⟩:=h
 refine ⟨by rw [hp];exact h1,by rw [hp];exact h2,by rw [hp];exact h3,by rw [hp];exact h4,?_⟩
 have hP: ∀ {o:Op},UP P V pos g M t o->UP P V pos' g M t o:=λh=>⟨h.A,by rw [hp];exact h.rF,h.err,by rw [hp];exact h.put,h.kd⟩
 have hT: ∀ {o:Op},UT pos g t o->UT pos' g t o:=λh=>⟨h.A,by rw [hp];exact h.no,h.err,h.kd⟩
 have hC: ∀ {o:Op},UC P pos g t o->UC P pos' g t o:=λh=>⟨h.A,h.own,h.err,by rw [hp];exact h.put,h.kd,h.out⟩
 have hQ: ∀ {o:Op},UQ P V pos g M t o->UQ P V pos' g M t o:=λh=>h.imp hP hT
 have hK: ∀ {i v:Nat},Bq V pos g t i v->Bq V pos' g t i v:=λh=>⟨h.1,by rw [hp];exact h.2.1,h.2.2⟩
 revert h5
 generalize o.st=st
 intro h5
 cases st with
 | check=>exact ⟨h5.1,by rw [hp];exact h5.2.1,by rw [hp];exact h5.2.2.1,h5.2.2.2⟩
 | mark=>exact ⟨h5.1,by rw [hp];exact h5.2.1,h5.2.2⟩
 | ia mk=>exact ⟨hC h5.1,h5.2⟩
 | value=>exact ⟨hC h5.1,h5.2⟩
 | next=>exact ⟨hC h5.1,by rw [hp];exact h5.2⟩
 | ib=>exact ⟨hC h5.1,by rw [hp];exact h5.2⟩
 | tail=>exact hP h5
 | behind last=>exact ⟨hP h5.1,h5.2⟩
 | put last=>exact ⟨hP h5.1,h5.2⟩
 | head=>exact hT h5
 | dX first=>exact ⟨hT h5.1,h5.2⟩
 | first first last=>exact ⟨hT h5.1,h5.2⟩
 | Jb6 first last w=>exact ⟨hT h5.1,h5.2⟩
 | read first x=>exact ⟨hT h5.1,h5.2⟩
 | take first y=>exact ⟨hT h5.1,h5.2⟩
 | ag=>exact ⟨hQ h5.1,h5.2⟩
 | cO=>exact ⟨hQ h5.1,h5.2⟩
 | b8=>exact h5
 | result=>exact h5
 | sub s f=>
  cases s with
  | hp tk u ph s=>
   cases f with
   | cM=>exact ⟨h5.1,by rw [hp];exact h5.2.1,by rw [hp];exact h5.2.2.1,h5.2.2.2⟩
   | b8=>exact h5
   | aH=>exact h5.elim
   | fin=>exact h5.elim
  | fn fn=>
   cases fn with
   | tl x=>
    cases f with
    | aH=>exact ⟨hQ h5.1,h5.2⟩
    | fin=>
     obtain ⟨a,b,c,d,e⟩:=h5
     exact ⟨a,b,c,d,by rw [hp];exact e⟩
    | cM=>exact h5.elim
    | b8=>exact h5.elim
   | hd x=>
    cases f with
    | aH=>exact ⟨hQ h5.1,h5.2⟩
    | fin=>
     obtain ⟨a,b⟩:=h5
     refine ⟨a,?_⟩
     rcases b with ⟨b,c,d,i,i1,i2⟩ | ⟨b,c,⟨d1,d2,d3⟩ | ⟨d1,i,i1,i2,d3⟩⟩
     ·exact .inl ⟨b,c,d,i,i1,hK i2⟩
     ·exact .inr ⟨b,c,.inl ⟨d1,by rw [hp];exact d2,d3⟩⟩
     ·exact .inr ⟨b,c,.inr ⟨d1,i,i1,hK i2,d3⟩⟩
    | cM=>exact h5.elim
    | b8=>exact h5.elim
theorem MS.Q6 {pos':Nat->Nat} (hp:pos' t=pos t) {o:Option Op} (h:MS P V kd pos g M t o):MS P V kd pos' g M t o:=by
 cases o with
 | none=>exact ⟨h.1,by rw [hp];exact h.2.1,by rw [hp];exact h.2.2⟩
 | some o=>exact OI.Q6 hp h
theorem qu (hi:Inv P V kd g s) (ht:t<P.n):OI P V kd s.pos g s.M t (s.aA V kd t):=by
 have h:=hi.th t ht
 unfold Qs.aA
 cases hc:s.cur t with
 | some o=>rw [hc] at h;exact h
 | none=>
  rw [hc] at h
  exact ⟨rfl,λ_=>rfl,λ_=>⟨rfl,h.2.2⟩,λ_=>h.2.1,h.1,h.2.1,h.2.2,hi.look t ht,rfl⟩
theorem C4 (hi:Inv P V kd g s) (ht:t<P.n): ∀ u,u<P.n->s.look' P t u<P.n:=λu hu=>by
 unfold Qs.look'
 split
 ·exact hi.look u hu
 ·rw [wb]
  split
  ·exact Nat.mod_lt _ (by omega)
  ·exact hi.look u hu
theorem yZ (hV: ∀ u p,V u p<16777216) (hk:1<=P.k∧P.k<=32) (hi:Inv P V kd g s) (ht:t<P.n): ∃ g1,GI P V s.pos g1 (aj P s.M t (s.aA V kd t)).1∧dy P s.pos t g s.M g1 (aj P s.M t (s.aA V kd t)).1∧
  (match (aj P s.M t (s.aA V kd t)).2.2 with
  | false=>OI P V kd s.pos g1 (aj P s.M t (s.aA V kd t)).1 t (aj P s.M t (s.aA V kd t)).2.1
  | true=>EI V kd s.pos g1 (aj P s.M t (s.aA V kd t)).1 t (aj P s.M t (s.aA V kd t)).2.1)∧
  Inv P V kd (if (aj P s.M t (s.aA V kd t)).2.2=true then { g1 with A:=Jb2 g1.A t none } else g1) (s.step P V kd t):=by
 obtain ⟨g',k1,k2,k3⟩:=MR hi.gi hV hk ht (qu hi ht)
 refine ⟨g',k1,k2,k3,?_⟩
 unfold Qs.step
 revert k1 k2 k3
 generalize aj P s.M t (s.aA V kd t)=r
 obtain ⟨M',o',b⟩:=r
 intro k1 k2 k3
 cases b with
 | false=>
  refine ⟨k1,λu hu=> ?_,λu p hu hp=>(hi.uf u p hu hp).mono hi.gi k2 hp,C4 hi ht⟩
  show MS P V kd s.pos g' M' u (Jb2 s.cur t (some o') u)
  by_cases h:u=t
  ·subst h;rw [aM];exact k3
  ·rw [aJ h];exact (hi.th u hu).mono hi.gi k2 h hu
 | true=>
  replace k3:EI V kd s.pos g' M' t o':=k3
  obtain ⟨e1,e2⟩:=Q3 (me:=t) k1 k3.bN k3.Q4
  have FM:Jb2 s.pos t (s.pos t+1) t=s.pos t+1:=aM
  refine ⟨e1,λu hu=> ?_,λu p hu hp=> ?_,C4 hi ht⟩
  ·show MS P V kd (Jb2 s.pos t (s.pos t+1)) { g' with A:=Jb2 g'.A t none } M' u (Jb2 s.cur t none u)
   by_cases h:u=t
   ·subst h
    rw [aM]
    refine ⟨aM,λi hi hO=> ?_,λi h1 h2 hG=> ?_⟩
    ·have h1:=(k1.T2 i hi).yW.2
     have h2:g'.O i=(u,Jb2 s.pos u (s.pos u+1) u):=hO
     rw [FM] at h2
     rw [h2] at h1
     have h3:s.pos u+1<=s.pos u:=h1
     omega
    ·have q1:=(k1.G1 i h1 h2).2
     have q2:g'.G i=(u,Jb2 s.pos u (s.pos u+1) u):=hG
     rw [FM] at q2
     rw [q2] at q1
     have h3:s.pos u+1<=s.pos u:=q1
     omega
   ·rw [aJ h]
    exact ((((hi.th u hu).mono hi.gi k2 h hu).mono k1 e2 h hu)).Q6 (aJ h)
  ·show eO V g' u p (kd u p) (Jb2 s.out t (Jb2 (s.out t) (s.pos t) (o'.err,o'.val)) u p).1 (Jb2 s.out t (Jb2 (s.out t) (s.pos t) (o'.err,o'.val)) u p).2
   replace hp:p<Jb2 s.pos t (s.pos t+1) u:=hp
   by_cases h:u=t
   ·subst h
    rw [FM] at hp
    rw [aM]
    by_cases P7:p=s.pos u
    ·subst P7
     rw [aM,<- k3.kd];exact k3.uf
    ·rw [aJ P7]
     exact (hi.uf u p hu (by omega)).mono hi.gi k2 (by omega)
   ·rw [aJ h] at hp ⊢
    exact (hi.uf u p hu hp).mono hi.gi k2 hp
theorem C5 (hV: ∀ u p,V u p<16777216) (hk:1<=P.k∧P.k<=32) (hi:Inv P V kd g s) (ht:t<P.n): ∃ g',Inv P V kd g' (s.step P V kd t)∧g.m<=g'.m∧g.h<=g'.h:=by
 obtain ⟨g1,_,k2,_,k4⟩:=yZ hV hk hi ht
 refine ⟨_,k4,?_⟩
 split
 ·exact ⟨k2.m,k2.h⟩
 ·exact ⟨k2.m,k2.h⟩
end
open Ev
def Pt (b:Bool):Nat:=if b then 1 else 0
def cd (d:Ds):Nat:=Pt d.bN+2*Pt d.take+4*d.load+4294967296*d.ag
def st (x:Nat×Nat):Nat:=x.2+1073741824*x.1
def vt (x:Nat×Nat):Nat:=x.2+4294967296*x.1
def wd (P:cv) (M:Mm) (a:Nat):Nat:=
 if a=0 then M.head else if a=1 then M.tail else if a<2+P.n then cd (M.ds (a-2))
 else if (a-2-P.n)%4=0 then st (M.nx ((a-2-P.n)/4+1)) else if (a-2-P.n)%4=1 then st (M.tk ((a-2-P.n)/4+1))
 else if (a-2-P.n)%4=2 then vt (M.vl ((a-2-P.n)/4+1)) else M.mr ((a-2-P.n)/4+1)
def sz (P:cv):Nat:=2+P.n+4*(1+P.n*P.k)
def aG (P:cv) (M:Mm):List AV:=(List.range (sz P)).map λa=> .aa .u64 (wd P M a:Nat)
theorem sT (P:cv) (M:Mm):(aG P M).length=sz P:=by simp [aG]
theorem cr {P:cv} {M:Mm} {a:Nat} (h:a<sz P):(aG P M)[a]?=some (.aa .u64 (wd P M a:Nat)):=by
 unfold aG
 rw [List.getElem?_map,List.getElem?_range h];rfl
theorem n7 {P:cv} {M M':Mm} {a:Nat} {v:Int} (ha:a<sz P) (hv:v=(wd P M' a:Nat)) (h: ∀ b,b<sz P->b≠a->wd P M' b=wd P M b):(aG P M).set a (.aa .u64 v)=aG P M':=by
 refine List.ext_getElem? λk=> ?_
 rw [List.getElem?_set]
 by_cases hk:k<sz P
 ·rw [cr hk,cr hk,sT]
  by_cases e:a=k
  ·subst e;rw [if_pos rfl,if_pos ha,hv]
  ·rw [if_neg e,h k hk (λe'=>e e'.symm)]
 ·rw [List.getElem?_eq_none (by rw [sT];omega),List.getElem?_eq_none (by rw [sT];omega),if_neg (by omega)]
theorem rX {P:cv} {M:Mm}:wd P M 0=M.head:=if_pos rfl
theorem mZ {P:cv} {M:Mm}:wd P M 1=M.tail:=rfl
theorem gA {P:cv} {M:Mm} {u:Nat} (h:u<P.n):wd P M (2+u)=cd (M.ds u):=by
 unfold wd
 rw [if_neg (by omega),if_neg (by omega),if_pos (by omega),show 2+u-2=u by omega]
def fa (P:cv) (p f:Nat):Nat:=2+P.n+4*(p-1)+f
theorem ek {P:cv} {M:Mm} {p f:Nat} (hp:1<=p) (hf:f<4):wd P M (fa P p f)=if f=0 then st (M.nx p) else if f=1 then st (M.tk p) else if f=2 then vt (M.vl p) else M.mr p:=by
 unfold wd fa
 rw [if_neg (by omega),if_neg (by omega),if_neg (by omega)]
 have e1:(2+P.n+4*(p-1)+f-2-P.n)%4=f:=by omega
 have e2:(2+P.n+4*(p-1)+f-2-P.n)/4+1=p:=by omega
 rw [e1,e2]
theorem fH {P:cv} {p f:Nat} (h1:1<=p) (h2:p<=1+P.n*P.k) (hf:f<4):fa P p f<sz P:=by unfold fa sz;omega
theorem jX {P:cv} (a:Nat):a=0∨a=1∨(∃ u,u<P.n∧a=2+u)∨ ∃ p f,1<=p∧f<4∧a=fa P p f:=by
 by_cases h0:a=0
 ·exact .inl h0
 by_cases h1:a=1
 ·exact .inr (.inl h1)
 by_cases h2:a<2+P.n
 ·exact .inr (.inr (.inl ⟨a-2,by omega,by omega⟩))
 ·exact .inr (.inr (.inr ⟨(a-2-P.n)/4+1,(a-2-P.n)%4,by omega,by omega,by unfold fa;omega⟩))
section
variable {P:cv} {M:Mm}
theorem HP {x:Nat}:(aG P M).set 0 (.aa .u64 (x:Nat))=aG P { M with head:=x }:=by
 refine n7 (by unfold sz;omega) rfl λb hb bq=> ?_
 unfold wd
 rw [if_neg bq,if_neg bq]
theorem HQ {x:Nat}:(aG P M).set 1 (.aa .u64 (x:Nat))=aG P { M with tail:=x }:=by
 refine n7 (by unfold sz;omega) rfl λb hb bq=> ?_
 unfold wd
 rw [if_neg bq,if_neg bq]
theorem qv {u:Nat} {d:Ds} {v:Int} (hu:u<P.n) (hv:v=(cd d:Nat)):(aG P M).set (2+u) (.aa .u64 v)=aG P { M with ds:=Jb2 M.ds u d }:=by
 refine n7 (by unfold sz;omega) (by rw [gA hu];show v=((cd (Jb2 M.ds u d u):Nat):Int);rw [aM,hv]) λb hb bq=> ?_
 rcases jX (P:=P) b with rfl | rfl | ⟨w,hw,rfl⟩ | ⟨p,f,hp,hf,rfl⟩
 ·rfl
 ·rfl
 ·rw [gA hw,gA hw]
  show cd (Jb2 M.ds u d w)=_
  rw [aJ (by omega)]
 ·rw [ek hp hf,ek hp hf]
theorem Br {p:Nat} {x:Nat×Nat} {v:Int} (h1:1<=p) (h2:p<=1+P.n*P.k) (hv:v=(st x:Nat)):(aG P M).set (fa P p 0) (.aa .u64 v)=aG P { M with nx:=Jb2 M.nx p x }:=by
 refine n7 (fH h1 h2 (by omega)) (by rw [ek h1 (by omega),if_pos rfl];show v=((st (Jb2 M.nx p x p):Nat):Int);rw [aM,hv]) λb hb bq=> ?_
 rcases jX (P:=P) b with rfl | rfl | ⟨w,hw,rfl⟩ | ⟨p',f,hp,hf,rfl⟩
 ·rfl
 ·rfl
 ·rw [gA hw,gA hw]
 ·rw [ek hp hf,ek hp hf]
  by_cases e:f=0
  ·subst e
   show st (Jb2 M.nx p x p')=st (M.nx p')
   rw [aJ (λe=>bq (by rw [e]))]
  ·rw [if_neg e,if_neg e]
theorem qw {p:Nat} {x:Nat×Nat} {v:Int} (h1:1<=p) (h2:p<=1+P.n*P.k) (hv:v=(st x:Nat)):(aG P M).set (fa P p 1) (.aa .u64 v)=aG P { M with tk:=Jb2 M.tk p x }:=by
 refine n7 (fH h1 h2 (by omega)) (by rw [ek h1 (by omega),if_neg (by omega),if_pos rfl];show v=((st (Jb2 M.tk p x p):Nat):Int);rw [aM,hv]) λb hb bq=> ?_
 rcases jX (P:=P) b with rfl | rfl | ⟨w,hw,rfl⟩ | ⟨p',f,hp,hf,rfl⟩
 ·rfl
 ·rfl
 ·rw [gA hw,gA hw]
 ·rw [ek hp hf,ek hp hf]
  by_cases e:f=1
  ·subst e
   show st (Jb2 M.tk p x p')=st (M.tk p')
   rw [aJ (λe=>bq (by rw [e]))]
  ·rw [if_neg e,if_neg e]
theorem Q7 {p:Nat} {x:Nat×Nat} {v:Int} (h1:1<=p) (h2:p<=1+P.n*P.k) (hv:v=(vt x:Nat)):(aG P M).set (fa P p 2) (.aa .u64 v)=aG P { M with vl:=Jb2 M.vl p x }:=by
 refine n7 (fH h1 h2 (by omega)) (by rw [ek h1 (by omega),if_neg (by omega),if_neg (by omega),if_pos rfl];show v=((vt (Jb2 M.vl p x p):Nat):Int);rw [aM,hv]) λb hb bq=> ?_
 rcases jX (P:=P) b with rfl | rfl | ⟨w,hw,rfl⟩ | ⟨p',f,hp,hf,rfl⟩
 ·rfl
 ·rfl
 ·rw [gA hw,gA hw]
 ·rw [ek hp hf,ek hp hf]
  by_cases e:f=2
  ·subst e
   show vt (Jb2 M.vl p x p')=vt (M.vl p')
   rw [aJ (λe=>bq (by rw [e]))]
  ·simp only [e,if_false]
theorem HR {p x:Nat} {v:Int} (h1:1<=p) (h2:p<=1+P.n*P.k) (hv:v=(x:Nat)):(aG P M).set (fa P p 3) (.aa .u64 v)=aG P { M with mr:=Jb2 M.mr p x }:=by
 refine n7 (fH h1 h2 (by omega)) (by rw [ek h1 (by omega),if_neg (by omega),if_neg (by omega),if_neg (by omega)];show v=((Jb2 M.mr p x p:Nat):Int);rw [aM,hv]) λb hb bq=> ?_
 rcases jX (P:=P) b with rfl | rfl | ⟨w,hw,rfl⟩ | ⟨p',f,hp,hf,rfl⟩
 ·rfl
 ·rfl
 ·rw [gA hw,gA hw]
 ·rw [ek hp hf,ek hp hf]
  by_cases e:f=3
  ·subst e
   show Jb2 M.mr p x p'=M.mr p'
   rw [aJ (λe=>bq (by rw [e]))]
  ·have:f=0∨f=1∨f=2:=by omega
   rcases this with rfl | rfl | rfl<;>rfl
end
structure BI (P:cv) (b:Nat) (M:Mm):Prop where
 head:M.head<1073741824
 tail:M.tail<1073741824
 ds: ∀ u,(M.ds u).load<1073741824∧(M.ds u).ag<=b
 nx: ∀ p,(M.nx p).1<1048576∧(M.nx p).2<1073741824
 tk: ∀ p,(M.tk p).1<1048576∧(M.tk p).2<1073741824
 vl: ∀ p,(M.vl p).1<1048576∧(M.vl p).2<16777216
 mr: ∀ p,M.mr p<=2*b+1
 own: ∀ p,(M.nx p).2=0∨ ∃ u,P.own (M.nx p).2=some u
def BD (d:Ds):Prop:=d.load<1073741824∧d.ag<4294967296
def fg (P:cv):List AV:=[.aa .i64 0,.aa .i64 (P.n:Nat),.aa .i64 (P.k:Nat)]
def fw (P:cv) (j:Nat->Int):Tl->ak
 | .e=> .row false (fg P++[.int .i64 0,.aa .i64 (j 0),.aa .u64 (j 1),.aa .u64 (j 2),.aa .u64 (j 3)]) 340 none
 | .n last=> .row false (fg P++[.int .i64 1,.aa .i64 (j 0),.aa .u64 (last:Nat),.aa .u64 (j 2),.aa .u64 (j 3)]) 340 none
 | .d last x u=> .row false (fg P++[.int .i64 3,.aa .i64 (u:Nat),.aa .u64 (last:Nat),.aa .u64 (x:Nat),.aa .u64 (j 3)]) 340 none
 | .f last x u d=> .row false (fg P++[.int .i64 5,.aa .i64 (u:Nat),.aa .u64 (last:Nat),.aa .u64 (x:Nat),.aa .u64 (cd d:Nat)]) 340 none
 | .s last x=> .row false (fg P++[.int .i64 6,.aa .i64 (j 0),.aa .u64 (last:Nat),.aa .u64 (x:Nat),.aa .u64 (j 3)]) 340 none
def ep (P:cv) (j:Nat->Int):Hd->ak
 | .e=> .row false (fg P++[.int .i64 0,.aa .i64 (j 0),.aa .u64 (j 1),.aa .u64 (j 2),.aa .u64 (j 3),.aa .u64 (j 4)]) 342 none
 | .n first=> .row false (fg P++[.int .i64 1,.aa .i64 (j 0),.aa .u64 (first:Nat),.aa .u64 (j 2),.aa .u64 (j 3),.aa .u64 (j 4)]) 342 none
 | .t first x=> .row false (fg P++[.int .i64 2,.aa .i64 (j 0),.aa .u64 (first:Nat),.aa .u64 (x:Nat),.aa .u64 (j 3),.aa .u64 (j 4)]) 342 none
 | .d first x u=> .row false (fg P++[.int .i64 3,.aa .i64 (u:Nat),.aa .u64 (first:Nat),.aa .u64 (x:Nat),.aa .u64 (j 3),.aa .u64 (j 4)]) 342 none
 | .v first x u d=> .row false (fg P++[.int .i64 4,.aa .i64 (u:Nat),.aa .u64 (first:Nat),.aa .u64 (x:Nat),.aa .u64 (cd d:Nat),.aa .u64 (j 4)]) 342 none
 | .f first x u d y=> .row false (fg P++[.int .i64 5,.aa .i64 (u:Nat),.aa .u64 (first:Nat),.aa .u64 (x:Nat),.aa .u64 (cd d:Nat),.aa .u64 ((y:Nat)+4294967296*(j 5%1048576))]) 342 none
 | .s first x=> .row false (fg P++[.int .i64 6,.aa .i64 (j 0),.aa .u64 (first:Nat),.aa .u64 (x:Nat),.aa .u64 (j 3),.aa .u64 (j 4)]) 342 none
 | .m first=> .row false (fg P++[.int .i64 7,.aa .i64 (j 0),.aa .u64 (first:Nat),.aa .u64 (j 2),.aa .u64 (j 3),.aa .u64 (j 4)]) 342 none
theorem jY {d:Ds} (h:BD d):cd d<18446744073709551616:=by
 unfold cd Pt BD at*
 have:(if d.bN=true then 1 else 0)<=1:=by split<;>omega
 have:(if d.take=true then 1 else 0)<=1:=by split<;>omega
 omega
theorem sU {d:Ds} (h:BD d):(cd d%2==1)=d.bN∧(cd d/2%2==1)=d.take∧cd d/4%1073741824=d.load∧cd d/4294967296=d.ag:=by
 obtain ⟨p,t,l,f⟩:=d
 obtain ⟨h1,h2⟩:=h
 simp only at h1 h2
 unfold cd Pt
 cases p<;>cases t<;>simp<;>omega
theorem Q8 {d d':Ds} (h:BD d) (h':BD d'):cd d=cd d'↔d=d':=by
 refine ⟨λe=> ?_,λe=>by rw [e]⟩
 obtain ⟨a1,a2,a3,a4⟩:=sU h
 obtain ⟨b1,b2,b3,b4⟩:=sU h'
 rw [e] at a1 a2 a3 a4
 cases d;cases d'
 simp only at a1 a2 a3 a4 b1 b2 b3 b4
 simp_all
theorem HT {x:Nat×Nat} (h:x.2<1073741824):st x%1073741824=x.2∧st x/1073741824=x.1:=by unfold st;omega
theorem sV {x:Nat×Nat} (h:x.2<1073741824) (h':x.1<1048576):st x<18446744073709551616:=by unfold st;omega
theorem Q9 {x y:Nat×Nat} (h:x.2<1073741824) (h':y.2<1073741824):st x=st y↔x=y:=by
 refine ⟨λe=> ?_,λe=>by rw [e]⟩
 unfold st at e
 exact Prod.ext (by omega) (by omega)
theorem wA {α:Nat->Int->Int->Int->Int->Int->List AV->Prop} (h: ∀ a b c d e f g,α a b c d e f g) (P:cv) (c:Nat->Int) (M:Mm):α (sz P) (c 0) (c 1) (c 2) (c 3) (c 4) (aG P M):=h ..
section
open Go.IntKind (i64 u64)
open Go.Proofs.Tryz (prog)
variable {D:Nat->Prop} {P:cv} {M:Mm} {t:Tl} {r l b:Nat} {d:Ds}
def wR (aA:Int) (rest:List AV):ak:= .row false (.ptr 2 0:: .aa .i64 aA::rest) 92 none
def mR (P:cv) (c:Nat->Int):ak:=bQ (sz P) (c 0) (c 1) (c 2) (c 3) (c 4)
def jZ (P:cv) (row row':ak) (aA:Int) (rest:List AV) (c c':Nat->Int) (M M':Mm) (v:Bool):Part:=
 { args:=[.ptr 64 0,.ptr 1 0],ins:=[(64,row),(1,wR aA rest),(2,mR P c),(3,Jb5 (aG P M))],v:= .bool v,outs:=[(64,row'),(2,mR P c'),(3,Jb5 (aG P M'))],nx:=96,k:=0 }
structure PB (P:cv):Prop where
 n:1<=P.n∧P.n<=16
 k:1<=P.k∧P.k<=32
theorem gT:(Jb5 (aG P M)).aD D:=by
 show aR D _
 rw [cS]
 intro v hv
 obtain ⟨a,_,rfl⟩:=List.mem_map.1 hv
 trivial
theorem y4 {row row':ak} {aA:Int} {rest:List AV} {c c':Nat->Int} {M':Mm} {v:Bool} (h: ∀ D:Nat->Prop,row'.aD D):
  ∀ D:Nat->Prop,aR D (jZ P row row' aA rest c c' M M' v).args->(∀ x∈(jZ P row row' aA rest c c' M M' v).ins,x.2.aD D)->(∀ i,(jZ P row row' aA rest c c' M M' v).nx<=i->i<(jZ P row row' aA rest c c' M M' v).nx+(jZ P row row' aA rest c c' M M' v).k->D i)->
   (jZ P row row' aA rest c c' M M' v).v.aD D∧ ∀ x∈(jZ P row row' aA rest c c' M M' v).outs,x.2.aD D:=by
 intro D _ hi _
 refine ⟨trivial,λx hx=> ?_⟩
 have h2:=hi (2,mR P c) (by simp [jZ])
 simp only [mR,bQ,ak.aD,aR,AV.aD] at h2
 simp only [jZ,List.mem_cons,List.not_mem_nil,or_false] at hx
 rcases hx with rfl | rfl | rfl
 ·exact h D
 ·exact dK h2.1
 ·exact gT
theorem bS {j:Nat->Int}:(fw P j t).aD D:=by
 cases t<;>simp [fw,fg,ak.aD,aR,AV.aD]
def bw (c:Nat->Int) (i:Nat):Nat->Int:=λk=>if k=i then i64.wrap (c i+1) else c k
def Xh (P:cv) (M:Mm):Tl->Prop
 | .e=>P.okp M.tail
 | .n last=>P.okp last∧last<1073741824
 | .d last x u=>u<P.n∧last<1073741824∧x<1073741824
 | .f last x u d=>u<P.n∧last<1073741824∧x<1073741824∧BD d
 | .s last x=>last<1073741824∧x<1073741824
theorem gH (h:P.okp r):(1:Int)<=(r:Int)%1024∧(r:Int)%1024<=1+(P.n:Int)*(P.k:Int):=by
 obtain ⟨h1,h2⟩:=h
 unfold aO at h1 h2
 have h3:((r%1024:Nat):Int)<=((1+P.n*P.k:Nat):Int):=by omega
 rw [Int.natCast_add,Int.natCast_mul] at h3
 omega
theorem lT {f:Nat} (h:P.okp r) (hf:f<4):(0:Int)<=0+(2+(P.n:Int)+4*((r:Int)%1024-1)+(f:Int))∧0+(2+(P.n:Int)+4*((r:Int)%1024-1)+(f:Int))<(sz P:Int)∧(0+(2+(P.n:Int)+4*((r:Int)%1024-1)+(f:Int))).toNat=fa P (aO r) f:=by
 obtain ⟨h1,h2⟩:=h
 have:=fH h1 h2 hf
 unfold aO at*
 unfold fa at*
 omega
theorem sW {u:Nat} (h:u<P.n):(0:Int)<=0+2+(u:Int)∧0+2+(u:Int)<(sz P:Int)∧(0+2+(u:Int)).toNat=2+u:=by
 unfold sz;omega
theorem Bs {x:Nat×Nat} (h:x.2<1073741824):((st x:Nat):Int)/1073741824=(x.1:Nat)∧((st x:Nat):Int)%1073741824=(x.2:Nat):=by
 obtain ⟨h1,h2⟩:=HT h
 omega
theorem Jd1 (h:BD d):(((cd d:Nat):Int)%2==1)=d.bN∧(((cd d:Nat):Int)/2%2==1)=d.take∧((cd d:Nat):Int)/4%1073741824=(d.load:Nat)∧((cd d:Nat):Int)/4294967296=(d.ag:Nat):=by
 obtain ⟨h1,h2,h3,h4⟩:=sU h
 refine ⟨?_,?_,by omega,by omega⟩
 ·rw [<- h1]
  by_cases hh:cd d%2=1
  ·have h5:((cd d:Nat):Int)%2=1:=by omega
   rw [hh,h5];rfl
  ·have h5:((cd d:Nat):Int)%2=0:=by omega
   have h6:cd d%2=0:=by omega
   rw [h6,h5];rfl
 ·rw [<- h2]
  by_cases hh:cd d/2%2=1
  ·have h5:((cd d:Nat):Int)/2%2=1:=by omega
   rw [hh,h5];rfl
  ·have h5:((cd d:Nat):Int)/2%2=0:=by omega
   have h6:cd d/2%2=0:=by omega
   rw [h6,h5];rfl
theorem Bt (h:BD d):((cd d:Nat):Int)-((cd d:Nat):Int)%2-((cd d:Nat):Int)/4%1073741824*4+(l:Int)*4=(cd (d.fin l):Nat):=by
 obtain ⟨p,t,a,f⟩:=d
 obtain ⟨h1,h2⟩:=h
 simp only at h1 h2
 unfold cd Ds.fin Pt
 cases p<;>cases t<;>simp<;>omega
theorem MT (h:BD d):((cd d:Nat):Int)-((cd d:Nat):Int)/4%1073741824*4+(l:Int)*4=(cd (d.lB l):Nat):=by
 obtain ⟨p,t,a,f⟩:=d
 obtain ⟨h1,h2⟩:=h
 simp only at h1 h2
 unfold cd Ds.lB Pt
 cases p<;>cases t<;>simp<;>omega
theorem wi {d':Ds} (h:BD d) (h':BD d'):(((cd d:Nat):Int)==((cd d':Nat):Int))=decide (d=d'):=by
 by_cases e:d=d'
 ·rw [e];simp
 ·have:cd d≠cd d':=λh2=>e ((Q8 h h').1 h2)
  rw [decide_eq_false e]
  exact beq_eq_false_iff_ne.2 (λh=>this (by omega))
theorem gx {a:Nat}:((a:Int)==(b:Int))=decide (a=b):=by
 by_cases e:a=b
 ·rw [e];simp
 ·rw [decide_eq_false e]
  exact beq_eq_false_iff_ne.2 (λh=>e (by omega))
theorem jy:(r:Int)/1024=(bH r:Nat):=by unfold bH;omega
theorem Jc3 (hb:b<524288) (bi:BI P b M) (u:Nat):BD (M.ds u):=⟨(bi.ds u).1,by have:=(bi.ds u).2;omega⟩
theorem MU (hP:PB P) (hb:b<524288) (bi:BI P b M) (tb:Xh P M t) (j:Nat->Int) (aA:Int) (rest:List AV) (c:Nat->Int):
  ∃ c' row',bP prog 271 (jZ P (fw P j t) row' aA rest c c' M (aU P M t).1 (aU P M t).2.isNone)∧(∀ D:Nat->Prop,row'.aD D)∧ ∀ t',(aU P M t).2=some t'-> ∃ j',row'=fw P j' t':=by
 obtain ⟨n1,n2⟩:=hP.n
 obtain ⟨k1,k2⟩:=hP.k
 have lW: ∃ fn,prog.funcs[271]?=some fn∧fn.body.isSome=true:=⟨_,Tryz.func271,by kernel_rfl⟩
 have nB:1<sz P:=by unfold sz;omega
 have key: ∀ {row':ak} {c':Nat->Int} {M':Mm} {v:Bool},(∀ D:Nat->Prop,row'.aD D)->rh prog bz 271 (jZ P (fw P j t) row' aA rest c c' M M' v)->bP prog 271 (jZ P (fw P j t) row' aA rest c c' M M' v):=
  λhr hw=>cK named mixed dx lW (λ_=>hw) (λ_=>y4 hr)
 cases t with
 | e=>
  have ho:P.okp M.tail:=tb
  have e:aU P M .e=(M,some (.n M.tail)):=by simp only [aU,if_pos ho]
  rw [e]
  have hw:=cr (M:=M) nB
  rw [mZ] at hw
  have ht:=bi.tail
  have hi:=gH ho
  refine ⟨bw c 0,fw P j (.n M.tail),key (λD=>bS) (bs (wA ML P c M aA rest 0 P.n P.k (j 0) (j 1) (j 2) (j 3) M.tail) ?_ rfl rfl [64,1,2,3] rfl rfl rfl),λD=>bS,λt' h=> ?_⟩
  rotate_left
  ·cases h;exact ⟨j,rfl⟩
  ·exact ⟨⟨⟨⟨trivial,by omega,by omega⟩,rfl⟩,by omega,by omega,hw⟩,⟨by omega,by omega,by omega,by omega⟩,⟨by omega,by omega⟩,⟨by omega,by omega⟩,hi.1,hi.2⟩
 | n last=>
  obtain ⟨ho,hl⟩:=tb
  have hi:=gH ho
  have hf:=lT (f:=0) ho (by omega)
  simp only [Int.natCast_zero] at hf
  obtain ⟨f1,f2,f3⟩:=hf
  have hw:(aG P M)[(0+(2+(P.n:Int)+4*((last:Int)%1024-1)+0)).toNat]?=some (.aa .u64 ((st (M.nx (aO last)):Nat):Int)):=by
   rw [f3,cr (fH ho.1 ho.2 (by omega)),ek ho.1 (by omega),if_pos rfl]
  obtain ⟨x1,x2⟩:=bi.nx (aO last)
  have hU:=sV x2 x1
  obtain ⟨s1,s2⟩:=Bs x2
  have hV:rE ((st (M.nx (aO last)):Nat):Int):=⟨by omega,by omega⟩
  have eqv:(((st (M.nx (aO last)):Nat):Int)/1073741824==(last:Int)/1024)=decide ((M.nx (aO last)).1=bH last):=by rw [s1,jy,gx]
  by_cases hv:(M.nx (aO last)).1=bH last
  ·have c1:(!((st (M.nx (aO last)):Nat):Int)/1073741824==(last:Int)/1024)=false:=by rw [eqv,decide_eq_true hv];rfl
   by_cases h0:(M.nx (aO last)).2=0
   ·have e:aU P M (.n last)=(M,none):=by simp only [aU];rw [if_neg (λh=>h.2 h0)]
    rw [e]
    have c2:aq .eql (((st (M.nx (aO last)):Nat):Int)%1073741824) 0=true:=by rw [s2,h0];rfl
    refine ⟨bw c 0,fw P j (.n last),key (λD=>bS) (bs (wA Hb P c M aA rest 0 P.n P.k (j 0) last (j 2) (j 3) (st (M.nx (aO last)):Nat)) ?_ rfl rfl [64,1,2,3] rfl rfl rfl),λD=>bS,λt' h=>by cases h⟩
    exact ⟨⟨⟨⟨⟨⟨⟨⟨⟨⟨trivial,⟨by omega,by omega,by omega,by omega⟩,⟨by omega,by omega⟩,⟨by omega,by omega⟩,hi.1,hi.2⟩,rfl⟩,f1,f2,hw⟩,hV,by omega,by omega⟩,by omega,by omega⟩,⟨by omega,by omega,by omega,by omega⟩,by omega⟩,c1⟩,c1⟩,c2⟩,c1⟩
   ·obtain ⟨u,hu⟩:=(bi.own (aO last)).resolve_left h0
    have e:aU P M (.n last)=(M,some (.d last (M.nx (aO last)).2 u)):=by simp only [aU];rw [if_pos ⟨hv,h0⟩,hu]
    rw [e]
    have c2:aq .eql (((st (M.nx (aO last)):Nat):Int)%1073741824) 0=false:=by
     rw [s2];exact decide_eq_false (by omega)
    have FJ:=hu
    unfold cv.own at FJ
    split at FJ
    ·rename_i hx
     cases FJ
     have o1:(2:Int)<=((st (M.nx (aO last)):Nat):Int)%1073741824%1024∧((st (M.nx (aO last)):Nat):Int)%1073741824%1024<=1+(P.n:Int)*(P.k:Int):=by
      rw [s2]
      obtain ⟨xk,Ap⟩:=hx
      unfold aO at xk Ap
      have h3:(((M.nx (last%1024)).2%1024:Nat):Int)<=((1+P.n*P.k:Nat):Int):=by omega
      rw [Int.natCast_add,Int.natCast_mul] at h3
      unfold aO
      omega
     have o2:(((st (M.nx (aO last)):Nat):Int)%1073741824%1024-2)/(P.k:Int)=(((aO (M.nx (aO last)).2-2)/P.k:Nat):Int):=by
      rw [s2]
      obtain ⟨xk,_⟩:=hx
      unfold aO at xk ⊢
      rw [Int.natCast_ediv]
      congr 1
      omega
     have fI:fw P j (.d last (M.nx (aO last)).2 ((aO (M.nx (aO last)).2-2)/P.k))= .row false [.aa .i64 0,.aa .i64 (P.n:Nat),.aa .i64 (P.k:Nat),.int .i64 3,.aa .i64 ((((st (M.nx (aO last)):Nat):Int)%1073741824%1024-2)/(P.k:Int)),.aa .u64 (last:Nat),.aa .u64 (((st (M.nx (aO last)):Nat):Int)%1073741824),.aa .u64 (j 3)] 340 none:=by
      rw [o2,s2];rfl
     refine ⟨bw c 0,fw P j (.d last (M.nx (aO last)).2 ((aO (M.nx (aO last)).2-2)/P.k)),key (λD=>bS) (bs (wA MM P c M aA rest 0 P.n P.k (j 0) last (j 2) (j 3) (st (M.nx (aO last)):Nat)) ?_ rfl (by rw [fI];rfl) [64,1,2,3] rfl rfl rfl),λD=>bS,λt' h=>by cases h;exact ⟨j,rfl⟩⟩
     exact ⟨⟨⟨⟨⟨⟨⟨⟨⟨⟨trivial,⟨by omega,by omega,by omega,by omega⟩,⟨by omega,by omega⟩,⟨by omega,by omega⟩,hi.1,hi.2⟩,rfl⟩,f1,f2,hw⟩,hV,by omega,by omega⟩,by omega,by omega⟩,⟨by omega,by omega,by omega,by omega⟩,o1.1,o1.2⟩,c1⟩,c1⟩,c2⟩,c1⟩
    ·cases FJ
  ·have c1:(!((st (M.nx (aO last)):Nat):Int)/1073741824==(last:Int)/1024)=true:=by rw [eqv,decide_eq_false hv];rfl
   have e:aU P M (.n last)=(M,none):=by simp only [aU];rw [if_neg (λh=>hv h.1)]
   rw [e]
   rcases bi.own (aO last) with h0 | ⟨u,hu⟩
   ·refine ⟨bw c 0,fw P j (.n last),key (λD=>bS) (bs (wA EP P c M aA rest 0 P.n P.k (j 0) last (j 2) (j 3) (st (M.nx (aO last)):Nat)) ?_ rfl rfl [64,1,2,3] rfl rfl rfl),λD=>bS,λt' h=>by cases h⟩
    exact ⟨⟨⟨⟨⟨⟨⟨⟨⟨trivial,⟨by omega,by omega,by omega,by omega⟩,⟨by omega,by omega⟩,⟨by omega,by omega⟩,hi.1,hi.2⟩,rfl⟩,f1,f2,hw⟩,hV,by omega,by omega⟩,by omega,by omega⟩,⟨by omega,by omega,by omega,by omega⟩,by omega⟩,c1⟩,c1⟩,c1⟩
   ·have o1:(2:Int)<=((st (M.nx (aO last)):Nat):Int)%1073741824%1024∧((st (M.nx (aO last)):Nat):Int)%1073741824%1024<=1+(P.n:Int)*(P.k:Int):=by
     rw [s2]
     unfold cv.own at hu
     split at hu
     ·rename_i hx
      obtain ⟨xk,Ap⟩:=hx
      unfold aO at xk Ap
      have h3:(((M.nx (last%1024)).2%1024:Nat):Int)<=((1+P.n*P.k:Nat):Int):=by omega
      rw [Int.natCast_add,Int.natCast_mul] at h3
      unfold aO
      omega
     ·cases hu
    refine ⟨bw c 0,fw P j (.n last),key (λD=>bS) (bs (wA Hc P c M aA rest 0 P.n P.k (j 0) last (j 2) (j 3) (st (M.nx (aO last)):Nat)) ?_ rfl rfl [64,1,2,3] rfl rfl rfl),λD=>bS,λt' h=>by cases h⟩
    exact ⟨⟨⟨⟨⟨⟨⟨⟨⟨trivial,⟨by omega,by omega,by omega,by omega⟩,⟨by omega,by omega⟩,⟨by omega,by omega⟩,hi.1,hi.2⟩,rfl⟩,f1,f2,hw⟩,hV,by omega,by omega⟩,by omega,by omega⟩,⟨by omega,by omega,by omega,by omega⟩,o1.1,o1.2⟩,c1⟩,c1⟩,c1⟩
 | d last x u=>
  obtain ⟨hu,hl,hx⟩:=tb
  obtain ⟨f1,f2,f3⟩:=sW (P:=P) hu
  have nv:=Jc3 hb bi u
  have dA:=jY nv
  have hw:(aG P M)[(0+2+(u:Int)).toNat]?=some (.aa .u64 ((cd (M.ds u):Nat):Int)):=by
   rw [f3,cr (by unfold sz;omega),gA hu]
  obtain ⟨d1,d2,d3,d4⟩:=Jd1 nv
  have hV:rE ((cd (M.ds u):Nat):Int):=⟨by omega,by omega⟩
  by_cases hp:(M.ds u).bN=true
  ·rw [hp] at d1
   by_cases fx:(M.ds u).take=true
   ·have c1:(!((cd (M.ds u):Nat):Int)/2%2==1)=false:=by rw [d2,fx];rfl
    have e:aU P M (.d last x u)=(M,some (.s last x)):=by simp only [aU];rw [if_neg (λh=>by rw [fx] at h;cases h.2.1)]
    rw [e]
    refine ⟨bw c 0,fw P (λi=>if i=0 then (u:Int) else (cd (M.ds u):Nat)) (.s last x),key (λD=>bS) (bs (wA Hg P c M aA rest 0 P.n P.k u last x (j 3) (cd (M.ds u):Nat)) ?_ rfl rfl [64,1,2,3] rfl rfl rfl),λD=>bS,λt' h=>by cases h;exact ⟨_,rfl⟩⟩
    (repeat' apply And.intro);all_goals first | assumption | exact True.intro | omega | rfl
   ·replace fx:(M.ds u).take=false:=by simpa using fx
    have c1:(!((cd (M.ds u):Nat):Int)/2%2==1)=true:=by rw [d2,fx];rfl
    by_cases F7:(M.ds u).load=x
    ·have c2:aq .eql (((cd (M.ds u):Nat):Int)/4%1073741824) (x:Nat)=true:=by rw [d3,F7];exact decide_eq_true rfl
     have e:aU P M (.d last x u)=(M,some (.f last x u (M.ds u))):=by simp only [aU];rw [if_pos ⟨hp,fx,F7⟩]
     rw [e]
     refine ⟨bw c 0,fw P j (.f last x u (M.ds u)),key (λD=>bS) (bs (wA He P c M aA rest 0 P.n P.k u last x (j 3) (cd (M.ds u):Nat)) ?_ rfl rfl [64,1,2,3] rfl rfl rfl),λD=>bS,λt' h=>by cases h;exact ⟨_,rfl⟩⟩
     (repeat' apply And.intro);all_goals first | assumption | exact True.intro | omega | rfl
    ·have c2:aq .eql (((cd (M.ds u):Nat):Int)/4%1073741824) (x:Nat)=false:=by rw [d3];exact decide_eq_false (by omega)
     have e:aU P M (.d last x u)=(M,some (.s last x)):=by simp only [aU];rw [if_neg (λh=>F7 h.2.2)]
     rw [e]
     refine ⟨bw c 0,fw P (λi=>if i=0 then (u:Int) else (cd (M.ds u):Nat)) (.s last x),key (λD=>bS) (bs (wA Hh P c M aA rest 0 P.n P.k u last x (j 3) (cd (M.ds u):Nat)) ?_ rfl rfl [64,1,2,3] rfl rfl rfl),λD=>bS,λt' h=>by cases h;exact ⟨_,rfl⟩⟩
     (repeat' apply And.intro);all_goals first | assumption | exact True.intro | omega | rfl
  ·replace hp:(M.ds u).bN=false:=by simpa using hp
   rw [hp] at d1
   have e:aU P M (.d last x u)=(M,some (.s last x)):=by simp only [aU];rw [if_neg (λh=>by rw [hp] at h;cases h.1)]
   rw [e]
   refine ⟨bw c 0,fw P (λi=>if i=0 then (u:Int) else (cd (M.ds u):Nat)) (.s last x),key (λD=>bS) (bs (wA Hf P c M aA rest 0 P.n P.k u last x (j 3) (cd (M.ds u):Nat)) ?_ rfl rfl [64,1,2,3] rfl rfl rfl),λD=>bS,λt' h=>by cases h;exact ⟨_,rfl⟩⟩
   (repeat' apply And.intro);all_goals first | assumption | exact True.intro | omega | rfl
 | f last x u d=>
  obtain ⟨hu,hl,hx,hd⟩:=tb
  obtain ⟨f1,f2,f3⟩:=sW (P:=P) hu
  have nv:=Jc3 hb bi u
  have hw:(aG P M)[(0+2+(u:Int)).toNat]?=some (.aa .u64 ((cd (M.ds u):Nat):Int)):=by
   rw [f3,cr (by unfold sz;omega),gA hu]
  have dA:=jY hd
  have ir:=wi nv hd
  by_cases hc:M.ds u=d
  ·have e:aU P M (.f last x u d)=({ M with ds:=Jb2 M.ds u (d.fin x) },some (.s last x)):=by simp only [aU];rw [if_pos hc]
   rw [e]
   rw [decide_eq_true hc] at ir
   have dV:(aG P M).set (0+2+(u:Int)).toNat (.aa .u64 (((cd d:Nat):Int)-((cd d:Nat):Int)%2-((cd d:Nat):Int)/4%1073741824*4+(x:Int)*4))=aG P { M with ds:=Jb2 M.ds u (d.fin x) }:=by
    rw [f3];exact qv hu (Bt hd)
   refine ⟨bw c 2,fw P (λi=>if i=0 then (u:Int) else (cd d:Nat)) (.s last x),key (λD=>bS) (bs (wA Hi P c M aA rest 0 P.n P.k u last x (cd d:Nat) 0) ?_ rfl (by rw [dV];rfl) [64,1,2,3] rfl rfl rfl),λD=>bS,λt' h=>by cases h;exact ⟨_,rfl⟩⟩
   exact ⟨⟨⟨⟨trivial,⟨by omega,by omega⟩,by omega,by omega⟩,⟨by omega,by omega⟩,by omega,by omega⟩,rfl⟩,f1,f2,_,hw,ir⟩
  ·have e:aU P M (.f last x u d)=(M,some (.s last x)):=by simp only [aU];rw [if_neg hc]
   rw [e]
   rw [decide_eq_false hc] at ir
   refine ⟨bw c 2,fw P (λi=>if i=0 then (u:Int) else (cd d:Nat)) (.s last x),key (λD=>bS) (bs (wA Hj P c M aA rest 0 P.n P.k u last x (cd d:Nat) 0) ?_ rfl rfl [64,1,2,3] rfl rfl rfl),λD=>bS,λt' h=>by cases h;exact ⟨_,rfl⟩⟩
   exact ⟨⟨⟨⟨trivial,⟨by omega,by omega⟩,by omega,by omega⟩,⟨by omega,by omega⟩,by omega,by omega⟩,rfl⟩,f1,f2,_,hw,ir⟩
 | s last x=>
  obtain ⟨hl,hx⟩:=tb
  have hw:=cr (M:=M) nB
  rw [mZ] at hw
  have ir:=gx (a:=M.tail) (b:=last)
  by_cases hc:M.tail=last
  ·have e:aU P M (.s last x)=({ M with tail:=x },none):=by simp only [aU];rw [if_pos hc]
   rw [e]
   rw [decide_eq_true hc] at ir
   have dV:(aG P M).set (0+(1:Int)).toNat (.aa .u64 (x:Nat))=aG P { M with tail:=x }:=HQ
   refine ⟨bw c 2,fw P j (.s last x),key (λD=>bS) (bs (wA Hk P c M aA rest 0 P.n P.k (j 0) last x (j 3) 0) ?_ rfl (by rw [dV];rfl) [64,1,2,3] rfl rfl rfl),λD=>bS,λt' h=>by cases h⟩
   exact ⟨⟨⟨trivial,by omega,by omega⟩,rfl⟩,by omega,by omega,_,hw,ir⟩
  ·have e:aU P M (.s last x)=(M,none):=by simp only [aU];rw [if_neg hc]
   rw [e]
   rw [decide_eq_false hc] at ir
   refine ⟨bw c 2,fw P j (.s last x),key (λD=>bS) (bs (wA Hl P c M aA rest 0 P.n P.k (j 0) last x (j 3) 0) ?_ rfl rfl [64,1,2,3] rfl rfl rfl),λD=>bS,λt' h=>by cases h⟩
   exact ⟨⟨⟨trivial,by omega,by omega⟩,rfl⟩,by omega,by omega,_,hw,ir⟩
end
end Qk
end Go.Proofs.YtpkfimijnkkbjaaGreat
