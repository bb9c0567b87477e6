/- The queue's transitions: a node is put behind the last one; an operation ends. -/
import Derived.Test.YtpkfimijnkkbjaaGreatJ08
set_option linter.unusedVariables false
namespace Go.Proofs.YtpkfimijnkkbjaaGreat
namespace Qk
section
variable {P:cv} {V:Nat->Nat->Nat} {pos:Nat->Nat} {g g':Gh} {M M':Mm} {me:Nat}
def Gh.put (g:Gh) (r u p:Nat):Gh:={ g with L:=Jb2 g.L (g.m+1) r,m:=g.m+1,G:=Jb2 g.G (g.m+1) (u,p) }
theorem link (gi:GI P V pos g M) {u i r:Nat} (hu:u<P.n) (hi:i<=g.t) (hc:M.nx (aO (g.L i))=(bH (g.L i),0)) (VZ:u=me∧g.A u=none∨ ∃ a,g.A u=some a∧a.take=false∧a.ref=r)
  (hp:uq P g M u r (V u (pos u))) (D0:fF g u (pos u)):
  i=g.m∧GI P V pos (g.put r u (pos u)) { M with nx:=Jb2 M.nx (aO (g.L i)) (bH (g.L i),r) }∧dy P pos me g M (g.put r u (pos u)) { M with nx:=Jb2 M.nx (aO (g.L i)) (bH (g.L i),r) }:=by
 have g1:=gi.ht;have g3:=gi.tm
 have Ef:i=g.m:=by
  have:=(gi.nx i (by omega)).2 (by rw [hc])
  rw [hc] at this
  unfold Gh.ef at this
  by_cases h:i<g.m
  ·rw [if_pos h] at this
   exact absurd this.symm (gi.okp (i+1) (by omega)).2
  ·omega
 have hr:=CZ hp.own
 have hL: ∀ k,k<=g.m->(g.put r u (pos u)).L k=g.L k:=λk hk=>aJ (by omega)
 have hG: ∀ k,k<=g.m->(g.put r u (pos u)).G k=g.G k:=λk hk=>aJ (by omega)
 have CI:(g.put r u (pos u)).L (g.m+1)=r:=aM
 have Qu:(g.put r u (pos u)).G (g.m+1)=(u,pos u):=aM
 have hm:(g.put r u (pos u)).m=g.m+1:=rfl
 have gM: ∀ k,k<=g.m+1->k<=g.m∨k=g.m+1:=λk hk=>by omega
 have eX: ∀ k,k<=g.m->valOf V (g.put r u (pos u)) k=valOf V g k:=λk hk=>by unfold valOf;rw [hG k hk]
 have D8:aO r≠aO (g.L i):=qs gi hp (by omega) (by omega)
 have Vy:g.T (g.m+1)=0:=by
  by_cases h:g.T (g.m+1)=0
  ·exact h
  ·have:=(gi.T2 _ h).lt;omega
 have Vq: ∀ k,k<g.m->(g.put r u (pos u)).ef k=g.ef k:=λk hk=>by
  unfold Gh.ef
  rw [hm,if_pos (by omega),if_pos hk,hL _ (by omega)]
 refine ⟨Ef,{ nP:=gi.nP,ht:=gi.ht,tm:=⟨by show g.t<=g.m+1;omega,by show g.m+1<=g.t+1;omega⟩,dup:=λk l hk hl he=> ?_,hd:= ?_,tl:= ?_,okp:=λk hk=> ?_,own:=λk h1 hk=> ?_,old:=λk hk=> ?_,mr:=λk PW hk=> ?_,nx:=λk hk=> ?_,nxh:=λk PW hk=> ?_,tk:=λk hk=> ?_,tkh:=λk PW hk=> ?_,vl:=λk PW hk=> ?_,T1:=gi.T1,T2:=λk hk=> ?_,Oinj:=gi.Oinj,G1:=λk h1 hk=> ?_,Ginj:=λk l h1 hk h2 hl he=> ?_,ds:=λv hv=> ?_,dsOut:=gi.dsOut },?_⟩
 ·rcases gM k hk with hk | rfl<;>rcases gM l hl with hl | rfl
  ·rw [hL k hk,hL l hl] at he;exact gi.dup k l hk hl he
  ·rw [hL k hk,CI] at he;exact absurd he (hp.out k hk)
  ·rw [hL l hl,CI] at he;exact absurd he.symm (hp.out l hl)
  ·rfl
 ·show M.head=(g.put r u (pos u)).L g.h
  rw [hL _ (by omega)];exact gi.hd
 ·show M.tail=(g.put r u (pos u)).L g.t
  rw [hL _ (by omega)];exact gi.tl
 ·rcases gM k hk with hk | rfl
  ·rw [hL k hk];exact gi.okp k hk
  ·rw [CI];exact hr
 ·rcases gM k hk with hk | rfl
  ·rw [hL k hk,hG k hk];exact gi.own k h1 hk
  ·rw [CI,Qu];exact hp.own
 ·rcases gM k hk with hk | rfl
  ·rw [hL k hk];exact gi.old k hk
  ·rw [CI];show _<=M.mr _;rw [hp.mr];omega
 ·rcases gM k hk with hk | rfl
  ·rw [hL k hk];exact gi.mr k PW hk
  ·rw [CI];exact hp.mr
 ·rcases gM k hk with hk | rfl
  ·rw [hL k hk]
   show bH _<=(Jb2 M.nx _ _ _).1∧((Jb2 M.nx _ _ _).1=_->(Jb2 M.nx _ _ _).2=_)
   by_cases h:aO (g.L k)=aO (g.L i)
   ·rw [h,aM]
    have q:=(gi.nx k hk).1
    rw [h,hc] at q
    refine ⟨q,λe=> ?_⟩
    have ry:=gi.dup k i hk (by omega) (kF h e.symm)
    show r=_
    unfold Gh.ef
    rw [hm,if_pos (by omega),show k+1=g.m+1 by omega,CI]
   ·rw [aJ h,Vq k (by
     have:k≠i:=λe=>h (by rw [e])
     omega)]
    exact gi.nx k hk
  ·rw [CI]
   show bH _<=(Jb2 M.nx _ _ _).1∧((Jb2 M.nx _ _ _).1=_->(Jb2 M.nx _ _ _).2=_)
   rw [aJ D8,hp.nx]
   refine ⟨Nat.le_refl _,λ_=> ?_⟩
   unfold Gh.ef
   rw [hm,if_neg (by omega)]
 ·rcases gM k hk with hk | rfl
  ·rw [hL k hk]
   show (Jb2 M.nx _ _ _).1=_
   by_cases h:aO (g.L k)=aO (g.L i)
   ·rw [h,aM]
    have q1:=gi.mr k PW hk
    have q2:=gi.mr i (by omega) (by omega)
    rw [h] at q1
    show bH (g.L i)=bH (g.L k)
    omega
   ·rw [aJ h];exact gi.nxh k PW hk
  ·rw [CI]
   show (Jb2 M.nx _ _ _).1=_
   rw [aJ D8,hp.nx]
 ·rcases gM k hk with hk | rfl
  ·rw [hL k hk];exact gi.tk k hk
  ·rw [CI]
   show bH _<=(M.tk _).1∧((M.tk _).1=_->(M.tk _).2=g.T _)
   rw [hp.tk,Vy];exact ⟨Nat.le_refl _,λ_=>rfl⟩
 ·rcases gM k hk with hk | rfl
  ·rw [hL k hk];exact gi.tkh k PW hk
  ·rw [CI]
   show (M.tk _).1=_
   rw [hp.tk]
 ·rcases gM k hk with hk | rfl
  ·rw [hL k hk,eX k hk];exact gi.vl k PW hk
  ·rw [CI]
   show M.vl _=_
   rw [hp.vl]
   unfold valOf
   rw [Qu]
 ·have t:=gi.T2 k hk
  exact ⟨t.lt,t.yW,t.word,t.slow,t.aA⟩
 ·rcases gM k hk with hk | rfl
  ·rw [hG k hk];exact gi.G1 k h1 hk
  ·rw [Qu];exact ⟨hu,Nat.le_refl _⟩
 ·rcases gM k hk with hk | rfl<;>rcases gM l hl with hl | rfl
  ·rw [hG k hk,hG l hl] at he;exact gi.Ginj k l h1 hk h2 hl he
  ·rw [hG k hk,Qu] at he;exact absurd he (D0 k h1 hk)
  ·rw [hG l hl,Qu] at he;exact absurd he.symm (D0 l h2 hl)
  ·rfl
 ·have d:=gi.ds v hv
  have W4: ∀ {w p q},Q2 g w p q->Q2 (g.put r u (pos u)) w p q:=fun {w p q} ⟨k,k1,k2,k3,k4⟩=>⟨k,k1,by rw [hm];omega,by rw [hL k k2];exact k3,by rw [hG k k2];exact k4⟩
  refine ⟨d.quiet,d.ph,d.putOwn,λa ha bf oD=> ?_,λa ha bf oD=>W4 (d.putDone a ha bf oD),λa ha bf oD=> ?_,λa ha bf oD=> ?_⟩
  ·obtain ⟨e1,e2,e3⟩:=d.putWait a ha bf oD
   refine ⟨e1,λk hk he=> ?_,?_⟩
   ·rcases gM k hk with hk | rfl
    ·rw [hL k hk] at he;exact e2 k hk he
    ·show g.t<_;omega
   ·rcases e3 with e3 | ⟨e3,e4⟩
    ·exact .inl (W4 e3)
    ·by_cases hvu:v=u
     ·subst hvu
      rcases VZ with ⟨_,h⟩ | ⟨b,h,_,hb⟩
      ·rw [show (g.put r v (pos v)).A v=g.A v from rfl,h] at ha;cases ha
      ·rw [show (g.put r v (pos v)).A v=g.A v from rfl,h] at ha;cases ha
       exact .inl ⟨g.m+1,by omega,by rw [hm];omega,by rw [CI,hb],Qu⟩
     ·have bq:a.ref≠r:=λe=>hvu (Option.some.inj ((e▸e3.own).symm.trans hp.own))
      refine .inr ⟨⟨e3.own,λk hk=> ?_,e3.mr,e3.vl,?_,e3.tk⟩,λk h1 hk=> ?_⟩
      ·rcases gM k hk with hk | rfl
       ·rw [hL k hk];exact e3.out k hk
       ·rw [CI];exact bq.symm
      ·show Jb2 M.nx _ _ _=_
       rw [aJ (qs gi e3 (by omega) (by omega))];exact e3.nx
      ·rcases gM k hk with hk | rfl
       ·rw [hG k hk];exact e4 k h1 hk
       ·rw [Qu];exact λe=>hvu (congrArg Prod.fst e).symm
  ·obtain ⟨e1,e2⟩:=d.getWait a ha bf oD
   refine ⟨e1.imp id ?_,λk hk hO=> ?_⟩
   ·rintro ⟨k,q1,q2,q3,q4⟩
    have q3':k<=g.h:=q3
    exact ⟨k,by rw [hL k (by omega)];exact q1,q2,q3,q4⟩
   ·obtain ⟨f1,f2,f3⟩:=e2 k hk hO
    exact ⟨f1,f2,by rw [hL k (by omega)];exact f3⟩
  ·rcases d.getDone a ha bf oD with e | ⟨k,e1,e2,e3,e4⟩
   ·exact .inl e
   ·have:=(gi.T2 k e1).lt
    exact .inr ⟨k,e1,e2,e3,by rw [eX _ (by omega)];exact e4⟩
 ·refine ⟨hL,hG,by rw [hm];omega,Nat.le_refl _,Nat.le_refl _,λ_ _=>⟨rfl,rfl⟩,λ_ h h'=>absurd h h',λk h1 h2=> ?_,λ_=>⟨Nat.le_refl _,λ_=>⟨rfl,id⟩⟩,λ_ _=>rfl,λ_ _ h=>h,λ_ _ _ _ h=> .inl h,λ_ _ _ _ _=>rfl,λ_ _ _ _ _ _ _ h _ _=>h,λk h1 h2 h3=> ?_,λ_ _ _ _ _ _ _ h _=> .inl h,λ_ _=>rfl,λ_ _ h=> .inl h,λp _ ha=>⟨rfl,rfl,aJ λe=> ?_,rfl⟩⟩
  ·have hk:k=g.m+1:=by rw [hm] at h2;omega
   subst hk
   rw [CI,Qu]
   exact ⟨hp.out,rfl,hp.own,VZ.imp (·.1) id⟩
  ·intro v q1 q2 q3 q4
   rw [hL k (by omega)];exact h3 v q1 q2 q3 q4
  ·exact ha i (by omega) e.symm (by rw [e];exact gi.mr i (by omega) (by omega))
theorem Q3 (gi:GI P V pos g M) (hp:(M.ds me).bN=false) (ht: ∀ i,g.T i≠0->g.O i=(me,pos me)->g.T i=me+1->i<g.h):
  GI P V (Jb2 pos me (pos me+1)) { g with A:=Jb2 g.A me none } M∧dy P pos me g M { g with A:=Jb2 g.A me none } M:=by
 have xy:(Jb2 g.A me none) me=none:=aM
 have F0: ∀ u,u≠me->(Jb2 g.A me none) u=g.A u:=λu h=>aJ h
 have FM:(Jb2 pos me (pos me+1)) me=pos me+1:=aM
 have SX: ∀ u,u≠me->(Jb2 pos me (pos me+1)) u=pos u:=λu h=>aJ h
 have nj: ∀ u,pos u<=(Jb2 pos me (pos me+1)) u:=λu=>by
  by_cases h:u=me
  ·subst h;rw [FM];omega
  ·rw [SX u h];exact Nat.le_refl _
 refine ⟨{ gi with T2:=λi hi=> ?_,G1:=λk h1 h2=>⟨(gi.G1 k h1 h2).1,Nat.le_trans (gi.G1 k h1 h2).2 (nj _)⟩,ds:=λu hu=> ?_,dsOut:=λu hu=>⟨(gi.dsOut u hu).1,?_⟩ },?_⟩
 ·have t:=gi.T2 i hi
  refine ⟨t.lt,⟨t.yW.1,Nat.le_trans t.yW.2 (nj _)⟩,t.word,λh1 h2=> ?_,λh1 h2=> ?_⟩
  ·by_cases h:(g.O i).1=me
   ·show (Jb2 g.A me none (g.O i).1=none->i<g.h)∧ ∀ a,Jb2 g.A me none (g.O i).1=some a->_
    rw [h,xy]
    refine ⟨λ_=> ?_,λa ha=>by cases ha⟩
    by_cases h3:(g.O i).2=pos (g.O i).1
    ·exact ht i hi (Prod.ext h (by rw [h3,h])) (by rw [<- h];exact h1)
    ·have h4:(g.O i).2<pos (g.O i).1:=by have:=t.yW.2;omega
     have:=t.slow h1 h4
     cases ha:g.A (g.O i).1 with
     | none=>exact this.1 ha
     | some a=>
      have h5:=this.2 a ha
      have:=((gi.ds _ t.yW.1).ph a ha).2.2
      omega
   ·show (Jb2 g.A me none (g.O i).1=none->i<g.h)∧ ∀ a,Jb2 g.A me none (g.O i).1=some a->_
    replace h2:(g.O i).2<Jb2 pos me (pos me+1) (g.O i).1:=h2
    rw [SX _ h] at h2
    rw [F0 _ h];exact t.slow h1 h2
  ·have rO:(g.O i).2=Jb2 pos me (pos me+1) (g.O i).1:=h2
   by_cases h:(g.O i).1=me
   ·have:=t.yW.2
    rw [h,FM] at rO
    rw [h] at this
    omega
   ·rw [SX _ h] at rO
    show ∃ a,Jb2 g.A me none (g.O i).1=some a∧_
    rw [F0 _ h];exact t.aA h1 rO
 ·by_cases h:u=me
  ·subst h
   have ha: ∀ {a:Ug} {q:Prop},({ g with A:=Jb2 g.A u none }:Gh).A u=some a->q:=λh=>by rw [show ({ g with A:=Jb2 g.A u none }:Gh).A u=none from xy] at h;cases h
   exact ⟨λ_=>hp,λa h=>ha h,λa h=>ha h,λa h=>ha h,λa h=>ha h,λa h=>ha h,λa h=>ha h⟩
  ·have d:DI P V (Jb2 pos me (pos me+1)) g M u:=by
    have d:=gi.ds u hu
    exact ⟨d.quiet,d.ph,d.putOwn,by rw [SX u h];exact d.putWait,by rw [SX u h];exact d.putDone,by rw [SX u h];exact d.getWait,by rw [SX u h];exact d.getDone⟩
   exact d.bB (g':={ g with A:=Jb2 g.A me none }) rfl rfl rfl rfl rfl rfl (F0 u h) (λ_ _=>⟨rfl,rfl⟩) (λ_ h _=>h) λ_ _ _=>⟨rfl,rfl,rfl,rfl⟩
 ·show Jb2 g.A me none u=none
  by_cases h:u=me
  ·rw [h,xy]
  ·rw [F0 u h];exact (gi.dsOut u hu).2
 ·refine dy.of rfl rfl rfl (Nat.le_refl _) (Nat.le_refl _) rfl rfl F0 (λu a h=> ?_) rfl λ_ _ _=>⟨rfl,rfl,rfl,rfl⟩
  replace h:Jb2 g.A me none u=some a:=h
  by_cases e:u=me
  ·rw [e,xy] at h;cases h
  ·rw [F0 u e] at h;exact h
end
section
variable {P:cv} {V:Nat->Nat->Nat} {pos:Nat->Nat} {g:Gh} {M:Mm}
def ik (P:cv) (V:Nat->Nat->Nat) (pos:Nat->Nat) (g:Gh) (M M':Mm) (Q:Gh->Prop):Prop:= ∃ g',GI P V pos g' M'∧(∀ me,dy P pos me g M g' M')∧Q g'
theorem ik.stay {Q:Gh->Prop} (gi:GI P V pos g M) (h:Q g):ik P V pos g M M Q:=⟨g,gi,λ_=>dy.refl,h⟩
theorem C1 (gi:GI P V pos g M) {i:Nat} (hi:i<=g.m) (h:(M.nx (aO (g.L i))).1=bH (g.L i)):(M.nx (aO (g.L i))).2=g.ef i:=(gi.nx i hi).2 h
theorem next_ne (gi:GI P V pos g M) {i:Nat} (hi:i<=g.m) (h:(M.nx (aO (g.L i))).1=bH (g.L i)) (h0:(M.nx (aO (g.L i))).2≠0):i<g.m∧g.L (i+1)=(M.nx (aO (g.L i))).2:=by
 have h1:=C1 gi hi h
 rw [h1] at h0 ⊢
 unfold Gh.ef at h0 ⊢
 by_cases hm:i<g.m
 ·rw [if_pos hm];exact ⟨hm,rfl⟩
 ·rw [if_neg hm] at h0;exact absurd rfl h0
theorem oT (gi:GI P V pos g M) {i:Nat} (hi:i<=g.m) (h:(M.nx (aO (g.L i))).1=bH (g.L i)) (h0:(M.nx (aO (g.L i))).2=0):i=g.m:=by
 have h1:=C1 gi hi h
 rw [h1] at h0
 unfold Gh.ef at h0
 by_cases hm:i<g.m
 ·rw [if_pos hm] at h0;exact absurd h0 (gi.okp (i+1) (by omega)).2
 ·omega
theorem wg (gi:GI P V pos g M) {k:Nat} (hk:k<=g.t):Fin M (g.L k):=by
 have g3:=gi.tm
 intro u hp ht hl
 obtain ⟨hu,a,ha⟩:=fG gi hp
 have d:=gi.ds u hu
 have bf:a.take=false:=by rw [<- (d.ph a ha).2.1];exact ht
 obtain ⟨e1,e2,_⟩:=d.putWait a ha bf hp
 have:=e2 k (by omega) (by rw [<- e1,hl])
 omega
theorem rW (gi:GI P V pos g M) {j:Option Nat} {s:Tl} (h:xC P g M j s):
  ik P V pos g M (aU P M s).1 λg'=>match (aU P M s).2 with
   | some s'=>xC P g' (aU P M s).1 j s'
   | none=>TlE g' (aU P M s).1 j:=by
 have g1:=gi.ht;have g3:=gi.tm
 cases s with
 | e=>
  have ho:P.okp M.tail:=by rw [gi.tl];exact (gi.okp _ g3.1).1
  refine ik.stay gi ?_
  simp only [aU,if_pos ho]
  exact ⟨g.t,Nat.le_refl _,gi.tl.symm,λk hk=>by have:=h k hk;omega⟩
 | n last=>
  obtain ⟨i,a,b,c⟩:=h
  subst b
  refine ik.stay gi ?_
  simp only [aU]
  by_cases hv:(M.nx (aO (g.L i))).1=bH (g.L i)
  ·by_cases h0:(M.nx (aO (g.L i))).2=0
   ·rw [if_neg (λhh=>hh.2 h0)]
    have:=oT gi (by omega) hv h0
    exact λk hk=>⟨(c k hk).2,wg gi (by have:=c k hk;omega)⟩
   ·rw [if_pos ⟨hv,h0⟩]
    obtain ⟨hm,hL⟩:=next_ne gi (by omega) hv h0
    have ho:=gi.own (i+1) (by omega) (by omega)
    rw [hL] at ho
    simp only [ho]
    exact ⟨i,a,hm,rfl,hL,ho,c⟩
  ·rw [if_neg (λhh=>hv hh.1)]
   intro k hk
   refine ⟨(c k hk).2,wg gi ?_⟩
   have dA: ¬ g.h<=i:=λhh=>hv (gi.nxh i hh (by omega))
   have:=c k hk;omega
 | d last x u=>
  obtain ⟨i,a,b,c,d,e,f⟩:=h
  refine ik.stay gi ?_
  simp only [aU]
  by_cases hc:(M.ds u).bN=true∧(M.ds u).take=false∧(M.ds u).load=x
  ·rw [if_pos hc]
   exact ⟨i,a,b,c,d,e,hc,.inl rfl,f⟩
  ·rw [if_neg hc]
   refine ⟨i,a,b,c,d,λv hp ht hl=> ?_,f⟩
   obtain ⟨hv,an,ha⟩:=fG gi hp
   have dd:=gi.ds v hv
   have bf:an.take=false:=by rw [<- (dd.ph an ha).2.1];exact ht
   have ho:=dd.putOwn an ha bf
   rw [<- (dd.putWait an ha bf hp).1,hl,e] at ho
   cases ho
   exact hc ⟨hp,ht,hl⟩
 | f last x u d=>
  obtain ⟨i,a,b,c,hx,e,⟨f1,f2,f3⟩,q,f⟩:=h
  simp only [aU]
  by_cases hc:M.ds u=d
  ·rw [if_pos hc]
   subst hc
   have hl:(M.ds u).load=g.L (i+1):=by rw [f3,hx]
   obtain ⟨k1,k2,k3⟩:=C0 (me:=0) gi (by omega) f1 f2 hl
   rw [<- hx]
   exact ⟨g,k1,λme=>(C0 (me:=me) gi (by omega) f1 f2 hl).2.1,i,a,b,c,rfl,k3,f⟩
  ·rw [if_neg hc]
   exact ik.stay gi ⟨i,a,b,c,hx,q.resolve_left hc,f⟩
 | s last x=>
  obtain ⟨i,a,b,c,hx,q,f⟩:=h
  simp only [aU]
  by_cases hc:M.tail=last
  ·rw [if_pos hc]
   have ud:M.tail=g.L i:=by rw [hc,c]
   obtain ⟨k0,k1,_⟩:=nY (me:=0) gi b a hx q ud
   refine ⟨_,k1,λme=>(nY (me:=me) gi b a hx q ud).2.2,λk hk=>⟨(f k hk).2,?_⟩⟩
   exact wg k1 (by show k<=i+1;exact (f k hk).1)
  ·rw [if_neg hc]
   refine ik.stay gi λk hk=>⟨(f k hk).2,?_⟩
   have S7:i≠g.t:=λe=>hc (by rw [gi.tl,<- e,c])
   exact wg gi (by have:=f k hk;omega)
theorem oU (gi:GI P V pos g M) (hV: ∀ u p,V u p<16777216) {j:Option Nat} {s:Hd} (h:AJ P V g M j s):
  ik P V pos g M (aS P M s).1 λg'=>match (aS P M s).2 with
   | some s'=>AJ P V g' (aS P M s).1 j s'
   | none=>HdE g' j:=by
 have g1:=gi.ht;have g3:=gi.tm
 cases s with
 | e=>
  have ho:P.okp M.head:=by rw [gi.hd];exact (gi.okp _ (by omega)).1
  refine ik.stay gi ?_
  simp only [aS,if_pos ho]
  exact ⟨g.h,Nat.le_refl _,gi.hd.symm,λk hk=>⟨h k hk,(gi.T2 k (h k hk)).lt.1⟩⟩
 | n first=>
  obtain ⟨i,a,b,c⟩:=h
  subst b
  refine ik.stay gi ?_
  simp only [aS]
  by_cases hv:(M.nx (aO (g.L i))).1=bH (g.L i)
  ·by_cases h0:(M.nx (aO (g.L i))).2=0
   ·rw [if_neg (λhh=>hh.2.1 h0)]
    have:=oT gi (by omega) hv h0
    intro k hk
    have:=(gi.T2 k (c k hk).1).lt
    have:=c k hk
    omega
   ·obtain ⟨hm,hL⟩:=next_ne gi (by omega) hv h0
    have ho:=(gi.okp (i+1) (by omega)).1
    rw [hL] at ho
    rw [if_pos ⟨hv,h0,ho⟩]
    exact ⟨i,a,hm,rfl,hL,c⟩
  ·rw [if_neg (λhh=>hv hh.1)]
   intro k hk
   have dA: ¬ g.h<=i:=λhh=>hv (gi.nxh i hh (by omega))
   have:=c k hk;omega
 | t first x=>
  obtain ⟨i,a,b,c,d,e⟩:=h
  subst c
  refine ik.stay gi ?_
  simp only [aS]
  by_cases hv:(M.tk (aO (g.L i))).1=bH (g.L i)
  ·have hT:=(gi.tk i (by omega)).2 hv
   by_cases h0:(M.tk (aO (g.L i))).2=0
   ·rw [if_neg (λhh=>hh.2 h0)]
    rw [hT] at h0
    intro k hk
    have hi: ¬ i<g.h:=λhh=>gi.T1 i hh h0
    have WR:k≠i:=λe'=>(e k hk).1 (by rw [e'];exact h0)
    have:=e k hk
    omega
   ·rw [if_pos ⟨hv,h0⟩,hT]
    rw [hT] at h0
    have tt:=gi.T2 i h0
    have hn:=gi.nP
    by_cases hz:g.T i<=P.n
    ·simp only [if_pos hz]
     exact ⟨i,a,b,rfl,d,by omega,by omega,e⟩
    ·simp only [if_neg hz]
     refine ⟨i,a,b,rfl,d,h0,λu hu _ hp=> ?_,e⟩
     have:=tt.yW.1
     have:=(fG gi hp).1
     rcases tt.word with hw | hw<;>omega
  ·rw [if_neg (λhh=>hv hh.1)]
   intro k hk
   have dA: ¬ g.h<=i:=λhh=>hv (gi.tkh i hh (by omega))
   have:=e k hk;omega
 | d first x u=>
  obtain ⟨i,a,b,c,d,e,f,q⟩:=h
  refine ik.stay gi ?_
  simp only [aS]
  by_cases hc:(M.ds u).bN=true∧(M.ds u).take=true∧(M.ds u).load=first
  ·rw [if_pos hc]
   exact ⟨i,a,b,c,d,e,f,hc,.inl rfl,q⟩
  ·rw [if_neg hc]
   refine ⟨i,a,b,c,d,by omega,λv hv _ hp ht hl=> ?_,q⟩
   have:v=u:=by omega
   subst this
   exact hc ⟨hp,ht,by rw [hl,c]⟩
 | v first x u dd=>
  obtain ⟨i,a,b,c,d,e,f,r,r2,q⟩:=h
  refine ik.stay gi ?_
  simp only [aS]
  refine ⟨i,a,b,c,d,e,f,r,r2,λhh=> ?_,q⟩
  rw [<- d,gi.vl (i+1) (by omega) (by omega)]
 | f first x u dd y=>
  obtain ⟨i,a,b,c,d,e,f,r,r2,r3,q⟩:=h
  simp only [aS]
  by_cases hc:M.ds u=dd
  ·rw [if_pos hc]
   subst hc
   have hl:(M.ds u).load=g.L i:=by rw [r.2.2,c]
   obtain ⟨k1,_⟩:=yY (me:=0) gi hV a r.1 r.2.1 hl e r3
   refine ⟨g,k1,λme=>(yY (me:=me) gi hV a r.1 r.2.1 hl e r3).2,i,a,b,c,d,by omega,λv hv _ hp=> ?_,q⟩
   have:v=u:=by omega
   subst this
   replace hp:(Jb2 M.ds v _ v).bN=true:=hp
   rw [aM] at hp;cases hp
  ·rw [if_neg hc]
   exact ik.stay gi ⟨i,a,b,c,d,by omega,r2.resolve_left hc,q⟩
 | s first x=>
  obtain ⟨i,a,b,c,d,e,f,q⟩:=h
  simp only [aS]
  by_cases hc:M.head=first
  ·rw [if_pos hc]
   have ud:M.head=g.L i:=by rw [hc,c]
   obtain ⟨k0,k1,_⟩:=nZ (me:=0) gi b a d e f ud
   exact ⟨_,k1,λme=>(nZ (me:=me) gi b a d e f ud).2.2,i,Nat.lt_succ_self i,c,λk hk=>by have:=q k hk;show k<i+1;omega⟩
  ·rw [if_neg hc]
   have xv:i≠g.h:=λe'=>hc (by rw [gi.hd,<- e',c])
   exact ik.stay gi λk hk=>by have:=q k hk;omega
 | m first=>
  obtain ⟨i,a,b,c⟩:=h
  subst b
  simp only [aS]
  by_cases hc:M.mr (aO (g.L i))=2*bH (g.L i)+1
  ·rw [if_pos hc]
   exact ⟨g,(free (me:=0) gi a hc).1,λme=>(free (me:=me) gi a hc).2,c⟩
  ·rw [if_neg hc]
   exact ik.stay gi c
end
section
variable {P:cv} {V:Nat->Nat->Nat} {pos:Nat->Nat} {g:Gh} {M:Mm}
theorem mX {d:Ds} {ph:Nat} {take:Bool}:d.waits ph take=true↔d.bN=true∧d.take=take∧d.ag=ph:=by
 unfold Ds.waits
 simp [and_assoc]
theorem u5 {u ph:Nat} {take:Bool} (h: ¬ (M.ds u).waits ph take=true) (hc:(M.ds u).ag=ph->(M.ds u).take=take):Uh M u ph:=λhp=>by
 cases hq:(M.ds u).bN with
 | false=>rfl
 | true=>exact absurd (mX.2 ⟨hq,hc hp,hp⟩) h
theorem MQ (gi:GI P V pos g M) {u ph:Nat} (h:(M.ds u).waits ph true=true):Dt g M u ph (M.ds u) g.h∧HI g u ph g.h:=by
 obtain ⟨hp,ht,eY⟩:=mX.1 h
 obtain ⟨hu,a,ha⟩:=fG gi hp
 have d:=gi.ds u hu
 have bf:a.take=true:=by rw [<- (d.ph a ha).2.1];exact ht
 refine ⟨⟨hp,ht,eY,(d.getWait a ha bf hp).1.imp id ?_⟩,λb hb _=>(d.ph b hb).2.2⟩
 rintro ⟨i,q1,q2,q3,q4⟩
 exact ⟨i,q3,q4,q3,q1,λ_ _=>rfl⟩
theorem C2 (gi:GI P V pos g M) (hV: ∀ u p,V u p<16777216) {take:Bool} {u ph:Nat} {s:Hs} (h:yX P V g M take u ph s):
  ik P V pos g M (ax P M take u ph s).1 λg'=>match (ax P M take u ph s).2 with
   | some s'=>yX P V g' (ax P M take u ph s).1 take u ph s'
   | none=>Uh (ax P M take u ph s).1 u ph:=by
 have g1:=gi.ht;have g3:=gi.tm
 obtain ⟨hu,eY,hc,h,hk⟩:=h
 cases s with
 | look=>
  refine ik.stay gi ?_
  simp only [ax]
  by_cases hw:(M.ds u).waits ph take=true
  ·rw [if_pos hw]
   cases take with
   | true=>exact ⟨hu,eY,hc,MQ gi hw,rfl⟩
   | false=>exact ⟨hu,eY,hc,trivial,rfl⟩
  ·rw [if_neg hw];exact u5 hw hc
 | iw=>exact ik.stay gi ⟨hu,eY,hc,⟨g.t,Nat.le_refl _,gi.tl.symm⟩,hk⟩
 | gG last=>
  obtain ⟨i,a,b⟩:=h
  refine ik.stay gi ?_
  simp only [ax]
  by_cases hv:(M.nx (aO last)).1=bH last
  ·rw [if_pos hv]
   by_cases h0:(M.nx (aO last)).2=0
   ·rw [if_neg (λhh=>hh h0)];exact ⟨hu,eY,hc,⟨i,a,b⟩,hk⟩
   ·rw [if_pos h0];exact ⟨hu,eY,hc,(λk hk=>by cases hk),trivial⟩
  ·rw [if_neg hv];exact ⟨hu,eY,hc,trivial,trivial⟩
 | fv last=>
  obtain ⟨i,a,b⟩:=h
  refine ik.stay gi ?_
  simp only [ax]
  have ru:take=false:=hk
  subst ru
  by_cases hw:(M.ds u).waits ph false=true
  ·rw [if_pos hw]
   obtain ⟨w1,w2,w3⟩:=mX.1 hw
   refine ⟨hu,eY,hc,⟨i,a,b,w1,w2,w3,λk ry he=> ?_,.inl rfl⟩,rfl⟩
   obtain ⟨_,an,ha⟩:=fG gi w1
   have d:=gi.ds u hu
   have bf:an.take=false:=by rw [<- (d.ph an ha).2.1];exact w2
   obtain ⟨e1,e2,_⟩:=d.putWait an ha bf w1
   have:=e2 k ry (by rw [<- e1];exact he)
   omega
  ·rw [if_neg hw];exact u5 hw hc
 | kL last d=>
  obtain ⟨i,a,b,w1,w2,w3,q1,q2⟩:=h
  have ru:take=false:=hk
  subst ru
  simp only [ax]
  by_cases fO:M.nx (aO last)=(bH last,0)
  ·rw [if_pos fO]
   have Ef:i=g.m:=oT gi (by omega) (by rw [b,fO]) (by rw [b,fO])
   have hd:M.ds u=d:=by
    rcases q2 with q2 | ⟨k,k1,k2⟩
    ·exact q2
    ·have:=q1 k k1 k2;omega
   subst hd
   obtain ⟨_,an,ha⟩:=fG gi w1
   have dd:=gi.ds u hu
   have bf:an.take=false:=by rw [<- (dd.ph an ha).2.1];exact w2
   obtain ⟨e1,e2,e3⟩:=dd.putWait an ha bf w1
   have e4:=e3.resolve_left λ⟨k,_,k2,k3,_⟩=>by have:=q1 k k2 (by rw [e1];exact k3);omega
   subst b
   rw [e1]
   have hl:=λme=>link (me:=me) gi hu a fO (.inr ⟨an,ha,bf,rfl⟩) e4.1 e4.2
   refine ⟨_,(hl 0).2.1,λme=>(hl me).2.2,hu,eY,hc,⟨g.m+1,λk hk=> ?_,Nat.le_refl _,λ_ _=>⟨w2,?_⟩⟩,rfl⟩
   ·cases hk;exact Nat.le_refl _
   ·show (M.ds u).load=(g.put an.ref u (pos u)).L (g.m+1)
    rw [e1];exact aM.symm
  ·rw [if_neg fO];exact ik.stay gi ⟨hu,eY,hc,trivial,trivial⟩
 | iz d=>exact ik.stay gi ⟨hu,eY,hc,⟨g.h,Nat.le_refl _,gi.hd.symm,h.1,h.2⟩,hk⟩
 | ji d first=>
  obtain ⟨i,a,b,c,e⟩:=h
  exact ik.stay gi ⟨hu,eY,hc,⟨i,g.t,a,b,c,e,by omega,Nat.le_refl _,gi.tl.symm⟩,hk⟩
 | jj d first last=>
  obtain ⟨i,k,a,b,c,e,f,r,q⟩:=h
  refine ik.stay gi ⟨hu,eY,hc,⟨i,k,a,b,c,e,f,r,q,λhh=> ?_⟩,hk⟩
  subst b
  have hv:=gi.nxh i (by omega) (by omega)
  by_cases h0:(M.nx (aO (g.L i))).2=0
  ·refine .inl ⟨h0,λhl=> ?_⟩
   have Ef:=oT gi (by omega) hv h0
   rcases c.2.2.2 with c1 | ⟨l,l1,l2,l3,l4,_⟩
   ·exact (gi.okp i (by omega)).2 (by rw [<- hl,c1])
   ·have:=gi.dup l i (by omega) (by omega) (by rw [l4,hl])
    omega
  ·exact .inr (next_ne gi (by omega) hv h0)
 | ey d first last w=>
  obtain ⟨i,k,a,b,c,e,f,r,q,t⟩:=h
  refine ik.stay gi ?_
  simp only [ax]
  by_cases hh:M.head=first
  ·rw [if_pos hh]
   have xv:g.h=i:=gi.dup g.h i (by omega) (by omega) (by rw [<- gi.hd,hh,b])
   have t:=t xv
   by_cases h0:w.2=0
   ·rw [if_pos h0]
    have t:=t.resolve_right λt=>by
     have:=(gi.okp (i+1) (by omega)).2
     rw [t.2,h0] at this;exact this rfl
    exact ⟨hu,eY,hc,⟨i,a,c,by rw [b];exact t.2⟩,hk⟩
   ·rw [if_neg h0]
    have t:=t.resolve_left λt=>h0 t.1
    by_cases hl:first=last
    ·rw [if_pos hl];exact ⟨hu,eY,hc,(λk hk=>by cases hk),trivial⟩
    ·rw [if_neg hl]
     have XD:i≠k:=λe'=>hl (by rw [<- b,<- q,e'])
     by_cases hd:d.load=first
     ·rw [if_neg (λh=>h hd)]
      refine ⟨hu,eY,hc,⟨i,a,by omega,b,e,λh1 h2=> ?_⟩,hk⟩
      obtain ⟨c1,c2,c3,c4⟩:=c
      have c4:=c4.resolve_left λh=>(gi.okp i (by omega)).2 (by rw [b,<- hd,h])
      obtain ⟨l,l1,l2,l3,l4,l5⟩:=c4
      have uB:l=i:=gi.dup l i (by omega) (by omega) (by rw [l4,hd,b])
      subst uB
      rw [l5 h1 h2]
      cases d
      simp_all
     ·rw [if_pos hd]
      exact ⟨hu,eY,hc,⟨i,a,by omega,b,c,hd,e⟩,hk⟩
  ·rw [if_neg hh];exact ⟨hu,eY,hc,trivial,trivial⟩
 | ff d=>
  obtain ⟨i,a,b,c⟩:=h
  simp only [ax]
  by_cases fO:M.ds u=d
  ·rw [if_pos fO]
   subst fO
   have hl:=λme=>ER (me:=me) gi a b c
   refine ⟨g,(hl 0).1,λme=>(hl me).2,λ_=> ?_⟩
   show (Jb2 M.ds u _ u).bN=false
   rw [aM];rfl
  ·rw [if_neg fO];exact ik.stay gi ⟨hu,eY,hc,trivial,trivial⟩
 | hZ d first=>
  obtain ⟨i,a,b,c,e,f,q⟩:=h
  simp only [ax]
  by_cases fO:M.ds u=d
  ·rw [if_pos fO]
   subst fO
   subst c
   have hl:=λme=>lB (me:=me) gi a b e f q
   have ha:(Jb2 M.ds u ((M.ds u).lB (g.L i))) u=(M.ds u).lB (g.L i):=aM
   refine ⟨g,(hl 0).1,λme=>(hl me).2,hu,?_,?_,⟨i,a,b,rfl,q,λ_ _=> ?_⟩,hk⟩
   ·show ph<=(Jb2 M.ds u _ u).ag
    rw [ha];exact eY
   ·show (Jb2 M.ds u _ u).ag=ph->(Jb2 M.ds u _ u).take=take
    rw [ha];exact hc
   ·show Jb2 M.ds u _ u=_
    rw [ha]
    obtain ⟨c1,c2,c3,_⟩:=e
    have Cp: ∀ dd:Ds,dd.bN=true->dd.take=true->dd.ag=ph->dd.lB (g.L i)=⟨true,true,g.L i,ph⟩:=λdd h1 h2 h3=>by
     cases dd;unfold Ds.lB;simp_all
    exact Cp _ c1 c2 c3
  ·rw [if_neg fO];exact ik.stay gi ⟨hu,eY,hc,trivial,trivial⟩
 | eJ first=>
  obtain ⟨i,a,b,c,e,f⟩:=h
  subst c
  simp only [ax]
  by_cases fO:M.tk (aO (g.L i))=(bH (g.L i),0)
  ·rw [if_pos fO]
   have hl:=λme=>qt (me:=me) (z:=u+1) gi hu a b fO (.inr ⟨rfl,λh1 h2=>by rw [f h1 h2];exact ⟨rfl,rfl,rfl⟩⟩)
   exact ⟨_,(hl 0).2.2.1,λme=>(hl me).2.2.2,hu,eY,hc,(λk hk=>by cases hk),hk⟩
  ·rw [if_neg fO];exact ik.stay gi ⟨hu,eY,hc,(λk hk=>by cases hk),hk⟩
 | sub f bM=>
  cases f with
  | tl t=>
   cases bM with
   | false=>
    obtain ⟨g',k1,k2,k3⟩:=rW gi h
    have hh:=yX.mono (take:=take) (s:= .look) (k2 P.n) gi ⟨hu,eY,hc,trivial,trivial⟩
    refine ⟨g',?_⟩
    simp only [ax,bu]
    cases ht:(aU P M t).2 with
    | none=>exact ⟨k1,k2,hh⟩
    | some t'=>
     rw [ht] at k3
     exact ⟨k1,k2,hh.1,hh.2.1,hh.2.2.1,k3,trivial⟩
   | true=>
    obtain ⟨j,j1,j2,j3⟩:=h
    have ru:take=false:=hk
    subst ru
    obtain ⟨g',k1,k2,k3⟩:=rW gi j1
    have hh:=yX.mono (take:=false) (s:= .sub (.tl t) true) (k2 P.n) gi ⟨hu,eY,hc,⟨j,j1,j2,j3⟩,rfl⟩
    obtain ⟨hh1,ZO,hh3,⟨j',_,_,Qv⟩,_⟩:=hh
    have hj:((aU P M t).1.ds u).ag=ph->((aU P M t).1.ds u).bN=true->((aU P M t).1.ds u).take=false∧((aU P M t).1.ds u).load=g'.L j:=by
     intro e1 e2
     have hp:=(k2 P.n).ph u
     have he:((aU P M t).1.ds u).ag=(M.ds u).ag:=by omega
     have h2:=(hp.2 he).2 e2
     obtain ⟨q1,q2⟩:=j3 (by omega) h2
     rw [(k2 P.n).load u h2 q1 he e2,(k2 P.n).L j j2];exact ⟨q1,q2⟩
    refine ⟨g',?_⟩
    simp only [ax,bu]
    cases ht:(aU P M t).2 with
    | none=>
     rw [ht] at k3
     refine ⟨k1,k2,λe1=> ?_⟩
     cases hq:((aU P M t).1.ds u).bN with
     | false=>exact hq
     | true=>
      obtain ⟨q1,q2⟩:=hj e1 hq
      exact absurd q2 ((k3 j rfl).2 u hq q1)
    | some t'=>
     rw [ht] at k3
     exact ⟨k1,k2,hh1,ZO,hh3,⟨j,k3,Nat.le_trans j2 (k2 P.n).m,hj⟩,rfl⟩
  | hd t=>
   cases bM with
   | true=>exact h.elim
   | false=>
    obtain ⟨g',k1,k2,k3⟩:=oU gi hV h
    have hh:=yX.mono (take:=take) (s:= .look) (k2 P.n) gi ⟨hu,eY,hc,trivial,trivial⟩
    refine ⟨g',?_⟩
    simp only [ax,bu]
    cases ht:(aS P M t).2 with
    | none=>exact ⟨k1,k2,hh⟩
    | some t'=>
     rw [ht] at k3
     exact ⟨k1,k2,hh.1,hh.2.1,hh.2.2.1,k3,hk⟩
end
section
variable (P:cv) (V:Nat->Nat->Nat) (kd:Nat->Nat->Bool) (pos:Nat->Nat) (g:Gh) (M:Mm)
structure UP (t:Nat) (o:Op):Prop where
 A:g.A t=none
 rF:P.own o.ref=some t∧uq P g M t o.ref (V t (pos t))
 err:o.err=0
 put:fF g t (pos t)
 kd:o.take=false
structure UT (t:Nat) (o:Op):Prop where
 A:g.A t=none
 no:ez g t (pos t)
 err:o.err=0
 kd:o.take=true
def UQ (t:Nat) (o:Op):Prop:=UP P V pos g M t o∨UT pos g t o
def AN (t:Nat) (o:Op):Prop:= ∃ a,g.A t=some a∧a.ph=o.ag∧a.take=o.take∧a.ref=o.ref
structure UC (t:Nat) (o:Op):Prop where
 A:g.A t=none
 own:P.own o.ref=some t
 err:o.err=0
 put:fF g t (pos t)
 kd:o.take=false
 out: ∀ i,i<=g.m->g.L i≠o.ref
def Bq (t i val:Nat):Prop:=g.T i≠0∧g.O i=(t,pos t)∧val=valOf V g (i+1)
def HJ (t:Nat) (o:Op):Os->Prop
 | .check=>g.A t=none∧ez g t (pos t)∧fF g t (pos t)∧o.i<P.n∧o.err=0
 | .mark=>g.A t=none∧fF g t (pos t)∧o.i<P.k∧o.err=0∧o.take=false
 | .ia mk=>UC P pos g t o∧M.mr (aO o.ref)=mk∧mk%2=0∧bH o.ref=mk/2+1
 | .value=>UC P pos g t o∧M.mr (aO o.ref)=2*bH o.ref+1
 | .next=>UC P pos g t o∧M.mr (aO o.ref)=2*bH o.ref+1∧M.vl (aO o.ref)=(bH o.ref,V t (pos t))
 | .ib=>UC P pos g t o∧M.mr (aO o.ref)=2*bH o.ref+1∧M.vl (aO o.ref)=(bH o.ref,V t (pos t))∧M.nx (aO o.ref)=(bH o.ref,0)
 | .tail=>UP P V pos g M t o
 | .behind last=>UP P V pos g M t o∧ ∃ i,i<=g.t∧g.L i=last
 | .put last=>UP P V pos g M t o∧ ∃ i,i<=g.t∧g.L i=last
 | .head=>UT pos g t o
 | .dX first=>UT pos g t o∧ ∃ i,i<=g.h∧g.L i=first
 | .first first last=>UT pos g t o∧ ∃ i k,i<=g.h∧g.L i=first∧i<=k∧k<=g.t∧g.L k=last
 | .Jb6 first last w=>UT pos g t o∧ ∃ i k,i<=g.h∧g.L i=first∧i<=k∧k<=g.t∧g.L k=last∧(g.h=i->w.2=0∨(i<g.m∧g.L (i+1)=w.2))
 | .read first x=>UT pos g t o∧ ∃ i,i<=g.h∧i<g.t∧g.L i=first∧g.L (i+1)=x
 | .take first y=>UT pos g t o∧ ∃ i,i<=g.h∧i<g.t∧g.L i=first∧(g.h=i->y=valOf V g (i+1))
 | .ag=>UQ P V pos g M t o∧o.i<P.n∧(t<o.i->(M.ds t).ag<=o.ag)
 | .cO=>UQ P V pos g M t o∧(M.ds t).ag<=o.ag
 | .b8=>AN g t o∧o.err=0∧o.i<P.n∧(t<o.i->(M.ds t).bN=false)
 | .result=>AN g t o∧o.take=true∧(M.ds t).bN=false
 | .sub (.hp tk u ph s) .cM=>g.A t=none∧ez g t (pos t)∧fF g t (pos t)∧o.err=0∧yX P V g M tk u ph s
 | .sub (.fn (.tl x)) .aH=>UQ P V pos g M t o∧xC P g M none x
 | .sub (.fn (.hd x)) .aH=>UQ P V pos g M t o∧AJ P V g M none x
 | .sub (.hp tk u ph s) .b8=>AN g t o∧o.err=0∧o.i<P.n∧(t<o.i->(M.ds t).bN=false)∧(o.i=t->u=t∧ph=o.ag)∧yX P V g M tk u ph s
 | .sub (.fn (.tl x)) .fin=>o.take=false∧g.A t=none∧o.err=0∧xC P g M none x∧ ∃ i,1<=i∧i<=g.m∧g.G i=(t,pos t)
 | .sub (.fn (.hd x)) .fin=>o.take=true∧((g.A t=none∧o.err=0∧AJ P V g M none x∧ ∃ i,g.T i=t+33∧Bq V pos g t i o.val)∨
   (AN g t o∧(M.ds t).bN=false∧((o.err=7∧ez g t (pos t)∧AJ P V g M none x)∨(o.err=0∧ ∃ i,g.T i=t+1∧Bq V pos g t i o.val∧AJ P V g M (some i) x))))
 | _=>False
structure OI (t:Nat) (o:Op):Prop where
 kd:o.take=kd t (pos t)
 v:o.take=false->o.v=V t (pos t)
 put:o.take=true->o.ref=0∧fF g t (pos t)
 get:o.take=false->ez g t (pos t)
 st:HJ P V pos g M t o o.st
def eO (t p:Nat) (take:Bool) (err val:Nat):Prop:=
 match take with
 | true=>fF g t p∧((err=0∧ ∃ i,g.T i≠0∧g.O i=(t,p)∧val=valOf V g (i+1))∨(err=7∧ez g t p))
 | false=>ez g t p∧((err=0∧ ∃ i,1<=i∧i<=g.m∧g.G i=(t,p))∨(err=6∧fF g t p))
structure EI (t:Nat) (o:Op):Prop where
 kd:o.take=kd t (pos t)
 bN:(M.ds t).bN=false
 Q4: ∀ i,g.T i≠0->g.O i=(t,pos t)->g.T i=t+1->i<g.h
 uf:eO V g t (pos t) o.take o.err o.val
end
section
variable {P:cv} {V:Nat->Nat->Nat} {kd:Nat->Nat->Bool} {pos:Nat->Nat} {g g':Gh} {M M':Mm} {me t:Nat} {o:Op}
theorem HK {r u:Nat} (h:P.own r=some u):u<P.n:=by
 unfold cv.own at h
 split at h
 ·rename_i hh
  cases h
  have hk:0<P.k:=by
   by_cases h0:P.k=0
   ·rw [h0] at hh;omega
   ·omega
  rw [Nat.div_lt_iff_lt_mul hk]
  have:=hh.1;have:=hh.2
  omega
 ·cases h
theorem sP (hg:dy P pos me g M g' M') {i:Nat} (hi:i<=g.m):valOf V g' i=valOf V g i:=by unfold valOf;rw [hg.G i hi]
theorem ez.mono (hg:dy P pos me g M g' M') (bq:t≠me) (hp:(M.ds t).bN=false∨(M.ds t).take=false) {p:Nat} (h:ez g t p):ez g' t p:=by
 intro i hi hO
 by_cases h0:g.T i=0
 ·have:=(hg.T' i h0 hi).2.2
  rw [hO] at this
  rcases this with e | ⟨e1,e2⟩
  ·exact bq e
  ·rcases hp with h | h
   ·rw [h] at e1;cases e1
   ·rw [h] at e2;cases e2
 ·exact h i h0 (by rw [<- (hg.T i h0).2];exact hO)
theorem fF.mono (hg:dy P pos me g M g' M') (bq:t≠me) (hA: ∀ a,g.A t=some a->a.take=true) {p:Nat} (h:fF g t p):fF g' t p:=by
 intro i h1 h2 hG
 by_cases hm:i<=g.m
 ·exact h i h1 hm (by rw [<- hg.G i hm];exact hG)
 ·have:=(hg.new i (by omega) h2).2.2.2
  rw [hG] at this
  rcases this with e | ⟨a,e1,e2,_⟩
  ·exact bq e
  ·rw [hA a e1] at e2;cases e2
theorem uq.mono (gi:GI P V pos g M) (hg:dy P pos me g M g' M') (bq:t≠me) (hA:g.A t=none) {r v:Nat} (h:uq P g M t r v):uq P g' M' t r v:=by
 have D8:HH g M (aO r):=λi hi he hm=>by
  have:=h.mr
  exact h.out i hi (kF he (by omega))
 obtain ⟨q1,q2,q3,q4⟩:=hg.own (aO r) (λr' qN e=>bq (Option.some.inj ((wc qN.symm h.own).symm.trans e))) D8
 refine ⟨h.own,λi hi he=> ?_,q1.trans h.mr,q2.trans h.vl,q3.trans h.nx,q4.trans h.tk⟩
 by_cases hm:i<=g.m
 ·exact h.out i hm (by rw [<- hg.L i hm];exact he)
 ·obtain ⟨_,_,e3,e4⟩:=hg.new i (by omega) hi
  rw [he,h.own] at e3
  cases e3
  rcases e4 with e | ⟨a,e1,_⟩
  ·exact bq e
  ·rw [hA] at e1;cases e1
theorem HL (hg:dy P pos me g M g' M') (bq:t≠me) (hA:g.A t=none) {r:Nat} (ho:P.own r=some t) (h: ∀ i,i<=g.m->g.L i≠r): ∀ i,i<=g'.m->g'.L i≠r:=λi hi he=>by
 by_cases hm:i<=g.m
 ·exact h i hm (by rw [<- hg.L i hm];exact he)
 ·obtain ⟨_,_,e3,e4⟩:=hg.new i (by omega) hi
  rw [he,ho] at e3
  cases e3
  rcases e4 with e | ⟨a,e1,_⟩
  ·exact bq e
  ·rw [hA] at e1;cases e1
theorem quiet (gi:GI P V pos g M) (hA:g.A t=none):(M.ds t).bN=false:=by
 by_cases h:t<P.n
 ·exact (gi.ds t h).quiet hA
 ·exact (gi.dsOut t (by omega)).1
theorem Q5 {q:Ug->Prop} (hA:g.A t=none): ∀ a,g.A t=some a->q a:=λa h=>by rw [hA] at h;cases h
theorem UP.mono (gi:GI P V pos g M) (hg:dy P pos me g M g' M') (bq:t≠me) (h:UP P V pos g M t o):UP P V pos g' M' t o:=
 ⟨by rw [hg.A t bq];exact h.A,⟨h.rF.1,h.rF.2.mono gi hg bq h.A⟩,h.err,h.put.mono hg bq (Q5 h.A),h.kd⟩
theorem UT.mono (gi:GI P V pos g M) (hg:dy P pos me g M g' M') (bq:t≠me) (h:UT pos g t o):UT pos g' t o:=
 ⟨by rw [hg.A t bq];exact h.A,h.no.mono hg bq (.inl (quiet gi h.A)),h.err,h.kd⟩
theorem UQ.mono (gi:GI P V pos g M) (hg:dy P pos me g M g' M') (bq:t≠me) (h:UQ P V pos g M t o):UQ P V pos g' M' t o:=
 h.imp (·.mono gi hg bq) (·.mono gi hg bq)
theorem UC.mono (hg:dy P pos me g M g' M') (bq:t≠me) (h:UC P pos g t o):UC P pos g' t o:=
 ⟨by rw [hg.A t bq];exact h.A,h.own,h.err,h.put.mono hg bq (Q5 h.A),h.kd,HL hg bq h.A h.own h.out⟩
theorem AN.mono (hg:dy P pos me g M g' M') (bq:t≠me) (h:AN g t o):AN g' t o:=by
 obtain ⟨a,h1,h2⟩:=h
 exact ⟨a,by rw [hg.A t bq];exact h1,h2⟩
theorem iV (hg:dy P pos me g M g' M') (bq:t≠me) (h:(M.ds t).bN=false):(M'.ds t).bN=false:=by
 cases hq:(M'.ds t).bN with
 | false=>rfl
 | true=>rw [((hg.ph t).2 (hg.Xe t bq)).2 hq] at h;cases h
theorem Bq.mono (gi:GI P V pos g M) (hg:dy P pos me g M g' M') {i val:Nat} (h:Bq V pos g t i val):Bq V pos g' t i val:=by
 obtain ⟨h1,h2,h3⟩:=h
 have:=(gi.T2 i h1).lt
 have g3:=gi.tm
 obtain ⟨q1,q2⟩:=hg.T i h1
 exact ⟨by rw [q1];exact h1,by rw [q2];exact h2,by rw [sP hg (by omega)];exact h3⟩
theorem oV (hg:dy P pos me g M g' M') (bq:t≠me) {r:Nat} (ho:P.own r=some t) (D8:HH g M (aO r)):M'.mr (aO r)=M.mr (aO r)∧M'.vl (aO r)=M.vl (aO r)∧M'.nx (aO r)=M.nx (aO r)∧M'.tk (aO r)=M.tk (aO r):=
 hg.own (aO r) (λr' qN e=>bq (Option.some.inj ((wc qN.symm ho).symm.trans e))) D8
theorem sQ {r:Nat} (hm:M.mr (aO r)=2*bH r+1) (hout: ∀ i,i<=g.m->g.L i≠r):HH g M (aO r):=λi hi he h=>hout i hi (kF he (by omega))
theorem HJ.mono (gi:GI P V pos g M) (hg:dy P pos me g M g' M') (bq:t≠me) {s:Os} (h:HJ P V pos g M t o s):HJ P V pos g' M' t o s:=by
 have g1:=gi.ht;have g3:=gi.tm
 have h1:=hg.L;have h2:=hg.m;have h3:=hg.h;have h4:=hg.t
 have node: ∀ {b b' x:Nat},b<=g.m->b<=b'->(∃ i,i<=b∧g.L i=x)-> ∃ i,i<=b'∧g'.L i=x:=λhb hbb ⟨i,e1,e2⟩=>⟨i,by omega,by rw [h1 i (by omega)];exact e2⟩
 cases s with
 | check=>exact ⟨by rw [hg.A t bq];exact h.1,h.2.1.mono hg bq (.inl (quiet gi h.1)),h.2.2.1.mono hg bq (Q5 h.1),h.2.2.2⟩
 | mark=>exact ⟨by rw [hg.A t bq];exact h.1,h.2.1.mono hg bq (Q5 h.1),h.2.2⟩
 | ia mk=>
  obtain ⟨e1,e2,e3,e4⟩:=h
  exact ⟨e1.mono hg bq,(oV hg bq e1.own λi hi he h=>by omega).1.trans e2,e3,e4⟩
 | value=>
  obtain ⟨e1,e2⟩:=h
  exact ⟨e1.mono hg bq,(oV hg bq e1.own (sQ e2 e1.out)).1.trans e2⟩
 | next=>
  obtain ⟨e1,e2,e3⟩:=h
  have q:=oV hg bq e1.own (sQ e2 e1.out)
  exact ⟨e1.mono hg bq,q.1.trans e2,q.2.1.trans e3⟩
 | ib=>
  obtain ⟨e1,e2,e3,e4⟩:=h
  have q:=oV hg bq e1.own (sQ e2 e1.out)
  exact ⟨e1.mono hg bq,q.1.trans e2,q.2.1.trans e3,q.2.2.1.trans e4⟩
 | tail=>exact UP.mono gi hg bq h
 | behind last=>exact ⟨h.1.mono gi hg bq,node g3.1 h4 h.2⟩
 | put last=>exact ⟨h.1.mono gi hg bq,node g3.1 h4 h.2⟩
 | head=>exact UT.mono gi hg bq h
 | dX first=>exact ⟨h.1.mono gi hg bq,node (by omega) h3 h.2⟩
 | first first last=>
  obtain ⟨e,i,k,a,b,c,d,f⟩:=h
  exact ⟨e.mono gi hg bq,i,k,by omega,by rw [h1 i (by omega)];exact b,c,by omega,by rw [h1 k (by omega)];exact f⟩
 | Jb6 first last w=>
  obtain ⟨e,i,k,a,b,c,d,f,q⟩:=h
  refine ⟨e.mono gi hg bq,i,k,by omega,by rw [h1 i (by omega)];exact b,c,by omega,by rw [h1 k (by omega)];exact f,λhh=> ?_⟩
  rcases q (by omega) with q | ⟨q1,q2⟩
  ·exact .inl q
  ·exact .inr ⟨by omega,by rw [h1 _ (by omega)];exact q2⟩
 | read first x=>
  obtain ⟨e,i,a,b,c,d⟩:=h
  exact ⟨e.mono gi hg bq,i,by omega,by omega,by rw [h1 i (by omega)];exact c,by rw [h1 _ (by omega)];exact d⟩
 | take first y=>
  obtain ⟨e,i,a,b,c,d⟩:=h
  exact ⟨e.mono gi hg bq,i,by omega,by omega,by rw [h1 i (by omega)];exact c,λhh=>by rw [sP hg (by omega)];exact d (by omega)⟩
 | ag=>exact ⟨h.1.mono gi hg bq,h.2.1,λe=>by rw [hg.Xe t bq];exact h.2.2 e⟩
 | cO=>exact ⟨h.1.mono gi hg bq,by rw [hg.Xe t bq];exact h.2⟩
 | b8=>exact ⟨h.1.mono hg bq,h.2.1,h.2.2.1,λe=>iV hg bq (h.2.2.2 e)⟩
 | result=>exact ⟨h.1.mono hg bq,h.2.1,iV hg bq h.2.2⟩
 | sub s f=>
  cases s with
  | hp tk u ph s=>
   cases f with
   | cM=>
    obtain ⟨e1,e2,e3,e4,e5⟩:=h
    exact ⟨by rw [hg.A t bq];exact e1,e2.mono hg bq (.inl (quiet gi e1)),e3.mono hg bq (Q5 e1),e4,e5.mono hg gi⟩
   | b8=>
    obtain ⟨e1,e2,e3,e4,e5,e6⟩:=h
    exact ⟨e1.mono hg bq,e2,e3,λe=>iV hg bq (e4 e),e5,e6.mono hg gi⟩
   | aH=>exact h.elim
   | fin=>exact h.elim
  | fn fn=>
   cases fn with
   | tl x=>
    cases f with
    | aH=>exact ⟨h.1.mono gi hg bq,h.2.mono hg gi⟩
    | fin=>
     obtain ⟨e1,e2,e3,e4,i,i1,i2,i3⟩:=h
     exact ⟨e1,by rw [hg.A t bq];exact e2,e3,e4.mono hg gi,i,i1,by omega,by rw [hg.G i i2];exact i3⟩
    | cM=>exact h.elim
    | b8=>exact h.elim
   | hd x=>
    cases f with
    | aH=>exact ⟨h.1.mono gi hg bq,h.2.mono hg gi⟩
    | fin=>
     obtain ⟨e1,h⟩:=h
     refine ⟨e1,?_⟩
     rcases h with ⟨f1,f2,f3,i,i1,i2⟩ | ⟨f1,f2,f3⟩
     ·exact .inl ⟨by rw [hg.A t bq];exact f1,f2,f3.mono hg gi,i,by rw [(hg.T i i2.1).1];exact i1,i2.mono gi hg⟩
     ·refine .inr ⟨f1.mono hg bq,iV hg bq f2,?_⟩
      rcases f3 with ⟨q1,q2,q3⟩ | ⟨q1,i,i1,i2,i3⟩
      ·exact .inl ⟨q1,q2.mono hg bq (.inl f2),q3.mono hg gi⟩
      ·exact .inr ⟨q1,i,by rw [(hg.T i i2.1).1];exact i1,i2.mono gi hg,i3.mono hg gi⟩
    | cM=>exact h.elim
    | b8=>exact h.elim
end
section
variable {P:cv} {V:Nat->Nat->Nat} {kd:Nat->Nat->Bool} {pos:Nat->Nat} {g g':Gh} {M M':Mm} {me t:Nat} {o:Op}
theorem HJ.XT {s:Os} (h:HJ P V pos g M t o s):g.A t=none∨AN g t o:=by
 cases s with
 | check=>exact .inl h.1
 | mark=>exact .inl h.1
 | ia mk=>exact .inl h.1.A
 | value=>exact .inl h.1.A
 | next=>exact .inl h.1.A
 | ib=>exact .inl h.1.A
 | tail=>exact .inl h.A
 | behind last=>exact .inl h.1.A
 | put last=>exact .inl h.1.A
 | head=>exact .inl h.A
 | dX first=>exact .inl h.1.A
 | first first last=>exact .inl h.1.A
 | Jb6 first last w=>exact .inl h.1.A
 | read first x=>exact .inl h.1.A
 | take first y=>exact .inl h.1.A
 | ag=>exact .inl (h.1.elim (·.A) (·.A))
 | cO=>exact .inl (h.1.elim (·.A) (·.A))
 | b8=>exact .inr h.1
 | result=>exact .inr h.1
 | sub s f=>
  cases s with
  | hp tk u ph s=>
   cases f with
   | cM=>exact .inl h.1
   | b8=>exact .inr h.1
   | aH=>exact h.elim
   | fin=>exact h.elim
  | fn fn=>
   cases fn with
   | tl x=>
    cases f with
    | aH=>exact .inl (h.1.elim (·.A) (·.A))
    | fin=>exact .inl h.2.1
    | cM=>exact h.elim
    | b8=>exact h.elim
   | hd x=>
    cases f with
    | aH=>exact .inl (h.1.elim (·.A) (·.A))
    | fin=>exact h.2.elim (λh=> .inl h.1) (λh=> .inr h.1)
    | cM=>exact h.elim
    | b8=>exact h.elim
theorem sR (ha:g.A t=none∨AN g t o): ∀ a,g.A t=some a->a.take=o.take:=λa h=>by
 rcases ha with ha | ⟨b,h1,_,h2,_⟩
 ·rw [ha] at h;cases h
 ·rw [h1] at h;cases h;exact h2
theorem OI.bB (gi:GI P V pos g M) (hg:dy P pos me g M g' M') (bq:t≠me) (ht:t<P.n) (ha:g.A t=none∨AN g t o) (h1:o.take=kd t (pos t)) (h2:o.take=false->o.v=V t (pos t)) (h3:o.take=true->o.ref=0∧fF g t (pos t)) (h4:o.take=false->ez g t (pos t))
  (hs:HJ P V pos g' M' t o o.st):OI P V kd pos g' M' t o:=by
 have bf:=sR ha
 refine ⟨h1,h2,λe=>⟨(h3 e).1,(h3 e).2.mono hg bq λa h=>(bf a h).trans e⟩,λe=>(h4 e).mono hg bq ?_,hs⟩
 cases hA:g.A t with
 | none=>exact .inl (quiet gi hA)
 | some a=>exact .inr (by rw [((gi.ds t ht).ph a hA).2.1,bf a hA,e])
theorem OI.mono (gi:GI P V pos g M) (hg:dy P pos me g M g' M') (bq:t≠me) (ht:t<P.n) (h:OI P V kd pos g M t o):OI P V kd pos g' M' t o:=
 OI.bB gi hg bq ht h.st.XT h.kd h.v h.put h.get (h.st.mono gi hg bq)
theorem UQ.slow (h:UQ P V pos g M t o) (o':Op) (h1:o'.take=o.take) (h2:o'.ref=o.ref) (h3:o'.err=o.err):UQ P V pos g M t o':=
 h.imp (λh=>⟨h.A,by rw [h2];exact h.rF,by rw [h3];exact h.err,h.put,by rw [h1];exact h.kd⟩) (λh=>⟨h.A,h.no,by rw [h3];exact h.err,by rw [h1];exact h.kd⟩)
theorem iW (gi:GI P V pos g M) (ht:t<P.n) (h1:o.take=kd t (pos t)) (h2:o.take=false->o.v=V t (pos t)) (h3:o.take=true->o.ref=0∧fF g t (pos t)) (h4:o.take=false->ez g t (pos t)) (h:UQ P V pos g M t o):
  OI P V kd pos g M t (o.aH P):=by
 unfold Op.aH
 split
 ·exact ⟨h1,h2,h3,h4,h.slow _ rfl rfl rfl,gi.nP.1,λe=>absurd e (Nat.not_lt_zero _)⟩
 ·refine ⟨h1,h2,h3,h4,?_⟩
  rcases h with h | h
  ·have e:(if o.take=true then Os.head else Os.tail)=Os.tail:=if_neg (by simp [h.kd])
   show HJ P V pos g M t { o with tries:=o.tries+1,st:=if o.take=true then Os.head else Os.tail } (if o.take=true then Os.head else Os.tail)
   rw [e]
   exact ⟨h.A,h.rF,h.err,h.put,h.kd⟩
  ·have e:(if o.take=true then Os.head else Os.tail)=Os.head:=if_pos h.kd
   show HJ P V pos g M t { o with tries:=o.tries+1,st:=if o.take=true then Os.head else Os.tail } (if o.take=true then Os.head else Os.tail)
   rw [e]
   exact ⟨h.A,h.no,h.err,h.kd⟩
theorem C3 (gi:GI P V pos g M) (hk:1<=P.k) (ht:t<P.n) (h1:o.take=kd t (pos t)) (h2:o.take=false->o.v=V t (pos t)) (h3:o.take=true->o.ref=0∧fF g t (pos t)) (h4:o.take=false->ez g t (pos t))
  (hA:g.A t=none) (hT:ez g t (pos t)) (hP:fF g t (pos t)) (he:o.err=0):OI P V kd pos g M t (o.cM P):=by
 unfold Op.cM
 by_cases hq:o.take=true
 ·rw [if_pos hq]
  exact iW gi ht h1 h2 h3 h4 (.inr ⟨hA,hT,he,hq⟩)
 ·rw [if_neg hq]
  exact ⟨h1,h2,h3,h4,hA,hP,hk,he,by simpa using hq⟩
theorem u6 (gi:GI P V pos g M) (ht:t<P.n) (h1:o.take=kd t (pos t)) (h2:o.take=false->o.v=V t (pos t)) (h3:o.take=true->o.ref=0∧fF g t (pos t)) (h4:o.take=false->ez g t (pos t))
  (ha:AN g t o) (he:o.err=0) (hi:o.i<P.n) (hd:t<=o.i->(M.ds t).bN=false):
  match (o.cD P).2 with
  | false=>OI P V kd pos g M t (o.cD P).1
  | true=>EI V kd pos g M t (o.cD P).1:=by
 unfold Op.cD
 by_cases hn:o.i+1<P.n
 ·simp only [if_pos hn]
  exact ⟨h1,h2,h3,h4,ha,he,hn,λe=>hd (by have:t<o.i+1:=e;omega)⟩
 ·simp only [if_neg hn]
  have hd:=hd (by omega)
  by_cases hq:o.take=true
  ·simp only [if_pos hq]
   exact ⟨h1,h2,h3,h4,ha,hq,hd⟩
  ·simp only [if_neg hq]
   replace hq:o.take=false:=by simpa using hq
   obtain ⟨a,Mg,Ee,Yn,ha4⟩:=ha
   have d:=gi.ds t ht
   have Qn:=h4 hq
   obtain ⟨i,i1,i2,i3,i4⟩:=d.putDone a Mg (Yn.trans hq) hd
   refine ⟨h1,hd,λk hk hO=>absurd hO (Qn k hk),?_⟩
   show eO V g t (pos t) o.take o.err o.val
   rw [hq]
   exact ⟨Qn,.inl ⟨he,i,i1,i2,i4⟩⟩
def Stepped (P:cv) (V:Nat->Nat->Nat) (kd:Nat->Nat->Bool) (pos:Nat->Nat) (g:Gh) (M:Mm) (t:Nat) (r:Mm×Op×Bool):Prop:=
 ∃ g',GI P V pos g' r.1∧dy P pos t g M g' r.1∧match r.2.2 with
  | false=>OI P V kd pos g' r.1 t r.2.1
  | true=>EI V kd pos g' r.1 t r.2.1
theorem Stepped.stay {r:Op×Bool} (gi:GI P V pos g M) (h:match r.2 with
  | false=>OI P V kd pos g M t r.1
  | true=>EI V kd pos g M t r.1):Stepped P V kd pos g M t (M,r.1,r.2):=⟨g,gi,dy.refl,h⟩
theorem Stepped.go {o':Op} (gi:GI P V pos g M) (h:OI P V kd pos g M t o'):Stepped P V kd pos g M t (M,o',false):=⟨g,gi,dy.refl,h⟩
theorem ES (hP:P.n<=16) (hk:P.k<=32) (ht:t<P.n) {i:Nat} (hi:i<P.k) (v:Nat):aO (kU (2+t*P.k+i) v)=2+t*P.k+i∧bH (kU (2+t*P.k+i) v)=v∧P.own (kU (2+t*P.k+i) v)=some t:=by
 have h0:(t+1)*P.k<=P.n*P.k:=Nat.mul_le_mul_right _ ht
 have h1:P.n*P.k<=16*32:=Nat.mul_le_mul hP hk
 rw [Nat.add_mul,Nat.one_mul] at h0
 have e1:aO (kU (2+t*P.k+i) v)=2+t*P.k+i:=by unfold aO kU;omega
 refine ⟨e1,by unfold bH kU;omega,?_⟩
 unfold cv.own
 rw [e1,if_pos ⟨by omega,by omega⟩]
 have:2+t*P.k+i-2=P.k*t+i:=by rw [Nat.mul_comm];omega
 rw [this,Nat.mul_add_div (by omega),Nat.div_eq_of_lt hi]
 rfl
theorem sS (gi:GI P V pos g M) {r:Nat} (h:M.mr (aO r)=2*bH r+1) (hout: ∀ i,i<=g.m->g.L i≠r): ∀ i,g.h<=i->i<=g.m->aO (g.L i)≠aO r:=λi hi Ef he=>by
 have:=gi.mr i hi Ef
 rw [he,h] at this
 exact hout i Ef (kF he (by omega))
theorem Ps (gi:GI P V pos g M) {r:Nat} (h:M.mr (aO r)=2*bH r+1) (hout: ∀ i,i<=g.m->g.L i≠r): ∀ i,i<=g.m->aO (g.L i)=aO r->bH (g.L i)<bH r:=λi Ef he=>by
 have:=gi.old i Ef
 rw [he,h] at this
 have:bH (g.L i)≠bH r:=λe=>hout i Ef (kF he e)
 omega
theorem jO (gi:GI P V pos g M) (hk:1<=P.k∧P.k<=32) (ht:t<P.n) (h:OI P V kd pos g M t o) (hs:(match o.st with
  | .check | .mark | .ia _ | .value | .next | .ib=>True
  | _=>False)):Stepped P V kd pos g M t (aj P M t o):=by
 obtain ⟨h1,h2,h3,h4,h5⟩:=h
 unfold aj
 cases eF:o.st<;>rw [eF] at h5 hs<;>simp only<;>(try exact hs.elim)
 ·obtain ⟨a,b,c,d,e⟩:=h5
  by_cases hp:(M.ds o.i).bN=true
  ·rw [if_pos hp]
   exact .go gi ⟨h1,h2,h3,h4,a,b,c,e,d,Nat.le_refl _,λ_=>rfl,trivial,trivial⟩
  ·rw [if_neg hp]
   exact .go gi (C3 gi hk.1 ht h1 h2 h3 h4 a b c e)
 ·obtain ⟨a,b,c,d,e⟩:=h5
  have hq:=ES gi.nP.2 hk.2 ht c (M.mr (2+t*P.k+o.i)/2+1)
  by_cases cW:M.mr (2+t*P.k+o.i)%2=0
  ·rw [if_pos cW]
   refine .go gi ⟨h1,h2,(λe'=>by rw [show o.take=true from e'] at e;cases e),h4,⟨a,hq.2.2,d,b,e,λi hi he=> ?_⟩,by rw [hq.1],cW,hq.2.1⟩
   have:=gi.old i hi
   rw [show g.L i=_ from he,hq.1,hq.2.1] at this
   omega
  ·rw [if_neg cW]
   by_cases hl:o.i+1=P.k
   ·rw [if_pos hl]
    have Qn:=h4 e
    refine ⟨g,gi,dy.refl,h1,quiet gi a,λk hk hO=>absurd hO (Qn k hk),?_⟩
    show eO V g t (pos t) o.take 6 o.val
    rw [e]
    exact ⟨Qn,.inr ⟨rfl,b⟩⟩
   ·rw [if_neg hl]
    exact .go gi ⟨h1,h2,h3,h4,a,b,by show o.i+1<P.k;omega,d,e⟩
 ·rename_i mk
  obtain ⟨a,b,c,d⟩:=h5
  have AU:mk+3=2*bH o.ref+1:=by omega
  have D8: ∀ i,g.h<=i->i<=g.m->aO (g.L i)≠aO o.ref:=λi hi Ef he=>by
   have:=gi.mr i hi Ef
   rw [he,b] at this;omega
  have hd:=mW (M':={ M with mr:=Jb2 M.mr (aO o.ref) (mk+3) }) gi ht a.A a.own D8 (λp hp=>aJ hp) (λ_ _=>rfl) (λ_ _=>rfl) (λ_ _=>rfl) rfl rfl rfl
   (by show _<=Jb2 M.mr _ _ _;rw [aM];omega) (λi hi he=>he▸gi.nx i hi) (λi hi he=>he▸gi.tk i hi)
  exact ⟨g,hd.1,hd.2,h1,h2,h3,h4,⟨a.A,a.own,a.err,a.put,a.kd,a.out⟩,by show Jb2 M.mr _ _ _=_;rw [aM];exact AU⟩
 ·obtain ⟨a,b⟩:=h5
  have D8:=sS gi b a.out
  have hd:=mW (M':={ M with vl:=Jb2 M.vl (aO o.ref) (bH o.ref,o.v) }) gi ht a.A a.own D8 (λ_ _=>rfl) (λp hp=>aJ hp) (λ_ _=>rfl) (λ_ _=>rfl) rfl rfl rfl
   (Nat.le_refl _) (λi hi he=>he▸gi.nx i hi) (λi hi he=>he▸gi.tk i hi)
  exact ⟨g,hd.1,hd.2,h1,h2,h3,h4,⟨a.A,a.own,a.err,a.put,a.kd,a.out⟩,b,by show Jb2 M.vl _ _ _=_;rw [aM,h2 a.kd]⟩
 ·obtain ⟨a,b,c⟩:=h5
  have D8:=sS gi b a.out
  have hol:=Ps gi b a.out
  have bf:Jb2 M.nx (aO o.ref) (bH o.ref,0) (aO o.ref)=(bH o.ref,0):=aM
  have hd:=mW (M':={ M with nx:=Jb2 M.nx (aO o.ref) (bH o.ref,0) }) gi ht a.A a.own D8 (λ_ _=>rfl) (λ_ _=>rfl) (λp hp=>aJ hp) (λ_ _=>rfl) rfl rfl rfl
   (Nat.le_refl _) (λi hi he=>by
    have:=hol i hi he
    show _<=(Jb2 M.nx _ _ _).1∧((Jb2 M.nx _ _ _).1=_->_)
    rw [bf];exact ⟨by show _<=bH o.ref;omega,λe=>by have:bH o.ref=_:=e;omega⟩) (λi hi he=>he▸gi.tk i hi)
  exact ⟨g,hd.1,hd.2,h1,h2,h3,h4,⟨a.A,a.own,a.err,a.put,a.kd,a.out⟩,b,c,bf⟩
 ·obtain ⟨a,b,c,d⟩:=h5
  have D8:=sS gi b a.out
  have hol:=Ps gi b a.out
  have bf:Jb2 M.tk (aO o.ref) (bH o.ref,0) (aO o.ref)=(bH o.ref,0):=aM
  have hd:=mW (M':={ M with tk:=Jb2 M.tk (aO o.ref) (bH o.ref,0) }) gi ht a.A a.own D8 (λ_ _=>rfl) (λ_ _=>rfl) (λ_ _=>rfl) (λp hp=>aJ hp) rfl rfl rfl
   (Nat.le_refl _) (λi hi he=>he▸gi.nx i hi) (λi hi he=>by
    have:=hol i hi he
    show _<=(Jb2 M.tk _ _ _).1∧((Jb2 M.tk _ _ _).1=_->_)
    rw [bf];exact ⟨by show _<=bH o.ref;omega,λe=>by have:bH o.ref=_:=e;omega⟩)
  exact ⟨g,hd.1,hd.2,iW hd.1 ht h1 h2 h3 h4 (.inl ⟨a.A,⟨a.own,a.own,a.out,b,c,d,bf⟩,a.err,a.put,a.kd⟩)⟩
theorem gw (gi:GI P V pos g M) (ht:t<P.n) (h:OI P V kd pos g M t o) (hs:(match o.st with
  | .tail | .behind _ | .put _ | .head | .dX _ | .first _ _ | .Jb6 _ _ _ | .read _ _ | .take _ _=>True
  | _=>False)):Stepped P V kd pos g M t (aj P M t o):=by
 obtain ⟨h1,h2,h3,h4,h5⟩:=h
 have g1:=gi.ht;have g3:=gi.tm
 unfold aj
 cases eF:o.st<;>rw [eF] at h5 hs<;>simp only<;>(try exact hs.elim)
 ·exact .go gi ⟨h1,h2,h3,h4,⟨h5.A,h5.rF,h5.err,h5.put,h5.kd⟩,g.t,Nat.le_refl _,gi.tl.symm⟩
 ·rename_i last
  obtain ⟨a,i,b,c⟩:=h5
  refine ⟨g,gi,dy.refl,?_⟩
  simp only
  by_cases hv:(M.nx (aO last)).1=bH last
  ·rw [if_pos hv]
   by_cases h0:(M.nx (aO last)).2=0
   ·rw [if_neg (λh=>h h0)]
    exact ⟨h1,h2,h3,h4,⟨a.A,a.rF,a.err,a.put,a.kd⟩,i,b,c⟩
   ·rw [if_pos h0]
    exact ⟨h1,h2,h3,h4,.inl ⟨a.A,a.rF,a.err,a.put,a.kd⟩,λk hk=>by cases hk⟩
  ·rw [if_neg hv]
   exact iW gi ht h1 h2 h3 h4 (.inl a)
 ·rename_i last
  obtain ⟨a,i,b,c⟩:=h5
  by_cases hc:M.nx (aO last)=(bH last,0)
  ·rw [if_pos hc]
   subst c
   have hl:=link (me:=t) gi ht b hc (.inl ⟨rfl,a.A⟩) a.rF.2 a.put
   have Qn:=h4 a.kd
   exact ⟨_,hl.2.1,hl.2.2,h1,h2,λe=>(by rw [show o.take=true from e] at h2;exact absurd (e.symm.trans a.kd) (by simp)),h4,a.kd,a.A,a.err,λk hk=>(by cases hk),g.m+1,by omega,Nat.le_refl _,aM⟩
  ·rw [if_neg hc]
   exact .go gi ⟨h1,h2,h3,h4,.inl ⟨a.A,a.rF,a.err,a.put,a.kd⟩,λk hk=>by cases hk⟩
 ·exact .go gi ⟨h1,h2,h3,h4,⟨h5.A,h5.no,h5.err,h5.kd⟩,g.h,Nat.le_refl _,gi.hd.symm⟩
 ·obtain ⟨a,i,b,c⟩:=h5
  exact .go gi ⟨h1,h2,h3,h4,⟨a.A,a.no,a.err,a.kd⟩,i,g.t,b,c,by omega,Nat.le_refl _,gi.tl.symm⟩
 ·rename_i first last
  obtain ⟨a,i,k,b,c,d,e,f⟩:=h5
  refine .go gi ⟨h1,h2,h3,h4,⟨a.A,a.no,a.err,a.kd⟩,i,k,b,c,d,e,f,λhh=> ?_⟩
  subst c
  have hv:=gi.nxh i (by omega) (by omega)
  by_cases h0:(M.nx (aO (g.L i))).2=0
  ·exact .inl h0
  ·exact .inr (next_ne gi (by omega) hv h0)
 ·rename_i first last w
  obtain ⟨a,i,k,b,c,d,e,f,q⟩:=h5
  by_cases hh:M.head=first
  ·rw [if_pos hh]
   have xv:g.h=i:=gi.dup g.h i (by omega) (by omega) (by rw [<- gi.hd,hh,c])
   by_cases h0:w.2=0
   ·rw [if_pos h0]
    refine ⟨g,gi,dy.refl,h1,quiet gi a.A,λk hk hO=>absurd hO (a.no k hk),?_⟩
    show eO V g t (pos t) o.take 7 o.val
    rw [a.kd]
    exact ⟨(h3 a.kd).2,.inr ⟨rfl,a.no⟩⟩
   ·rw [if_neg h0]
    have q:=(q xv).resolve_left h0
    by_cases hl:first=last
    ·rw [if_pos hl]
     exact .go gi ⟨h1,h2,h3,h4,.inr ⟨a.A,a.no,a.err,a.kd⟩,λk hk=>by cases hk⟩
    ·rw [if_neg hl]
     have XD:i≠k:=λe'=>hl (by rw [<- c,<- f,e'])
     exact .go gi ⟨h1,h2,h3,h4,⟨a.A,a.no,a.err,a.kd⟩,i,b,by omega,c,q.2⟩
  ·rw [if_neg hh]
   exact .go gi (iW gi ht h1 h2 h3 h4 (.inr a))
 ·obtain ⟨a,i,b,c,d,e⟩:=h5
  refine .go gi ⟨h1,h2,h3,h4,⟨a.A,a.no,a.err,a.kd⟩,i,b,c,d,λhh=> ?_⟩
  rw [<- e,gi.vl (i+1) (by omega) (by omega)]
 ·rename_i first y
  obtain ⟨a,i,b,c,d,e⟩:=h5
  subst d
  by_cases hc:M.tk (aO (g.L i))=(bH (g.L i),0)
  ·rw [if_pos hc]
   have hl:=qt (me:=t) (z:=t+33) gi ht b c hc (.inl ⟨rfl,a.A,a.no,rfl⟩)
   refine ⟨_,hl.2.2.1,hl.2.2.2,h1,h2,h3,λe'=>(absurd (e'.symm.trans a.kd) (by simp)),a.kd,.inl ⟨a.A,a.err,λk hk=>(by cases hk),i,aM,?_,aM,?_⟩⟩
   ·show Jb2 g.T i (t+33) i≠0
    rw [aM];omega
   ·exact e hl.1.symm
  ·rw [if_neg hc]
   exact .go gi ⟨h1,h2,h3,h4,.inr ⟨a.A,a.no,a.err,a.kd⟩,λk hk=>by cases hk⟩
end
end Qk
end Go.Proofs.YtpkfimijnkkbjaaGreat
