/- What the reckoner finds of a function holds in any memory, whatever order the regions draw. -/
import Derived.Test.YtpkfimijnkkbjaaGreatJ05
import Derived.Test.YtpkfimijnkkbjaaGreatProg
import Derived.KernelRfl
set_option linter.unusedVariables false
namespace Go.Proofs.YtpkfimijnkkbjaaGreat
namespace Ev
section
variable {P:Program} {ops:Array Oper} {nt:Nat}
theorem filter_set': ∀ (l:List Bool) (i:Nat),l[i]?=some false->((l.set i true).filter (! ·)).length+1=(l.filter (! ·)).length:=by
 intro l
 induction l with
 | nil=>intro i h;simp at h
 | cons b l ihl=>
  intro i h
  cases i with
  | zero=>simp at h;subst h;simp
  | succ i=>
   have:=ihl i (by simpa using h)
   cases b<;>simp at this ⊢ <;>omega
theorem filter_less' {L:Array Bool} {i rM:Nat} (dA:i<L.size) (WI:L.getD i false=false) (hf:(L.toList.filter (! ·)).length<=rM+1):((L.setIfInBounds i true).toList.filter (! ·)).length<=rM:=by
 have h1:L.toList[i]?=some false:=by
  rw [Array.getElem?_toList,Array.getElem?_eq_getElem dA]
  simp [dA] at WI
  simp [WI]
 have:=filter_set' L.toList i h1
 rw [Array.toList_setIfInBounds]
 omega
theorem get_set' {L:Array Bool} {i:Nat} (dA:i<L.size) (j:Nat):(L.setIfInBounds i true).getD j false=true↔(L.getD j false=true∨j=i):=by
 by_cases S6:i=j
 ·subst S6;simp [dA]
 ·simp [Array.getElem?_setIfInBounds_ne S6]
  intro e;exact absurd e.symm S6
theorem mem_ready' {cX:Array Bool} {i:Nat}:i∈Region.ready .any ops cX↔i<ops.size∧cX.getD i true=false∧ ∃ r,ops[i]?=some r∧ ∀ e∈r.after,Region.binds .any e=true->cX.getD e.on false=true:=by
 unfold Region.ready
 rw [List.mem_filter,List.mem_range]
 constructor
 ·rintro ⟨h1,h2⟩
  simp only [Bool.and_eq_true,Bool.not_eq_true'] at h2
  refine ⟨h1,h2.1,?_⟩
  cases ho:ops[i]? with
  | none=>rw [ho] at h2;simp at h2
  | some r=>
   refine ⟨r,rfl,λe he hb=> ?_⟩
   rw [ho] at h2
   have h3:=h2.2
   simp only [Option.map_some,Option.getD_some] at h3
   have:=Array.all_eq_true_iff_forall_mem.1 h3 e he
   rw [hb] at this
   simpa using this
 ·rintro ⟨h1,h2,r,hr,h3⟩
  refine ⟨h1,?_⟩
  rw [h2,hr]
  simp only [Bool.not_false,Bool.true_and,Option.map_some,Option.getD_some]
  refine Array.all_eq_true_iff_forall_mem.2 λe he=> ?_
  cases hb:Region.binds .any e with
  | false=>simp
  | true=>simpa using h3 e he hb
section
variable {S:Nat->St} {E:Nat->Env} {V:Nat->AV} {R W:Nat->Nat->Prop} {n:Nat}
theorem MA (cN:yI P ops nt 0 n S E V R W) (hn:n=ops.size) (hb:rD ops) (kg: ∀ i j ri rj,i<j->ops[i]?=some ri->ops[j]?=some rj-> ¬ cw ops j i->(∀ d,ri.dst=some d->d ∉ ay ops rj)∧(∀ d,ri.dst=some d->rj.dst≠some d)∧(∀ d,rj.dst=some d->d ∉ ay ops ri)) {Q:Exit->Act->World->Prop} {φ0:bo} {w0:World} {a0:Act} (hp:(S n).pre) (hold: ∀ j,j<n-> ∀ b o,R j b->(S 0).get b=some o->b<(S 0).next∧o.aD (· < (S 0).next)) (rN:fc (· < (S 0).next) (E 0))
  (wa: ∀ (L:Nat->Prop) φ a w,(∀ j,j<n->L j)->Inv ops nt n S E V R W L φ0 w0 a0 φ a w->Q .normal a w):
  ∀ (rM:Nat) (cX:Array Bool) (φ:bo) (a:Act) (w:World),cX.size=n->(cX.toList.filter (! ·)).length<=rM->
   (∀ j r,cX.getD j false=true->ops[j]?=some r-> ∀ e∈r.after,Region.binds .any e=true->cX.getD e.on false=true)->
   Inv ops nt n S E V R W (λk=>cX.getD k false=true) φ0 w0 a0 φ a w->wpAny P .any ops Q rM cX a w:=by
 have full: ∀ (cX:Array Bool),cX.size=n->Region.ready .any ops cX=[]-> ∀ j,j<n->cX.getD j false=true:=by
  intro cX hs hr j
  induction j using Nat.strongRecOn with
  | _ j ih=>
   intro hj
   cases hl:cX.getD j false with
   | true=>rfl
   | false=>
    exfalso
    obtain ⟨r,Ty,_⟩:=cN.step j (Nat.zero_le _) hj
    have:j∈Region.ready .any ops cX:=by
     refine mem_ready'.2 ⟨by omega,?_,r,Ty,λe he ui=>ih e.on (hb j r Ty e he ui) (Nat.lt_trans (hb j r Ty e he ui) hj)⟩
     have dA:j<cX.size:=by omega
     simp [dA] at hl ⊢
     exact hl
    rw [hr] at this;cases this
 intro rM
 induction rM with
 | zero=>
  intro cX φ a w hs hf jV I
  have cC: ∀ j,j<n->cX.getD j false=true:=by
   intro j hj
   have dA:j<cX.size:=by omega
   cases hl:cX.getD j false with
   | true=>rfl
   | false=>
    exfalso
    have hm:cX[j]∈cX.toList.filter (! ·):=by
     refine List.mem_filter.2 ⟨by simp,?_⟩
     simp [dA] at hl
     simp [hl]
    have:=List.length_pos_of_mem hm
    omega
  refine ⟨?_,wa _ φ a w cC I⟩
  apply List.eq_nil_iff_forall_not_mem.2
  intro i hi
  obtain ⟨h1,h2,_⟩:=mem_ready'.1 hi
  have:=cC i (by omega)
  have dA:i<cX.size:=by omega
  simp [dA] at h2 this
  rw [h2] at this;cases this
 | succ rM ih=>
  intro cX φ a w hs hf jV I
  refine ⟨λhr=>wa _ φ a w (full cX hs hr) I,λi hi=> ?_⟩
  obtain ⟨h1,h2,r,hr,h3⟩:=mem_ready'.1 hi
  have dA:i<cX.size:=by omega
  have cF:i<n:=by omega
  have oF: ¬ cX.getD i false=true:=by simp [dA] at h2 ⊢;exact h2
  have D1:sG ops (λk=>cX.getD k false=true):=λj r hl hr=>jV j r hl hr
  have hc: ∀ i k,cX.getD i false=true->cw ops i k->cX.getD k false=true:=λi k hl h=>D1.before hb i k hl h
  have aQ: ∀ k,cw ops i k->cX.getD k false=true:=λk h=>D1.ready hb hr h3 h
  obtain ⟨r',qN,st⟩:=cN.step i (Nat.zero_le _) cF
  have Ty:r'=r:=by rw [hr] at qN;cases qN;rfl
  subst Ty
  have bn:=CS cN hb kg hp (λj hj b o nD hg=>(hold j hj b o nD hg).2) rN
  have K5:l9 (S i) (R i):=by
   intro b o nD hg
   rcases vS cN i (by omega) hg with h | ⟨k,hk,DY,h⟩
   ·have:=hold i cF b o nD h
    have n0:=eU cN 0 i (Nat.zero_le _) (by omega)
    exact ⟨Nat.lt_of_lt_of_le this.1 n0,this.2.mono λx hx=>Nat.lt_of_lt_of_le hx n0⟩
   ·have nk:=eU cN (k+1) i (by omega) (by omega)
    refine ⟨?_,((bn k (by omega)).2 b o DY h).mono λx hx=>Nat.lt_of_lt_of_le (Po cN hb (by omega) x hx) nk⟩
    have: ∀ k,k<i->W k b->b<(S (k+1)).next∨(S 0).get b≠none:=by
     intro k
     induction k using Nat.strongRecOn with
     | _ k ihk=>
      intro WR hw
      obtain ⟨rk,_,WM⟩:=cN.step k (Nat.zero_le _) (by omega)
      cases Ml:(S k).get b with
      | none=>exact .inl (WM.lt b hw Ml)
      | some y=>
       rcases vS cN k (by omega) Ml with h0 | ⟨m,hm,hwm,_⟩
       ·exact .inr (by rw [h0];simp)
       ·rcases ihk m hm (by omega) hwm with h' | h'
        ·exact .inl (Nat.lt_of_lt_of_le h' (eU cN (m+1) (k+1) (by omega) (by omega)))
        ·exact .inr h'
    rcases this k hk DY with h' | h'
    ·exact Nat.lt_of_lt_of_le h' nk
    ·obtain ⟨y,hy⟩:=aZ h'
     exact Nat.lt_of_lt_of_le (hold i cF b y nD hy).1 (eU cN 0 i (Nat.zero_le _) (by omega))
  have hSA:gQ (· < (S i).next) (E i) ops r':=by
   intro t ht u hu
   rcases yJ cN i (by omega) hu with h | ⟨k,hk,_,rfl⟩
   ·exact (rN t u h).mono λx hx=>Nat.lt_of_lt_of_le hx (eU cN 0 i (Nat.zero_le _) (by omega))
   ·exact (bn k (by omega)).1.mono λx hx=>Nat.lt_of_lt_of_le (Po cN hb (by omega) x hx) (eU cN (k+1) i (by omega) (by omega))
  have Vv:Seen φ (E i) ops r' a.tmps:=by
   intro t ht u hu
   have:=T5 cN hn kg hc hr cF oF aQ ht
   rw [hu] at this
   exact I.fR t u this
  refine st.nX φ w a _ Q (CR cN (i+1) (by omega) hp) (yL cN hc cF oF aQ I) K5 hSA Vv λφ' w' hm=> ?_
  have I':=GJ cN hn hb kg hp hold rN hc hr cF oF aQ I hm
  have hL:(sI (λk=>cX.getD k false=true) i)=(λk=>(cX.setIfInBounds i true).getD k false=true):=by
   funext k
   exact propext (get_set' dA k).symm
  rw [hL] at I'
  refine ih _ φ' _ w' (by simp [hs]) (filter_less' dA (by simpa using oF) hf) ?_ I'
  intro j q hl hq e he ui
  rw [get_set' dA] at hl ⊢
  rcases hl with hl | rfl
  ·exact .inl (jV j q hl hq e he ui)
  ·rw [hr] at hq;cases hq
   exact .inl (h3 e he ui)
theorem cf.heap {φ:bo} {b:Nat} {o:ak} {w w':World} (h:cf φ b o w) (hw:w'.heap=w.heap):cf φ b o w':=by
 rcases o with ⟨_,l,t,_ | _ | sz⟩ | ⟨l⟩
 ·unfold cf at h ⊢;rw [hw];exact h
 ·unfold cf at h ⊢;rw [hw];exact h
 ·unfold cf at h ⊢;rw [hw];exact h
 ·unfold cf xP at h ⊢;rw [hw];exact h
theorem vT {L:Nat->Prop} (cN:yI P ops nt 0 n S E V R W) (hL: ∀ j,j<n->L j) (b:Nat): ∀ k,k<=n->CB S W L b k ((S k).get b):=by
 intro k
 induction k with
 | zero=>exact λ_=>rfl
 | succ k ih=>
  intro hk
  by_cases hw:W k b
  ·exact .inl ⟨hL k (by omega),hw,rfl⟩
  ·right
   obtain ⟨r,_,st⟩:=cN.step k (Nat.zero_le _) (by omega)
   rw [st.same b hw]
   exact ⟨λh=>hw h.2,ih (by omega)⟩
theorem QQ {L:Nat->Prop} (cN:yI P ops nt 0 n S E V R W) (hL: ∀ j,j<n->L j) (t:Nat): ∀ k,k<=n->SB ops E V L t k ((E k).look t):=by
 intro k
 induction k with
 | zero=>exact λ_=>rfl
 | succ k ih=>
  intro hk
  obtain ⟨r,hr,st⟩:=cN.step k (Nat.zero_le _) (by omega)
  have cY:=st.put
  by_cases hd:r.dst=some t
  ·left
   refine ⟨hL k (by omega),⟨r,hr,hd⟩,?_⟩
   rw [hd] at cY
   simp only [jE] at cY
   split at cY
   ·injection cY with cY;rw [<- cY,hJ,if_pos rfl]
   ·cases cY
  ·right
   refine ⟨λ⟨_,q,hq,D7⟩=>hd (by rw [hr] at hq;cases hq;exact D7),?_⟩
   have:(E (k+1)).look t=(E k).look t:=by
    cases hdd:r.dst with
    | none=>rw [hdd] at cY;simp [jE] at cY;rw [<- cY]
    | some d=>
     rw [hdd] at cY
     simp only [jE] at cY
     split at cY
     ·injection cY with cY
      rw [<- cY,hJ,if_neg (λe=>hd (by rw [hdd,e]))]
     ·cases cY
   rw [this]
   exact ih (by omega)
theorem MB (cN:yI P ops nt 0 n S E V R W) {rd wr:Nat} (Am: ∀ k,k<n-> ∀ b,(R k b->rd.testBit b=true)∧(W k b->wr.testBit b=true)):
  ∀ k,k<=n->Sp ⟨(S 0).heap,(S 0).next,rd,wr,(S 0).pre,(S 0).AG⟩ ⟨(S k).heap,(S k).next,rd,wr,(S k).pre,(S k).AG⟩ (λb=> ∃ j,j<k∧R j b) (λb=> ∃ j,j<k∧W j b)∧
   nG ⟨(S 0).heap,(S 0).next,rd,wr,(S 0).pre,(S 0).AG⟩ ⟨(S k).heap,(S k).next,rd,wr,(S k).pre,(S k).AG⟩ (λb=> ∃ j,j<k∧R j b) (λb=> ∃ j,j<k∧W j b) (λD=>fc D (E 0)) (λD=>fc D (E k)):=by
 intro k
 induction k with
 | zero=>
  intro _
  have e1:(λb=> ∃ j,j<0∧R j b)=λ_=>False:=by funext b;simp
  have e2:(λb=> ∃ j,j<0∧W j b)=λ_=>False:=by funext b;simp
  rw [e1,e2]
  exact ⟨(bC.refl _).sp,(bC.refl _).ids λD _ h _=>h⟩
 | succ k ih=>
  intro hk
  obtain ⟨xw,id1⟩:=ih (by omega)
  obtain ⟨r,hr,st⟩:=cN.step k (Nat.zero_le _) (by omega)
  have Pa:Sp ⟨(S k).heap,(S k).next,rd,wr,(S k).pre,(S k).AG⟩ ⟨(S (k+1)).heap,(S (k+1)).next,rd,wr,(S (k+1)).pre,(S (k+1)).AG⟩ (R k) (W k):=
   { next:=st.next,same:=st.same,sub:=st.sub,rd:=λb hb=>(Am k (by omega) b).1 hb,wr:=λb hb=>(Am k (by omega) b).2 hb,rdm:=λ_ h=>h,wrm:=λ_ h=>h,lt:=st.lt,made:=st.made,born:=st.born,pre:=st.pre }
  have TQ:nG ⟨(S k).heap,(S k).next,rd,wr,(S k).pre,(S k).AG⟩ ⟨(S (k+1)).heap,(S (k+1)).next,rd,wr,(S (k+1)).pre,(S (k+1)).AG⟩ (R k) (W k) (λD=>fc D (E k)) (λD=>fc D (E (k+1))):=by
   intro D hp hD cF hR
   have:=st.ids D hp hD (λt _ u hu=>cF t u hu) hR
   exact ⟨kE st.put this.1 cF,this.2⟩
  have e1:(λb=> ∃ j,j<k+1∧R j b)=λb=>(∃ j,j<k∧R j b)∨R k b:=by
   funext b
   refine propext ⟨λ⟨j,hj,h⟩=> ?_,λh=> ?_⟩
   ·by_cases hjk:j=k
    ·exact .inr (hjk▸h)
    ·exact .inl ⟨j,by omega,h⟩
   ·rcases h with ⟨j,hj,h⟩ | h
    ·exact ⟨j,by omega,h⟩
    ·exact ⟨k,by omega,h⟩
  have e2:(λb=> ∃ j,j<k+1∧W j b)=λb=>(∃ j,j<k∧W j b)∨W k b:=by
   funext b
   refine propext ⟨λ⟨j,hj,h⟩=> ?_,λh=> ?_⟩
   ·by_cases hjk:j=k
    ·exact .inr (hjk▸h)
    ·exact .inl ⟨j,by omega,h⟩
   ·rcases h with ⟨j,hj,h⟩ | h
    ·exact ⟨j,by omega,h⟩
    ·exact ⟨k,by omega,h⟩
  rw [e1,e2]
  exact ⟨xw.trans Pa,nG.trans xw Pa id1 TQ⟩
end
theorem cj (lV:P.follows .mixedOrders=true):A5 P:=by
 intro call nt ops env cm s s' lN hc h
 unfold oH at h
 simp only at h
 split at h
 ·cases h
 rename_i hdr
 obtain ⟨hb,kg⟩:=Em hdr
 obtain ⟨h0,n0,r0,w0,p0,o0⟩:=s
 simp only at h
 split at h
 ·cases h
 rename_i cH h1 n1 r1 w1 p1 o1 cW
 simp only [dN] at h
 cases h
 obtain ⟨S,E,V,R,W,cN,hS,hE,SD,Vt,_,Am,_⟩:=oR (nt:=nt) (ops:=ops) lN hc ops.toList 0 env cm [] 0 0 _ _ cW (λk=>by simp) (λq hq=>by cases hq)
 simp only [Nat.zero_add,Array.length_toList] at cN SD Vt Am
 have l1: ∀ (x y b:Nat),(Nat.lor x y).testBit b=(x.testBit b||y.testBit b):=λx y b=>Nat.testBit_or x y b
 have cC:=MB cN (rd:=Nat.lor r0 r1) (wr:=Nat.lor w0 w1) (λk hk b=>⟨λh=>by rw [l1,(Am k (Nat.zero_le _) hk b).1 h];simp,λh=>by rw [l1,(Am k (Nat.zero_le _) hk b).2 h];simp⟩) ops.size (Nat.le_refl _)
 have g0: ∀ b,(S 0).get b=St.get ⟨h0,n0,r0,w0,p0,o0⟩ b:=λb=>by rw [hS];rfl
 have gn: ∀ b,(S ops.size).get b=St.get ⟨h1,n1,Nat.lor r0 r1,Nat.lor w0 w1,p1,o1⟩ b:=λb=>by rw [SD];rfl
 have nx0:(S 0).next=n0:=by rw [hS];rfl
 have nxn:(S ops.size).next=n1:=by rw [SD];rfl
 rw [hS,SD,hE,Vt] at cC
 obtain ⟨sp,ids⟩:=cC
 refine ⟨λb=> ∃ j,j<ops.size∧R j b,λb=> ∃ j,j<ops.size∧W j b,?_,ids,?_⟩
 ·exact { next:=sp.next,same:=sp.same,sub:=sp.sub,rd:=sp.rd,wr:=sp.wr,rdm:=λb hb=>by rw [l1,hb];rfl,wrm:=λb hb=>by rw [l1,hb];rfl,lt:=sp.lt,made:=sp.made,born:=sp.born,pre:=sp.pre }
 ·intro φ w a K hp fy he hf ho cF hK id Q hQ
  refine wp_region_any lV ?_
  have hpn:(S ops.size).pre:=by rw [SD];exact hp
  refine MA cN rfl hb kg (φ0:=φ) (w0:={ w with drawn:=w.drawn+1 }) (a0:=a) hpn ?_ ?_ ?_ ops.size (Array.replicate ops.size false) φ a _ (by simp) ?_ ?_ ?_
  ·intro j hj b o nD hg
   rw [nx0]
   exact ho b o ⟨j,hj,nD⟩ (by rw [<- g0];exact hg)
  ·rw [nx0,hE];exact cF
  ·intro L φ' a' w' hL I
   refine hQ a' w' (hK φ' w' a' ?_ I.size I.defers ?_)
   ·constructor
    ·intro i hi
     refine I.eH i λj hj _ ⟨x1,x2⟩=>hi ⟨?_,?_⟩
     ·show n0<=i
      have:=eU cN 0 j (Nat.zero_le _) (by omega)
      omega
     ·show i<n1
      have:=eU cN (j+1) ops.size (by omega) (Nat.le_refl _)
      omega
    ·intro b o hW hg
     obtain ⟨j,hj,hw⟩:=hW
     obtain ⟨r,_,st⟩:=cN.step j (Nat.zero_le _) hj
     refine I.holds b o ⟨j,hj,st.sub b hw⟩ ?_
     have:=vT cN hL b ops.size (Nat.le_refl _)
     rw [gn,hg] at this
     exact this
    ·intro b c ⟨j,hj,hw⟩ ⟨k,hk,Jc1⟩ ki gN ir
     obtain ⟨r,_,st⟩:=cN.step j (Nat.zero_le _) hj
     obtain ⟨r',_,FK⟩:=cN.step k (Nat.zero_le _) hk
     obtain ⟨x,hx⟩:=aZ ki
     obtain ⟨y,hy⟩:=aZ gN
     refine I.inj b c x y ⟨j,hj,st.sub b hw⟩ ⟨k,hk,FK.sub c Jc1⟩ ?_ ?_ ir
     ·have:=vT cN hL b ops.size (Nat.le_refl _)
      rw [gn,hx] at this;exact this
     ·have:=vT cN hL c ops.size (Nat.le_refl _)
      rw [gn,hy] at this;exact this
    ·intro b ⟨j,hj,hw⟩ ki
     obtain ⟨x,hx⟩:=aZ ki
     have nA:=vT cN hL b ops.size (Nat.le_refl _)
     rw [gn,hx] at nA
     rcases I.source b x ⟨j,hj,hL j hj,hw⟩ nA with h | ⟨c,⟨k,hk,_,DY⟩,gN,h⟩
     ·exact .inl h
     ·exact .inr ⟨c,⟨k,hk,DY⟩,by rw [<- g0];exact gN,h⟩
    ·intro k hk bq
     exact I.frame k hk λc ⟨j,hj,_,hw⟩ gN=>bq c ⟨j,hj,hw⟩ (by rw [<- g0];exact gN)
    ·exact I.grown
    ·exact ⟨I.kept.1,I.kept.2⟩
   ·intro t u hu
    have:=QQ cN hL t ops.size (Nat.le_refl _)
    rw [Vt,hu] at this
    exact I.fR t u this
  ·have:(Array.replicate ops.size false).toList.filter (! ·)=List.replicate ops.size false:=by simp
   rw [this];simp
  ·intro j r hl
   exfalso
   by_cases hj:j<ops.size
   ·simp [hj] at hl
   ·simp [hj] at hl
  ·have D0: ∀ k,¬ (Array.replicate ops.size false).getD k false=true:=by
    intro k hl
    by_cases hj:k<ops.size
    ·simp [hj] at hl
    ·simp [hj] at hl
   have Yr: ∀ (b:Nat) (k:Nat) (x:Option ak),CB S W (λk=>(Array.replicate ops.size false).getD k false=true) b k x->x=(S 0).get b:=by
    intro b k
    induction k with
    | zero=>exact λx h=>h
    | succ k ih=>
     intro x h
     rcases h with ⟨h1,_⟩ | ⟨_,h2⟩
     ·exact absurd h1 (D0 k)
     ·exact ih x h2
   have sb0: ∀ (t:Nat) (k:Nat) (x:Option AV),SB ops E V (λk=>(Array.replicate ops.size false).getD k false=true) t k x->x=(E 0).look t:=by
    intro t k
    induction k with
    | zero=>exact λx h=>h
    | succ k ih=>
     intro x h
     rcases h with ⟨h1,_⟩ | ⟨_,h2⟩
     ·exact absurd h1 (D0 k)
     ·exact ih x h2
   constructor
   ·intro b o hR nA
    have:=Yr b _ _ nA
    exact (hf.holds b o hR (by rw [<- g0];exact this.symm)).heap rfl
   ·intro b c x y nD Qa nA ni ir
    have e1:=Yr b _ _ nA
    have e2:=Yr c _ _ ni
    exact hf.inj b c nD Qa (by rw [<- g0,<- e1];simp) (by rw [<- g0,<- e2];simp) ir
   ·intro t u hs
    have:=sb0 t _ _ hs
    refine he t u ?_
    rw [hE] at this
    exact this.symm
   ·exact fy
   ·rfl
   ·intro i _;rfl
   ·intro b x ⟨j,_,hl,_⟩;exact absurd hl (D0 j)
   ·intro r _ _;rfl
   ·exact Nat.le_refl _
   ·exact ⟨rfl,rfl⟩
theorem sound (lN:gF P) (lV:P.follows .mixedOrders=true) {sm:kP} (ij:eu P sm) (d:Nat):iv P (aW P sm d):=Mz lN (cj lV) ij d
end
section
variable {P:Program}
variable {φ φ':bo} {o:ak} {w:World}
def bW (φ φ':bo):ak->ak->Prop
 | .row _ l t q,.row _ l' t' q'=>az φ l=az φ' l'∧t=t'∧q=q'
 | .map _ l,.map _ l'=>l.map (cq φ)=l'.map (cq φ')
 | _,_=>False
theorem bW.refl (φ:bo) (o:ak):bW φ φ o o:=by cases o<;>simp [bW]
theorem bW.symm {φ φ':bo} {o o':ak} (h:bW φ φ' o o'):bW φ' φ o' o:=by
 cases o<;>cases o'<;>simp only [bW] at h ⊢
 ·exact ⟨h.1.symm,h.2.1.symm,h.2.2.symm⟩
 ·exact h.symm
theorem bW.trans {φ φ' φ'':bo} {o o' Zt:ak} (h:bW φ φ' o o') (h':bW φ' φ'' o' Zt):bW φ φ'' o Zt:=by
 cases o<;>cases o'<;>cases Zt<;>simp only [bW] at h h' ⊢
 ·exact ⟨h.1.trans h'.1,h.2.1.trans h'.2.1,h.2.2.trans h'.2.2⟩
 ·exact h.trans h'
theorem bW.jt {D:Nat->Prop} (ho:o.aD D) (h: ∀ i,D i->φ' i=φ i):bW φ φ' o o:=by
 cases o with
 | row _ l t q=>exact ⟨(cJ h ho).symm,rfl,rfl⟩
 | map _ l=>exact List.map_congr_left λx hx=>by unfold cq;rw [dD h (ho x hx)]
theorem cf.same {b b':Nat} {o':ak} (h:cf φ b o w) (hb:φ' b'=φ b) (hs:bW φ φ' o o'):cf φ' b' o' w:=by
 rcases o with ⟨_,l,t,q⟩ | ⟨_,l⟩<;>rcases o' with ⟨_,l',t',q'⟩ | ⟨_,l'⟩<;>simp only [bW] at hs
 ·obtain ⟨h1,rfl,rfl⟩:=hs
  have dP:l'.length=l.length:=by rw [<- bc φ' l',<- h1,bc]
  cases q with
  | none=>unfold cf at h ⊢;simp only at h ⊢;rw [hb,h,h1]
  | some sz=>
   cases sz with
   | zero=>
    obtain ⟨fz,k1⟩:=h
    exact ⟨fz,by rw [hb,k1,h1]⟩
   | succ sz=>
    obtain ⟨rest,n,k1,k2,k3,k4⟩:=h
    exact ⟨rest,n,by rw [hb,k1,h1],by rw [hb];exact k2,by rw [dP];exact k3,by rw [hb];exact k4⟩
 ·unfold cf at h ⊢;simp only at h ⊢;rw [hb,<- hs];exact h
structure dE where
 mark:Nat
 yM:World
structure cz (κ:dE) (H:Nat->Option ak) (φ:bo) (w:World):Prop where
 holds: ∀ c o,H c=some o->cf φ c o w
 inj: ∀ b c x y,H b=some x->H c=some y->(φ b).dp=(φ c).dp->b=c
 base: ∀ c o,H c=some o->κ.mark<=(φ c).dp
 old: ∀ r,r<κ.mark->w.heap[r]?=κ.yM.heap[r]?
 size:κ.mark<=w.heap.size
 env:w.os=κ.yM.os∧w.output=κ.yM.output
variable {κ:dE}
def after (H:Nat->Option ak) (s':St) (c:Nat):Option ak:=if s'.wr.testBit c then s'.get c else H c
theorem cz.rename {H H':Nat->Option ak} (h:cz κ H φ w) (ρ:Nat->Nat) (hρ: ∀ b c x y,H' b=some x->H' c=some y->ρ b=ρ c->b=c)
  (hH: ∀ c o',H' c=some o'->φ' c=φ (ρ c)∧ ∃ o,H (ρ c)=some o∧bW φ φ' o o'):cz κ H' φ' w:=by
 refine ⟨?_,?_,λc o' hc=> ?_,h.old,h.size,h.env⟩
 ·intro c o' hc
  obtain ⟨h1,o,h2,h3⟩:=hH c o' hc
  exact (h.holds (ρ c) o h2).same h1 h3
 ·intro b c x y hb hc he
  obtain ⟨h1,o,h2,h3⟩:=hH b x hb
  obtain ⟨g1,p,g2,g3⟩:=hH c y hc
  rw [h1,g1] at he
  exact hρ b c x y hb hc (h.inj _ _ o p h2 g2 he)
 ·obtain ⟨h1,o,h2,_⟩:=hH c o' hc
  rw [h1];exact h.base _ o h2
end
section
variable {κ:dE}
variable {l:List (Option ak)} {p:Prop} {c:Nat} {names:List Nat}
def mk (l:List (Nat×ak)):Tr:=l.foldl (λt p=>Tr.put Ev.deep t p.1 (some p.2)) .nil
theorem yN (c:Nat): ∀ f,Tr.look f .nil c=none
 | 0=>rfl
 | _+1=>rfl
theorem GK {c:Nat} {o:ak}: ∀ (l:List (Nat×ak)) (t:Tr),Tr.look Ev.deep (l.foldl (λt p=>Tr.put Ev.deep t p.1 (some p.2)) t) c=some o->(c,o)∈l∨Tr.look Ev.deep t c=some o
 | [],t,h=> .inr h
 | p::l,t,h=>by
  rcases GK l _ h with h | h
  ·exact .inl (by simp [h])
  ·by_cases hp:p.1=c
   ·subst hp
    have:=fZ _ _ _ _ _ h
    cases this
    exact .inl (by simp)
   ·rw [fY _ _ _ _ _ hp] at h
    exact .inr h
theorem kJ {l:List (Nat×ak)} {n r w:Nat} {oo:List CL} {o:ak} (h:St.get ⟨mk l,n,r,w,p,oo⟩ c=some o):(c,o)∈l:=by
 rcases GK l .nil h with h | h
 ·exact h
 ·rw [yN] at h;cases h
def view (names:List Nat) (r:eO AV):Option (AV×Prop×Nat×List Nat×List (Option ak)):=match r with
 | .ok v s=>some (v,s.pre,s.next,(List.range 128).filter s.wr.testBit,names.map s.get)
 | .fail _=>none
theorem b9 {r:eO AV} {v:AV} {nx:Nat} {wr:List Nat} (h:view names r=some (v,p,nx,wr,l)):
  ∃ s,r= .ok v s∧s.pre=p∧s.next=nx∧(∀ c,c<128->(s.wr.testBit c=true↔c∈wr))∧names.map s.get=l:=by
 unfold view at h
 split at h
 ·rename_i v' s
  simp only [Option.some.injEq,Prod.mk.injEq] at h
  obtain ⟨rfl,rfl,rfl,rfl,rfl⟩:=h
  refine ⟨s,rfl,rfl,rfl,λc hc=> ?_,rfl⟩
  simp [hc]
 ·cases h
theorem ah {s:St} (h:names.map s.get=l) (i:Nat) {o:Option ak} (hc:names[i]?=some c) (ho:l[i]?=some o):s.get c=o:=by
 subst h
 rw [List.getElem?_map,hc] at ho
 simpa using ho
theorem cz.iQ {H H':Nat->Option ak} {φ:bo} {w:World} (h:cz κ H φ w) (ρ:Nat->Nat) (hρ: ∀ b c x y,H' b=some x->H' c=some y->ρ b=ρ c->b=c)
  (hH: ∀ c o',H' c=some o'-> ∃ o,H (ρ c)=some o∧bW φ (λi=>φ (ρ i)) o o'):cz κ H' (λi=>φ (ρ i)) w:=
 h.rename ρ hρ λc o' hc=>⟨rfl,hH c o' hc⟩
end
section
variable {P:Program} {κ:dE}
structure Part where
 args:List AV
 ins:List (Nat×ak)
 v:AV
 outs:List (Nat×ak)
 nx:Nat
 k:Nat
 q:Prop:=True
def kK (h:Tr):List (Nat×ak)->Tr
 | []=>h
 | x::l=>kK (Tr.put deep h x.1 (some x.2)) l
def af (m:Nat):List (Nat×ak)->Nat
 | []=>m
 | x::l=>af (mark m x.1) l
def lO (m n:Nat):Nat->Nat
 | 0=>m
 | k+1=>mark (lO m n k) (n+k)
def sJ (h:Tr):List (Nat×ak)->Bool
 | []=>true
 | x::l=>match Tr.look deep h x.1 with
  | none=>false
  | some _=>sJ h l
def u1 (h:Tr):List (Nat×ak)->Prop
 | []=>True
 | x::l=>Tr.look deep h x.1=some x.2∧u1 h l
def yO (l:List (Nat×ak)) (n k:Nat):List (Nat×ak)->Bool
 | []=>true
 | x::m=>(l.any (λy=>Nat.beq y.1 x.1)||(Nat.ble n x.1&&Nat.blt x.1 (n+k)))&&yO l n k m
def yP (p:Part):List AV->St->eO AV:=λargs s=>match s with
 | ⟨h,n,r,w,q,o⟩=>
  match (match p.k with | 0=>Nat.ble n p.nx | _+1=>Nat.beq n p.nx),sJ h p.ins,yO p.ins p.nx p.k p.outs with
  | true,true,true=>ee (n+p.k) λn'=>ee (lO (af (af r p.ins) p.outs) n p.k) λr=>ee (lO (af w p.outs) n p.k) λw=>
   .ok p.v ⟨kK h p.outs,n',r,w,q∧args=p.args∧u1 h p.ins∧p.q,o⟩
  | _,_,_=> .fail []
theorem u2 {b:Nat}: ∀ (l:List (Nat×ak)) (h:Tr),(∀ x∈l,x.1≠b)->Tr.look deep (kK h l) b=Tr.look deep h b
 | [],_,_=>rfl
 | x::l,h,hn=>by
  show Tr.look deep (kK (Tr.put deep h x.1 (some x.2)) l) b=_
  rw [u2 l _ (λy hy=>hn y (by simp [hy])),fY _ _ _ _ _ (hn x (by simp))]
theorem ly {b:Nat} {o:ak}: ∀ (l:List (Nat×ak)) (h:Tr),Tr.look deep (kK h l) b=some o->(b,o)∈l∨(Tr.look deep h b=some o∧ ∀ x∈l,x.1≠b)
 | [],_,h=> .inr ⟨h,λ_ h=>by cases h⟩
 | x::l,h,hl=>by
  rcases ly l _ hl with h1 | ⟨h1,h2⟩
  ·exact .inl (by simp [h1])
  ·by_cases hx:x.1=b
   ·subst hx
    have:=fZ _ _ _ _ _ h1
    cases this
    exact .inl (by simp)
   ·rw [fY _ _ _ _ _ hx] at h1
    exact .inr ⟨h1,λy hy=>by
     rcases List.mem_cons.1 hy with rfl | hy
     ·exact hx
     ·exact h2 y hy⟩
theorem kT {m b:Nat}: ∀ (l:List (Nat×ak)),m.testBit b=true->(af m l).testBit b=true:=by
 intro l
 induction l generalizing m with
 | nil=>exact λh=>h
 | cons x l ih=>exact λh=>ih (di _ _ _ h)
theorem pZ {m:Nat} {x:Nat×ak}: ∀ (l:List (Nat×ak)),x∈l->(af m l).testBit x.1=true:=by
 intro l
 induction l generalizing m with
 | nil=>intro h;cases h
 | cons y l ih=>
  intro h
  rcases List.mem_cons.1 h with rfl | h
  ·exact kT l (dO _ _)
  ·exact ih h
theorem jM {m n b:Nat}: ∀ (k:Nat),m.testBit b=true->(lO m n k).testBit b=true
 | 0,h=>h
 | k+1,h=>di _ _ _ (jM k h)
theorem p4 {m n b:Nat}: ∀ (k:Nat),n<=b->b<n+k->(lO m n k).testBit b=true
 | 0,h,h'=>by omega
 | k+1,h,h'=>by
  unfold lO
  by_cases e:b=n+k
  ·subst e;exact dO _ _
  ·exact di _ _ _ (p4 k h (by omega))
theorem gS {h:Tr}: ∀ {l:List (Nat×ak)},sJ h l=true-> ∀ x∈l,Tr.look deep h x.1≠none
 | [],_,_,hx=>by cases hx
 | y::l,hl,x,hx=>by
  unfold sJ at hl
  split at hl
  ·cases hl
  ·rename_i hy
   rcases List.mem_cons.1 hx with rfl | hx
   ·rw [hy];simp
   ·exact gS hl x hx
theorem p5 {h:Tr}: ∀ {l:List (Nat×ak)},u1 h l-> ∀ x∈l,Tr.look deep h x.1=some x.2
 | [],_,_,hx=>by cases hx
 | y::l,hl,x,hx=>by
  rcases List.mem_cons.1 hx with rfl | hx
  ·exact hl.1
  ·exact p5 hl.2 x hx
theorem p6 {l:List (Nat×ak)} {n k:Nat}: ∀ {m:List (Nat×ak)},yO l n k m=true-> ∀ x∈m,(∃ y∈l,y.1=x.1)∨(n<=x.1∧x.1<n+k)
 | [],_,_,hx=>by cases hx
 | y::m,hm,x,hx=>by
  unfold yO at hm
  simp only [Bool.and_eq_true,Bool.or_eq_true,List.any_eq_true] at hm
  rcases List.mem_cons.1 hx with rfl | hx
  ·rcases hm.1 with ⟨z,hz,he⟩ | ⟨h1,h2⟩
   ·exact .inl ⟨z,hz,Nat.eq_of_beq_eq_true he⟩
   ·refine .inr ⟨Nat.le_of_ble_eq_true h1,?_⟩
    simpa [Nat.blt_eq] using h2
  ·exact p6 hm.2 x hx
structure bP (P:Program) (f:FuncId) (p:Part):Prop where
 fn: ∃ fn,P.funcs[f]?=some fn∧fn.body.isSome=true
 ids:p.q-> ∀ D:Nat->Prop,aR D p.args->(∀ x∈p.ins,x.2.aD D)->(∀ i,p.nx<=i->i<p.nx+p.k->D i)->p.v.aD D∧ ∀ x∈p.outs,x.2.aD D
 nX:p.q-> ∀ (n:Nat) (φ:bo) (w:World),(p.k=0∧n<=p.nx∨n=p.nx)->aR (· < n) p.args->(∀ x∈p.ins,cf φ x.1 x.2 w∧x.1<n∧x.2.aD (· < n))->(∀ x∈p.ins,∀ y∈p.ins,(φ x.1).dp=(φ y.1).dp->x.1=y.1)->
  Calls P f (az φ p.args).toArray w (λe w'=> ∃ φ':bo,e= .returned (Jb1 φ' p.v)∧(∀ i,¬ (n<=i∧i<n+p.k)->φ' i=φ i)∧(∀ x∈p.outs,cf φ' x.1 x.2 w')∧
   (∀ x∈p.outs,∀ y∈p.outs,(φ' x.1).dp=(φ' y.1).dp->x.1=y.1)∧(∀ x∈p.outs,w.heap.size<=(φ' x.1).dp∨ ∃ y∈p.outs,(∃ z∈p.ins,z.1=y.1)∧(φ' x.1).dp=(φ y.1).dp)∧
   (∀ r,r<w.heap.size->(∀ y∈p.outs,(∃ z∈p.ins,z.1=y.1)->(φ y.1).dp≠r)->w'.heap[r]?=w.heap[r]?)∧w.heap.size<=w'.heap.size∧w'.os=w.os∧w'.output=w.output)
theorem yQ {f:FuncId} {p:Part} (hp:bP P f p): ∀ args s v s',yP p args s= .ok v s'->(∃ fn,P.funcs[f]?=some fn∧fn.body.isSome=true)∧
  ∃ R W,Sp s s' R W∧nG s s' R W (λD=>aR D args) (λD=>v.aD D)∧
   ∀ φ w,s'.pre->Fits s R φ w->l9 s R->aR (· < s.next) args->
    Calls P f (az φ args).toArray w (λe w'=> ∃ φ',e= .returned (Jb1 φ' v)∧dG s s' W φ φ' w w'):=by
 intro args s v s' h
 refine ⟨hp.fn,?_⟩
 obtain ⟨hh,n,r,w,q,o⟩:=s
 unfold yP at h
 simp only at h
 split at h
 case h_2=>cases h
 rename_i hn cC Xy
 simp only [dN] at h
 cases h
 have hN:(p.k=0∧n<=p.nx)∨n=p.nx:=by
  split at hn
  ·rename_i h0;exact .inl ⟨h0,Nat.le_of_ble_eq_true hn⟩
  ·exact .inr (Nat.eq_of_beq_eq_true hn)
 have FN: ∀ b,p.nx<=b->b<p.nx+p.k->n<=b∧b<n+p.k:=λb h1 h2=>by rcases hN with ⟨h,_⟩ | h<;>omega
 have oy: ∀ b,St.get ⟨kK hh p.outs,n+p.k,lO (af (af r p.ins) p.outs) n p.k,lO (af w p.outs) n p.k,q∧args=p.args∧u1 hh p.ins∧p.q,o⟩ b=Tr.look deep (kK hh p.outs) b:=λ_=>rfl
 have As: ∀ b,St.get ⟨hh,n,r,w,q,o⟩ b=Tr.look deep hh b:=λ_=>rfl
 refine ⟨λb=>(∃ x∈p.outs,x.1=b)∨(n<=b∧b<n+p.k)∨ ∃ x∈p.ins,x.1=b,λb=>(∃ x∈p.outs,x.1=b)∨(n<=b∧b<n+p.k),?_,?_,?_⟩
 ·refine ⟨Nat.le_add_right _ _,λb hb=> ?_,λb hb=>hb.elim .inl (λh=> .inr (.inl h)),λb hb=> ?_,λb hb=> ?_,λb hb=>jM _ (kT _ (kT _ hb)),λb hb=>jM _ (kT _ hb),λb hb pH=> ?_,λb h1 h2=> .inr ⟨h1,h2⟩,λb h1 h2=> ?_,λh=>h.1⟩
  ·rw [oy,As]
   exact u2 _ _ λx hx e=>hb (.inl ⟨x,hx,e⟩)
  ·rcases hb with ⟨x,hx,rfl⟩ | ⟨h1,h2⟩ | ⟨x,hx,rfl⟩
   ·exact jM _ (pZ _ hx)
   ·exact p4 _ h1 h2
   ·exact jM _ (kT _ (pZ _ hx))
  ·rcases hb with ⟨x,hx,rfl⟩ | ⟨h1,h2⟩
   ·exact jM _ (pZ _ hx)
   ·exact p4 _ h1 h2
  ·rcases hb with ⟨x,hx,rfl⟩ | ⟨h1,h2⟩
   ·rcases p6 Xy x hx with ⟨y,hy,he⟩ | ⟨h1,h2⟩
    ·rw [As,<- he] at pH;exact absurd pH (gS cC y hy)
    ·exact (FN _ h1 h2).2
   ·exact h2
  ·rw [As] at h1
   rw [oy] at h2
   obtain ⟨u,hu⟩:=aZ h2
   rcases ly _ _ hu with h3 | ⟨h3,_⟩
   ·rcases p6 Xy _ h3 with ⟨y,hy,he⟩ | ⟨h4,h5⟩
    ·exact absurd (by rw [he];exact h1) (gS cC y hy)
    ·exact (FN _ h4 h5).1
   ·rw [h3] at h1;cases h1
 ·intro D aQ hD cF hR
  obtain ⟨_,rfl,kq,hq⟩:=aQ
  have:=hp.ids hq D cF (λx hx=>hR x.1 x.2 (.inr (.inr ⟨x,hx,rfl⟩)) (p5 kq x hx)) (λi h1 h2=>hD i (FN i h1 h2).1 (FN i h1 h2).2)
  refine ⟨this.1,λb u hb hg=> ?_⟩
  rw [oy] at hg
  rcases ly _ _ hg with h3 | ⟨h3,h4⟩
  ·exact this.2 _ h3
  ·rcases hb with ⟨x,hx,rfl⟩ | ⟨h1,h2⟩
   ·exact absurd rfl (h4 x hx)
   ·exact hR b u (.inr (.inl ⟨h1,h2⟩)) h3
 ·intro φ wd aQ bx hold et
  obtain ⟨_,rfl,kq,hq⟩:=aQ
  have cF: ∀ x∈p.ins,cf φ x.1 x.2 wd∧x.1<n∧x.2.aD (· < n):=λx hx=>by
   have hg:St.get ⟨hh,n,r,w,q,o⟩ x.1=some x.2:=p5 kq x hx
   exact ⟨bx.holds x.1 x.2 (.inr (.inr ⟨x,hx,rfl⟩)) hg,hold x.1 x.2 (.inr (.inr ⟨x,hx,rfl⟩)) hg⟩
  refine (hp.nX hq n φ wd hN et cF λx hx y hy he=>bx.inj x.1 y.1 (.inr (.inr ⟨x,hx,rfl⟩)) (.inr (.inr ⟨y,hy,rfl⟩)) (gS cC x hx) (gS cC y hy) he).mono ?_
  rintro e w' ⟨φ',rfl,ha,hH,hI,hS,hF,fy,hos,hout⟩
  have Ec: ∀ b,((∃ x∈p.outs,x.1=b)∨(n<=b∧b<n+p.k))-> ∀ u,Tr.look deep (kK hh p.outs) b=some u->(b,u)∈p.outs:=by
   intro b hb u hu
   rcases ly _ _ hu with h3 | ⟨h3,h4⟩
   ·exact h3
   ·rcases hb with ⟨x,hx,rfl⟩ | ⟨h1,h2⟩
    ·exact absurd rfl (h4 x hx)
    ·have:=(hold b u (.inr (.inl ⟨h1,h2⟩)) h3).1
     have:b<n:=this
     omega
  refine ⟨φ',rfl,ha,λb u hb hg=>hH _ (Ec b hb u hg),λb c hb hc ki gN he=> ?_,λb hb hg=> ?_,λa har bq=>hF a har λy hy hz=> ?_,fy,hos,hout⟩
  ·obtain ⟨u,hu⟩:=aZ ki
   obtain ⟨u',FJ⟩:=aZ gN
   exact hI _ (Ec b hb u hu) _ (Ec c hc u' FJ) he
  ·obtain ⟨u,hu⟩:=aZ hg
   rcases hS _ (Ec b hb u hu) with h1 | ⟨y,hy,⟨z,hz,SE⟩,he⟩
   ·exact .inl h1
   ·exact .inr ⟨y.1,.inl ⟨y,hy,rfl⟩,by rw [As,<- SE];exact gS cC z hz,he⟩
  ·obtain ⟨z,hz,SE⟩:=hz
   exact bq y.1 (.inl ⟨y,hy,rfl⟩) (by rw [As,<- SE];exact gS cC z hz)
def partG' (p:Part):St->eO AV:=λs=>match s with
 | ⟨h,n,r,w,q,o⟩=>
  match (match p.k with | 0=>Nat.ble n p.nx | _+1=>Nat.beq n p.nx),sJ h p.ins,yO p.ins p.nx p.k p.outs with
  | true,true,true=>ee (n+p.k) λn'=>ee (lO (af (af r p.ins) p.outs) n p.k) λr=>ee (lO (af w p.outs) n p.k) λw=>
   .ok p.v ⟨kK h p.outs,n',r,w,q∧p.q,o⟩
  | _,_,_=> .fail []
theorem part_sum' {f:FuncId} {p:Part} (hp:bP P f p) {s s':St} {v:AV} {o:List CL} {q0:Prop} (kq:s'.pre->s.pre∧u1 s.heap p.ins) (h:partG' p ⟨s.heap,s.next,s.rd,s.wr,q0,o⟩= .ok v s'):(∃ fn,P.funcs[f]?=some fn∧fn.body.isSome=true)∧
  ∃ R W,Sp s s' R W∧nG s s' R W (λD=>aR D p.args) (λD=>v.aD D)∧
   ∀ φ w,s'.pre->Fits s R φ w->l9 s R->aR (· < s.next) p.args->
    Calls P f (az φ p.args).toArray w (λe w'=> ∃ φ',e= .returned (Jb1 φ' v)∧dG s s' W φ φ' w w'):=by
 obtain ⟨hh,n,r,w,q,o0⟩:=s
 unfold partG' at h
 simp only at h
 split at h
 case h_2=>cases h
 rename_i hn cC Xy
 simp only [dN] at h
 cases h
 have h1:yP p p.args ⟨hh,n,r,w,q0,o0⟩= .ok p.v ⟨kK hh p.outs,n+p.k,lO (af (af r p.ins) p.outs) n p.k,lO (af w p.outs) n p.k,q0∧p.args=p.args∧u1 hh p.ins∧p.q,o0⟩:=by
  unfold yP
  simp only
  split
  ·simp only [dN]
  ·rename_i bq
   exact (bq hn cC Xy).elim
 obtain ⟨lW,R,W,sp,ids,nX⟩:=yQ hp _ _ _ _ h1
 refine ⟨lW,R,W,⟨sp.next,sp.same,sp.sub,sp.rd,sp.wr,sp.rdm,sp.wrm,sp.lt,sp.made,sp.born,λh=>(kq h).1⟩,λD aQ=>ids D ⟨aQ.1,rfl,(kq aQ).2,aQ.2⟩,λφ wd aQ hf ho ha=> ?_⟩
 refine (nX φ wd ⟨aQ.1,rfl,(kq aQ).2,aQ.2⟩ ⟨hf.holds,hf.inj⟩ ho ha).mono ?_
 rintro e w' ⟨φ',he,hm⟩
 exact ⟨φ',he,hm.eH,hm.holds,hm.inj,hm.source,hm.frame,hm.size,hm.kept⟩
def rh (P:Program) (sm:kP) (f:FuncId) (p:Part):Prop:= ∃ d oo s',aW P sm d f p.args ⟨mk p.ins,p.nx,0,0,True,oo⟩= .ok p.v s'∧s'.pre∧
 (∀ x∈p.outs,s'.get x.1=some x.2∧((∃ y∈p.ins,y.1=x.1)∨(p.nx<=x.1∧x.1<p.nx+p.k)))∧(∀ y∈p.ins,s'.wr.testBit y.1=true-> ∃ x∈p.outs,x.1=y.1)
theorem cK {sm:kP} (lN:gF P) (lV:P.follows .mixedOrders=true) (ij:eu P sm) {f:Nat} {p:Part} (lW: ∃ fn,P.funcs[f]?=some fn∧fn.body.isSome=true) (hw:p.q->rh P sm f p)
  (bn:p.q-> ∀ D:Nat->Prop,aR D p.args->(∀ x∈p.ins,x.2.aD D)->(∀ i,p.nx<=i->i<p.nx+p.k->D i)->p.v.aD D∧ ∀ x∈p.outs,x.2.aD D):bP P f p:=by
 refine ⟨lW,bn,λhq n φ w hn et kq lY=> ?_⟩
 replace bn:=bn hq
 obtain ⟨d,oo,s',cW,aQ,hout,Zj⟩:=hw hq
 obtain ⟨_,R,W,sp,ids,nX⟩:=sound lN lV ij d f p.args _ p.v s' cW
 have nj:n<=p.nx:=by rcases hn with ⟨_,h⟩ | h<;>omega
 have Ml: ∀ b o,St.get ⟨mk p.ins,p.nx,0,0,True,oo⟩ b=some o->(b,o)∈p.ins:=λb o h=>kJ h
 have hF:Fits ⟨mk p.ins,p.nx,0,0,True,oo⟩ (λ_=>True) φ w:=⟨λb o _ hg=>(kq _ (Ml b o hg)).1,λb c _ _ hb hc he=>by
  obtain ⟨x,hx⟩:=aZ hb
  obtain ⟨y,hy⟩:=aZ hc
  exact lY _ (Ml b x hx) _ (Ml c y hy) he⟩
 have hO:l9 ⟨mk p.ins,p.nx,0,0,True,oo⟩ (λ_=>True):=λb o _ hg=>by
  have:=kq _ (Ml b o hg)
  exact ⟨Nat.lt_of_lt_of_le this.2.1 nj,this.2.2.mono λi hi=>Nat.lt_of_lt_of_le hi nj⟩
 refine (nX φ w aQ (hF.mono λ_ _=>trivial) (hO.mono λ_ _=>trivial) (et.mono λi hi=>Nat.lt_of_lt_of_le hi nj)).mono ?_
 rintro e w' ⟨φ1,rfl,hm⟩
 have Qf:=hF.step sp hm hO (λ_ _=>trivial)
 have hA:=bn (λi=>i<n+p.k) (et.mono λi hi=>by omega) (λx hx=>(kq x hx).2.2.mono λi hi=>by omega) (λi h1 h2=>by rcases hn with ⟨h,_⟩ | h<;>omega)
 have LF: ∀ i,i<n->φ1 i=φ i:=λi hi=>hm.eH i λ⟨h1,_⟩=>by have h1:p.nx<=i:=h1;omega
 have eH: ∀ i,¬ (n<=i∧i<n+p.k)->(λi=>if i<n+p.k then φ1 i else φ i) i=φ i:=λi hi=>by
  show (if i<n+p.k then φ1 i else φ i)=φ i
  by_cases h:i<n+p.k
  ·rw [if_pos h];exact LF i (by omega)
  ·rw [if_neg h]
 have same: ∀ i,i<n+p.k->(λi=>if i<n+p.k then φ1 i else φ i) i=φ1 i:=λi hi=>if_pos hi
 have lt: ∀ x∈p.outs,x.1<n+p.k:=λx hx=>by
  rcases (hout x hx).2 with ⟨y,hy,he⟩ | ⟨h1,h2⟩
  ·have:=(kq y hy).2.1;omega
  ·rcases hn with ⟨h,_⟩ | h<;>omega
 have VQ: ∀ c,W c->St.get ⟨mk p.ins,p.nx,0,0,True,oo⟩ c≠none-> ∃ y∈p.outs,(∃ z∈p.ins,z.1=y.1)∧y.1=c:=λc hc hg=>by
  obtain ⟨u,hu⟩:=aZ hg
  obtain ⟨y,hy,he⟩:=Zj _ (Ml c u hu) (sp.wr c hc)
  exact ⟨y,hy,⟨_,Ml c u hu,he.symm⟩,he⟩
 refine ⟨λi=>if i<n+p.k then φ1 i else φ i,?_,eH,λx hx=> ?_,λx hx y hy he=> ?_,λx hx=> ?_,λr hr bq=> ?_,hm.size,hm.kept.1,hm.kept.2⟩
 ·rw [dD same hA.1]
 ·exact (Qf.holds x.1 x.2 trivial (hout x hx).1).bB (D:=(· < n+p.k)) same (hA.2 x hx) (same _ (lt x hx)) rfl
 ·rw [same _ (lt x hx),same _ (lt y hy)] at he
  exact Qf.inj x.1 y.1 trivial trivial (by rw [(hout x hx).1];simp) (by rw [(hout y hy).1];simp) he
 ·rw [same _ (lt x hx)]
  by_cases hw:W x.1
  ·rcases hm.source x.1 hw (by rw [(hout x hx).1];simp) with h | ⟨c,hc,hg,he⟩
   ·exact .inl h
   ·obtain ⟨y,hy,hz,rfl⟩:=VQ c hc hg
    exact .inr ⟨y,hy,hz,he⟩
  ·have h1:=sp.same x.1 hw
   rw [(hout x hx).1] at h1
   have h2:=Ml _ _ h1.symm
   exact .inr ⟨x,hx,⟨_,h2,rfl⟩,by rw [LF _ (kq _ h2).2.1]⟩
 ·refine hm.frame r hr λc hc hg=> ?_
  obtain ⟨y,hy,hz,rfl⟩:=VQ c hc hg
  exact bq y hy hz
theorem bs {P:Program} {sm:kP} {d f:Nat} {p:Part} {oo:List CL} {pre:Prop} {nx:Nat} {wr names:List Nat} {rows:List (Option ak)} (h:view names (aW P sm d f p.args ⟨mk p.ins,p.nx,0,0,True,oo⟩)=some (p.v,pre,nx,wr,rows)) (aQ:pre)
  (hn:p.outs.map (·.1)=names) (hr:p.outs.map (λx=>some x.2)=rows) (Xv:List Nat) (hi:p.ins.map (·.1)=Xv) (hc:Xv.all (λn=>(!wr.contains n||names.contains n)&&Nat.blt n 128)=true)
  (ho:names.all (λn=>Xv.contains n||(Nat.ble p.nx n&&Nat.blt n (p.nx+p.k)))=true):rh P sm f p:=by
 obtain ⟨s',cW,rfl,_,dc,aI⟩:=b9 h
 refine ⟨d,oo,s',cW,aQ,λx hx=>⟨?_,?_⟩,λy hy hb=> ?_⟩
 ·subst hn hr
  obtain ⟨i,iS⟩:=List.getElem?_of_mem hx
  have h1:(p.outs.map (·.1))[i]?=some x.1:=by rw [List.getElem?_map,iS];rfl
  have h2:(p.outs.map (λx=>some x.2))[i]?=some (some x.2):=by rw [List.getElem?_map,iS];rfl
  exact ah aI i h1 h2
 ·have xk:x.1∈names:=by rw [<- hn];exact List.mem_map.2 ⟨x,hx,rfl⟩
  have:=List.all_eq_true.1 ho x.1 xk
  simp only [Bool.or_eq_true,Bool.and_eq_true,List.contains_iff_mem] at this
  rcases this with h1 | ⟨h1,h2⟩
  ·rw [<- hi] at h1
   obtain ⟨y,hy,he⟩:=List.mem_map.1 h1
   exact .inl ⟨y,hy,he⟩
  ·exact .inr ⟨Nat.le_of_ble_eq_true h1,by simpa [Nat.blt_eq] using h2⟩
 ·have hy1:y.1∈Xv:=by rw [<- hi];exact List.mem_map.2 ⟨y,hy,rfl⟩
  have:=List.all_eq_true.1 hc y.1 hy1
  simp only [Bool.or_eq_true,Bool.and_eq_true,List.contains_iff_mem,Bool.not_eq_true',Nat.blt_eq] at this
  have hw:=(dc y.1 this.2).1 hb
  have lN:y.1∈names:=by
   rcases this.1 with h | h
   ·exact absurd hw (by simpa using h)
   ·exact h
  rw [<- hn] at lN
  obtain ⟨x,hx,he⟩:=List.mem_map.1 lN
  exact ⟨x,hx,he⟩
end
open Go.Proofs.Tryz (prog)
theorem named:gF prog:=by
 have h : (prog.funcs.toList.all λfn => !(fn.name == "runtime.NumGoroutine")) = true := by kernel_rfl
 intro f fn hf
 have:=List.all_eq_true.1 h fn (List.mem_of_getElem? (by simpa using hf))
 simpa using this
theorem mixed:prog.follows .mixedOrders=true:=by kernel_rfl
def eO.XK:eO AV->Prop
 | .ok (.bool true) s=>s.pre
 | _=>False
theorem En:eO.XK (aW prog bT 60 7 [] W8)=True:=by kernel_rfl
theorem Eo {f:FuncId} {d:Nat} (h:eO.XK (aW prog bT d f [] W8)) (w:World):
  Calls prog f #[] w λe w'=>e= .returned (.bool true)∧(∀ r,r<w.heap.size->w'.heap[r]?=w.heap[r]?)∧w.heap.size<=w'.heap.size∧w'.os=w.os∧w'.output=w.output:=by
 unfold eO.XK at h
 split at h
 ·rename_i s hs
  obtain ⟨_,R,W,sp,_,nX⟩:=sound named mixed bd d f [] W8 (.bool true) s hs
  have g0: ∀ b,W8.get b=none:=λb=>rfl
  refine (nX (λ_=>⟨0,0⟩) w h ⟨λb o _ hg=>(by rw [g0] at hg;cases hg),λb c _ _ hg=>absurd (g0 b) hg⟩ (λb o _ hg=>(by rw [g0] at hg;cases hg)) trivial).mono ?_
  rintro e w' ⟨φ',rfl,hm⟩
  exact ⟨rfl,λr hr=>hm.frame r hr λc _ hg=>absurd (g0 c) hg,hm.size,hm.kept⟩
 ·exact h.elim
theorem Ep (w:World):Calls prog 7 #[] w λe w'=>e= .returned (.bool true)∧(∀ r,r<w.heap.size->w'.heap[r]?=w.heap[r]?)∧w.heap.size<=w'.heap.size∧w'.os=w.os∧w'.output=w.output:=
 Eo (by rw [En];trivial) w
end Ev
end Go.Proofs.YtpkfimijnkkbjaaGreat
namespace Go.Proofs.YtpkfimijnkkbjaaGreat
open Go
open Go.IntKind (i64 u64)
theorem jN (n:Int) (h0:0<=n) (h1:n<2^64):u64.wrap n=n:=by rw [IntKind.wrap_u64];omega
theorem MC {j:Nat} (x y:BitVec j):(x &&& ~~~ y)+(x &&& y)=x:=by
 rw [BitVec.add_eq_or_of_and_eq_zero]
 ·ext i hi
  simp only [BitVec.getElem_or,BitVec.getElem_and,BitVec.getElem_not]
  cases x[i]<;>cases y[i]<;>rfl
 ·ext i hi
  simp only [BitVec.getElem_and,BitVec.getElem_not,BitVec.getElem_zero]
  cases x[i]<;>cases y[i]<;>rfl
theorem MD (a b j:Nat) (ha:a<2^j) (hb:b<2^j):(BitVec.ofNat j a &&& ~~~ BitVec.ofNat j b).toNat=a-(a &&& b):=by
 have h1:=MC (BitVec.ofNat j a) (BitVec.ofNat j b)
 have h2:=congrArg BitVec.toNat h1
 rw [BitVec.toNat_add,BitVec.toNat_and (BitVec.ofNat j a) (BitVec.ofNat j b)] at h2
 simp only [BitVec.toNat_ofNat,Nat.mod_eq_of_lt ha,Nat.mod_eq_of_lt hb] at h2
 have h3:a &&& b<=a:=Nat.and_le_left
 have h4:(BitVec.ofNat j a &&& ~~~ BitVec.ofNat j b).toNat<=a:=by
  rw [BitVec.toNat_and]
  simp only [BitVec.toNat_ofNat,Nat.mod_eq_of_lt ha]
  exact Nat.and_le_left
 by_cases dA:(BitVec.ofNat j a &&& ~~~ BitVec.ofNat j b).toNat+(a &&& b)<2^j
 ·rw [Nat.mod_eq_of_lt dA] at h2;omega
 ·have h5:(BitVec.ofNat j a &&& ~~~ BitVec.ofNat j b).toNat+(a &&& b)-2^j<2^j:=by omega
  rw [Nat.mod_eq_sub_mod (by omega),Nat.mod_eq_of_lt h5] at h2;omega
theorem A6 (a b:Nat) (ha:a<18446744073709551616) (hb:b<18446744073709551616):bits .andNot .u64 (a:Int) (b:Int)=((a-(a &&& b):Nat):Int):=by
 simp only [bits,BitVec.ofInt_natCast]
 rw [show u64.bits=64 from rfl]
 rw [MD a b 64 ha hb]
 exact jN _ (by omega) (by omega)
theorem u3 (w a s:Nat):w &&& ((2^s-1)*2^a)=(w/2^a%2^s)*2^a:=by
 apply Nat.eq_of_testBit_eq
 intro i
 rw [Nat.testBit_and,<- Nat.shiftLeft_eq,<- Nat.shiftLeft_eq,Nat.testBit_shiftLeft,Nat.testBit_shiftLeft,Nat.testBit_two_pow_sub_one,Nat.testBit_mod_two_pow]
 by_cases h:a<=i
 ·have e:(w/2^a).testBit (i-a)=w.testBit i:=by
   rw [Nat.testBit_div_two_pow];congr 1;omega
  rw [e]
  by_cases h2:i-a<s<;>simp [h,h2]
 ·simp [h]
theorem lz (w:Int) (a s:Nat) (h0:0<=w) (h1:w<=18446744073709551615) (hs:a+s<=64) (M:Int) (hM:M=(2^s-1)*2^a):bits .andNot .u64 w M=w-(w/2^a%2^s)*2^a:=by
 obtain ⟨n,rfl⟩:=Int.eq_ofNat_of_zero_le h0
 have hp:0<2^s:=Nat.two_pow_pos s
 have hm:(M:Int)=(((2^s-1)*2^a:Nat):Int):=by
  rw [hM,Int.natCast_mul,Int.natCast_sub hp];simp
 have hb:(2^s-1)*2^a<18446744073709551616:=by
  have h2:(2^s-1)*2^a<2^s*2^a:=Nat.mul_lt_mul_of_pos_right (Nat.sub_lt hp (by decide)) (Nat.two_pow_pos a)
  have h3:2^s*2^a<=2^64:=by rw [<- Nat.pow_add];exact Nat.pow_le_pow_right (by decide) (by omega)
  have h4:(2:Nat)^64=18446744073709551616:=by decide
  omega
 rw [hm,A6 n _ (by omega) hb,u3]
 have h5:n/2^a%2^s*2^a<=n:=by rw [<- u3];exact Nat.and_le_left
 rw [Int.natCast_sub h5]
 simp
theorem and_zero (x v a s:Nat) (hx:x/2^a%2^s=0) (hv:v<2^s):x &&& (v*2^a)=0:=by
 apply Nat.eq_of_testBit_eq
 intro i
 rw [Nat.testBit_and,<- Nat.shiftLeft_eq,Nat.testBit_shiftLeft,Nat.zero_testBit]
 by_cases h:a<=i
 ·by_cases h2:i-a<s
  ·have e:(x/2^a%2^s).testBit (i-a)=x.testBit i:=by
    rw [Nat.testBit_mod_two_pow,Nat.testBit_div_two_pow]
    simp only [h2,decide_true,Bool.true_and]
    congr 1;omega
   rw [hx,Nat.zero_testBit] at e
   rw [<- e];rfl
  ·have e:v.testBit (i-a)=false:=Nat.testBit_lt_two_pow (Nat.lt_of_lt_of_le hv (Nat.pow_le_pow_right (by decide) (by omega)))
   rw [e];simp
 ·simp [h]
theorem QR (x y:Nat) (hx:x<18446744073709551616) (hy:y<18446744073709551616) (hs:x+y<18446744073709551616) (h:x &&& y=0):bits .or .u64 (x:Int) (y:Int)=((x+y:Nat):Int):=by
 simp only [bits,BitVec.ofInt_natCast]
 rw [show u64.bits=64 from rfl]
 have e:BitVec.ofNat 64 x ||| BitVec.ofNat 64 y=BitVec.ofNat 64 x+BitVec.ofNat 64 y:=by
  rw [BitVec.add_eq_or_of_and_eq_zero]
  apply BitVec.eq_of_toNat_eq
  rw [BitVec.toNat_and]
  simp only [BitVec.toNat_ofNat,Nat.mod_eq_of_lt (show x<2^64 from hx),Nat.mod_eq_of_lt (show y<2^64 from hy),h,Nat.zero_mod]
 rw [e,BitVec.toNat_add]
 simp only [BitVec.toNat_ofNat,Nat.mod_eq_of_lt (show x<2^64 from hx),Nat.mod_eq_of_lt (show y<2^64 from hy),Nat.mod_eq_of_lt (show x+y<2^64 from hs)]
 exact jN _ (by omega) (by omega)
theorem GL (X v:Int) (a s:Nat) (h0:0<=X) (V4:0<=v) (hv:v<2^s) (hX:X/2^a%2^s=0) (hs:X+v*2^a<=18446744073709551615) (Y:Int) (hY:Y=v*2^a):bits .or .u64 X Y=X+Y:=by
 obtain ⟨x,rfl⟩:=Int.eq_ofNat_of_zero_le h0
 obtain ⟨n,rfl⟩:=Int.eq_ofNat_of_zero_le V4
 subst hY
 have e:((n:Int)*2^a)=((n*2^a:Nat):Int):=by simp
 rw [e] at hs ⊢
 have h1:x/2^a%2^s=0:=by exact_mod_cast hX
 have h2:n<2^s:=by exact_mod_cast hv
 rw [QR x (n*2^a) (by omega) (by omega) (by omega) (and_zero x n a s h1 h2)]
 simp
end Go.Proofs.YtpkfimijnkkbjaaGreat
namespace Go.Proofs.YtpkfimijnkkbjaaGreat
namespace Qk
open Ev Go.RowKit
open Go.IntKind (i64 u64)
open Go.Proofs.Tryz (prog)
section
variable {a f s nx:Nat} {x:Int} {p:Nat->Nat->Prop} {sm:kP} {args:List AV} {oo:List CL} {pre:Prop} {wr:List Nat} {φ:bo}
def gr (b:Bool):Int:=if b then 1 else 0
def iU:AV->Option Int
 | .int .u64 x=>some x
 | .aa .u64 x=>some x
 | _=>none
def lA:AV->Option Int
 | .int .i64 x=>some x
 | .aa .i64 x=>some x
 | _=>none
theorem cg {a:AV} (h:iU a=some x) (φ:bo):Jb1 φ a= .int .u64 x∧ ∀ D,a.aD D:=by
 unfold iU at h
 split at h<;>first | (cases h;exact ⟨rfl,λ_=>trivial⟩) | cases h
theorem dr {a:AV} (h:lA a=some x) (φ:bo):Jb1 φ a= .int .i64 x∧ ∀ D,a.aD D:=by
 unfold lA at h
 split at h<;>first | (cases h;exact ⟨rfl,λ_=>trivial⟩) | cases h
def rE (x:Int):Prop:=0<=x∧x<=18446744073709551615
structure XL (w w':World):Prop where
 block: ∀ r,r<w.heap.size->w'.heap[r]?=w.heap[r]?
 size:w.heap.size<=w'.heap.size
 os:w'.os=w.os
 output:w'.output=w.output
abbrev Pure:=List AV->Option (AV×Prop)
structure dJ (P:Program) (f:FuncId) (g:Pure):Prop where
 fn: ∃ fn,P.funcs[f]?=some fn∧fn.body.isSome=true
 nX: ∀ args v q,g args=some (v,q)->(∀ D:Nat->Prop,v.aD D)∧ ∀ φ w,q->Calls P f (az φ args).toArray w (λe w'=>e= .returned (Jb1 φ v)∧XL w w')
def sK (g:Pure):List AV->St->eO AV:=λargs s=>match g args with
 | some (v,q)=> .ok v (Ev.ask s q)
 | none=> .fail []
theorem mn {P:Program} {f:FuncId} {g:Pure} (hp:dJ P f g): ∀ args s v s',sK g args s= .ok v s'->(∃ fn,P.funcs[f]?=some fn∧fn.body.isSome=true)∧
  ∃ R W,Sp s s' R W∧nG s s' R W (λD=>aR D args) (λD=>v.aD D)∧
   ∀ φ w,s'.pre->Fits s R φ w->l9 s R->aR (· < s.next) args->
    Calls P f (az φ args).toArray w (λe w'=> ∃ φ',e= .returned (Jb1 φ' v)∧dG s s' W φ φ' w w'):=by
 intro args s v s' h
 refine ⟨hp.fn,?_⟩
 unfold sK at h
 split at h
 ·rename_i v' q hg
  cases h
  obtain ⟨h1,h2⟩:=hp.nX _ _ _ hg
  have hq:=bC.lp s q
  refine ⟨_,_,hq.sp,hq.ids λD _ _ _=>h1 D,λφ w aQ _ _ _=> ?_⟩
  rw [fK] at aQ
  refine (h2 φ w aQ.2).mono ?_
  rintro e w' ⟨rfl,he⟩
  exact ⟨φ,rfl,λ_ _=>rfl,λb o hb=>hb.elim,λb c hb=>hb.elim,λb hb=>hb.elim,λr hr _=>he.block r hr,he.size,he.os,he.output⟩
 ·cases h
theorem oS {a:AV} {s b:Bool} (h:a.LS=some (s,b)) (φ:bo):Jb1 φ a= .bool b:=by
 unfold AV.LS at h
 split at h<;>first | (cases h;rfl) | cases h
def jh (A S x v:Int):Int:=x-(x/A%S)*A+v*A
def okF:Nat->Nat->Bool
 | 0,10 | 10,20 | 0,30 | 30,20 | 0,24 | 24,8 | 32,20 | 0,1 | 1,1 | 2,30 | 32,32=>true
 | _,_=>false
def T6:Nat->Nat->Bool
 | 0,1 | 1,1 | 2,30 | 32,32=>true
 | _,_=>false
def QS:Pure
 | [a]=>match a.LS with
  | some (_,b)=>some (.aa .u64 (gr b),True)
  | none=>none
 | _=>none
def QT:Pure
 | [w,.int .i64 (.ofNat a),.int .i64 (.ofNat s)]=>match iU w,T6 a s with
  | some x,true=>some (.eT [.aa .u64 (x/2^a%2^s),.int .i64 0],rE x)
  | _,_=>none
 | _=>none
def QU:Pure
 | [w,.int .i64 (.ofNat a),.int .i64 (.ofNat s),u]=>match iU w,iU u,okF a s with
  | some x,some v,true=>some (.eT [.aa .u64 (jh (2^a) (2^s) x v),.int .i64 0],rE x∧0<=v∧v<2^s)
  | _,_,_=>none
 | _=>none
theorem CU (h:p 0 10∧p 10 20∧p 0 30∧p 30 20∧p 0 24∧p 24 8∧p 32 20∧p 0 1∧p 1 1∧p 2 30∧p 32 32) (e:okF a s=true):p a s:=by
 obtain ⟨h1,h2,h3,h4,h5,h6,h7,h8,h9,kN,rB⟩:=h
 unfold okF at e
 split at e<;>first | assumption | cases e
theorem CW (h:p 0 1∧p 1 1∧p 2 30∧p 32 32) (e:T6 a s=true):p a s:=by
 obtain ⟨h1,h2,h3,h4⟩:=h
 unfold T6 at e
 split at e<;>first | assumption | cases e
def T7 (x:Int) (a s:Nat):Prop:=view [] (aW prog bT 60 263 [.aa .u64 x,.int .i64 (.ofNat a),.int .i64 (.ofNat s)] ⟨mk [],200,0,0,True,[]⟩)=
  some (.eT [.aa .u64 (bits .and .u64 (x.fdiv (2^a)) (2^s-1)),.int .i64 0],(True∧true=true)∧true=true,200,[],[])
def T8 (x v:Int) (a s:Nat):Prop:=view [] (aW prog bT 60 264 [.aa .u64 x,.int .i64 (.ofNat a),.int .i64 (.ofNat s),.aa .u64 v] ⟨mk [],200,0,0,True,[.br false]⟩)=
  some (.eT [.aa .u64 (bits .or .u64 (bits .andNot .u64 x ((2^s-1)*2^a)) (u64.wrap (v*2^a))),.int .i64 0],((((True∧true=true)∧aq .neq (bits .andNot .u64 v (2^s-1)) 0=false)∧true=true)∧true=true)∧true=true,200,[],[])
theorem ME (x:Int) (e:T6 a s=true):T7 x a s:=CW (by unfold T7;(repeat' apply And.intro)<;>kernel_rfl) e
theorem MF (x v:Int) (e:okF a s=true):T8 x v a s:=CU (by unfold T8;(repeat' apply And.intro)<;>kernel_rfl) e
def T9 (x:Int) (a s:Nat):Prop:=rE x->bits .and .u64 (x.fdiv (2^a)) (2^s-1)=x/2^a%2^s
def Ua (x v:Int) (a s:Nat):Prop:=rE x->0<=v->v<2^s->bits .andNot .u64 v (2^s-1)=0∧bits .or .u64 (bits .andNot .u64 x ((2^s-1)*2^a)) (u64.wrap (v*2^a))=jh (2^a) (2^s) x v
theorem GM (x:Int) (e:T6 a s=true):T9 x a s:=CW (by
 unfold T9 rE
 refine ⟨?_,?_,?_,?_⟩<;>(rintro ⟨h0,h1⟩;rw [Int.fdiv_eq_ediv_of_nonneg _ (by decide)])
 ·exact bits_mask .u64 64 (by decide) jN 1 (by decide) _ (by omega) (by omega)
 ·exact bits_mask .u64 64 (by decide) jN 1 (by decide) _ (by omega) (by omega)
 ·exact bits_mask .u64 64 (by decide) jN 30 (by decide) _ (by omega) (by omega)
 ·exact bits_mask .u64 64 (by decide) jN 32 (by decide) _ (by omega) (by omega)) e
theorem Ub (x v:Int) (a s:Nat) (h0:0<=x) (h1:x<=18446744073709551615) (g0:0<=v) (g1:v<2^s) (hs:a+s<=64) (e0:v-(v/2^0%2^s)*2^0=0) (hv:v<=18446744073709551615) (e1:0<=x-(x/2^a%2^s)*2^a) (e2:(x-(x/2^a%2^s)*2^a)/2^a%2^s=0) (e3:x-(x/2^a%2^s)*2^a+v*2^a<=18446744073709551615) (e4:0<=v*2^a):
  bits .andNot .u64 v (2^s-1)=0∧bits .or .u64 (bits .andNot .u64 x ((2^s-1)*2^a)) (u64.wrap (v*2^a))=jh (2^a) (2^s) x v:=by
 have ew:u64.wrap (v*2^a)=v*2^a:=by rw [IntKind.wrap_u64];omega
 rw [ew,lz x a s h0 h1 hs _ rfl,GL _ v a s e1 g0 g1 e2 e3 _ rfl,lz v 0 s g0 hv (by omega) _ (by simp)]
 exact ⟨e0,rfl⟩
theorem GN (x v:Int) (e:okF a s=true):Ua x v a s:=CU (by
 unfold Ua rE
 (repeat' apply And.intro)<;>(rintro ⟨h0,h1⟩ g0 g1;exact Ub x v _ _ h0 h1 g0 g1 (by decide) (by omega) (by omega) (by omega) (by omega) (by omega) (by omega))) e
theorem mq {d:Nat} {v:AV} (h:view [] (aW prog sm d f args ⟨mk [],200,0,0,True,oo⟩)=some (v,pre,nx,wr,[])) (ij:eu prog sm) (aQ:pre) (ha: ∀ D:Nat->Prop,aR D args) (hv: ∀ D:Nat->Prop,v.aD D) (φ:bo) (w:World):
  Calls prog f (az φ args).toArray w (λe w'=>e= .returned (Jb1 φ v)∧XL w w'):=by
 obtain ⟨s',cW,rfl,_,_,_⟩:=b9 h
 obtain ⟨_,R,W,sp,ids,nX⟩:=sound named mixed ij d f args _ v s' cW
 have hg: ∀ b,St.get ⟨mk [],200,0,0,True,oo⟩ b=none:=λb=>yN b _
 refine (nX φ w aQ ⟨(λb o _ hb=>by rw [hg] at hb;cases hb),λb c _ _ hb=>absurd (hg b) hb⟩ (λb o _ hb=>by rw [hg] at hb;cases hb) (ha _)).mono ?_
 rintro e w' ⟨φ',rfl,hm⟩
 exact ⟨by rw [dD (D:=λ_=>False) (λi h=>h.elim) (hv _)],⟨λr hr=>hm.frame r hr λc _ hc=>absurd (hg c) hc,hm.size,hm.kept.1,hm.kept.2⟩⟩
theorem fe (ij:eu prog sm) {LQ:List AV} {v v':AV} {w:World} (h:view [] (aW prog sm 60 f LQ ⟨mk [],200,0,0,True,oo⟩)=some (v',pre,nx,wr,[])) (ha:az φ args=az φ LQ) (aQ:pre) (hv:Jb1 φ v'=Jb1 φ v) (h1: ∀ D:Nat->Prop,aR D LQ:=by (intro D;simp [AV.aD,aR])) (h2: ∀ D:Nat->Prop,v'.aD D:=by (intro D;simp [AV.aD,aR])):
  Calls prog f (az φ args).toArray w (λe w'=>e= .returned (Jb1 φ v)∧XL w w'):=by
 rw [ha,<- hv]
 exact mq h ij aQ h1 h2 φ w
theorem sL {k:IntKind} {a b:Int} {x:AV} (h:a=b):Jb1 φ (.eT [.aa k a,x])=Jb1 φ (.eT [.aa k b,x]):=by rw [h]
theorem MG:dJ prog 263 QT:=⟨⟨_,Tryz.func263,by kernel_rfl⟩,λargs v q h=>by
 unfold QT at h
 repeat' split at h
 all_goals first | cases h;done | skip
 rename_i x hx e
 cases h
 exact ⟨λD=>by simp [AV.aD,aR],λφ w hq=>fe bd (ME x e) (by simp only [az,Jb1,(cg hx φ).1]) ⟨⟨True.intro,rfl⟩,rfl⟩ (sL (GM x e hq))⟩⟩
theorem MH:dJ prog 264 QU:=⟨⟨_,Tryz.func264,by kernel_rfl⟩,λargs v q h=>by
 unfold QU at h
 repeat' split at h
 all_goals first | cases h;done | skip
 rename_i x v hx hy e
 cases h
 refine ⟨λD=>by simp [AV.aD,aR],λφ w hq=> ?_⟩
 obtain ⟨e1,e2⟩:=GN x v e hq.1 hq.2.1 hq.2.2
 exact fe bd (MF x v e) (by simp only [az,Jb1,(cg hx φ).1,(cg hy φ).1]) ⟨⟨⟨⟨⟨True.intro,rfl⟩,by rw [e1];rfl⟩,rfl⟩,rfl⟩,rfl⟩ (sL e2)⟩
theorem MI (p:Bool):view [] (aW prog bT 60 262 [.eS p] ⟨mk [],200,0,0,True,[.br p]⟩)=some (.int .u64 (gr p),True∧p=p,200,[],[]):=
 match p with
 | false | true=>by kernel_rfl
theorem QV:dJ prog 262 QS:=⟨⟨_,Tryz.func262,by kernel_rfl⟩,λargs v q h=>by
 unfold QS at h
 repeat' split at h
 all_goals first | cases h;done | skip
 rename_i b hx
 cases h
 exact ⟨λD=>by simp [AV.aD],λφ w _=>fe bd (MI b) (by simp only [az,Jb1,oS hx φ]) ⟨True.intro,rfl⟩ rfl⟩⟩
def yR (f:Nat):List (Nat×Pure)->Option Pure
 | []=>none
 | (g,p)::l=>match Nat.beq f g with
  | true=>some p
  | false=>yR f l
theorem p7 {f:Nat} {p:Pure}: ∀ {l:List (Nat×Pure)},yR f l=some p->(f,p)∈l
 | [],h=>by cases h
 | (g,q)::l,h=>by
  unfold yR at h
  split at h
  ·rename_i e
   cases h
   rw [Nat.eq_of_beq_eq_true e];simp
  ·simp [p7 h]
def CX:List (Nat×Pure):=[(262,QS),(263,QT),(264,QU)]
def du:kP:=λf=>match yR f CX with
 | some p=>some (sK p)
 | none=>none
theorem dg:eu prog du:=by
 intro f g hg args s v s' h
 unfold du at hg
 split at hg
 ·rename_i p hp
  cases hg
  have hm:=p7 hp
  simp only [CX,List.mem_cons,List.not_mem_nil,or_false,Prod.mk.injEq] at hm
  rcases hm with ⟨rfl,rfl⟩ | ⟨rfl,rfl⟩ | ⟨rfl,rfl⟩
  ·exact mn QV args s v s' h
  ·exact mn MG args s v s' h
  ·exact mn MH args s v s' h
 ·cases hg
end
end Qk
end Go.Proofs.YtpkfimijnkkbjaaGreat
