/- Code, and functions. -/
import Derived.Test.YtpkfimijnkkbjaaGreatJ04
set_option linter.unusedVariables false
namespace Go.Proofs.YtpkfimijnkkbjaaGreat
namespace Ev
section
variable {P:Program} {s s1 s2 s':St} {env cH xo cm:Env} {o:Op} {v:AV}
variable {c:Code} {Q:Exit->Act->World->Prop} {a:Act} {w:World} {nt:Nat} {T T':(Act->World->Prop)->Act->World->Prop}
def Ex.to:Ex->Exit
 | .normal=> .normal
 | .ret=> .ret
 | .exit id=> .exit id
def A5 (P:Program):Prop:= ∀ (call:FuncId->List AV->St->eO AV) (nt:Nat) (ops:Array Oper) (env cm:Env) (s s':St),gF P->iv P call->oH P call nt ops true env s= .ok cm s'->
 fE s s' env cm nt (λK a w=> ∀ (id:Nat) (Q:Exit->Act->World->Prop),(∀ a w,K a w->Q .normal a w)->(Code.region id ops true).wp P Q a w)
def bh (P:Program) (c:Code) (Q:Exit->Act->World->Prop) (a:Act) (w:World):Prop:=
 ∀ (b:Frame) (k:List Item) (cs:List Frame),∃ e a' w',Q e a' w'∧Arrives P (lone (b.at a (.code c:: .inLoop c::k)) cs w) b k cs e a' w'
theorem bh.of (h:c.wp P (Exit.then (bh P c Q) Q) a w):bh P c Q a w:=by
 intro b k cs
 obtain ⟨e,a₁,w₁,hq,Ah⟩:=h b (.inLoop c::k) cs
 cases e with
 | normal=>
  obtain ⟨e₂,a₂,w₂,hq₂,Wt⟩:=hq b k cs
  exact ⟨e₂,a₂,w₂,hq₂,.of_steps (Steps.trans Ah (.one step_inLoop)) Wt⟩
 | exit id=>exact ⟨_,a₁,w₁,hq,.pass (x:= .inLoop c) rfl (λ_ _=> .inl (by simp)) Ah⟩
 | goto l=>exact ⟨_,a₁,w₁,hq,.pass (x:= .inLoop c) rfl (λ_ _=> .inl (by simp)) Ah⟩
 | ret=>exact ⟨_,a₁,w₁,hq,.pass (x:= .inLoop c) rfl (λ_ _=> .inl (by simp)) Ah⟩
 | panic ch=>exact ⟨_,a₁,w₁,hq,.pass (x:= .inLoop c) rfl (λ_ _=> .inl (by simp)) Ah⟩
 | outgrown=>exact ⟨_,a₁,w₁,hq,.pass (x:= .inLoop c) rfl (λ_ _=> .inl (by simp)) Ah⟩
theorem bh.wp (h:bh P c Q a w):(Code.loop c).wp P Q a w:=by
 intro b k cs
 obtain ⟨e,a',w',hq,Ah⟩:=h b k cs
 exact ⟨e,a',w',hq,.of_steps (.one step_loop) Ah⟩
def T4 (P:Program) (c:Code) (x:Ex) (K:Act->World->Prop) (a:Act) (w:World):Prop:= ∀ Q:Exit->Act->World->Prop,(∀ a w,K a w->Q x.to a w)->c.wp P Q a w
def Pn (P:Program) (c:Code) (x:Ex) (K:Act->World->Prop) (a:Act) (w:World):Prop:= ∀ Q:Exit->Act->World->Prop,(∀ a w,K a w->Q x.to a w)->bh P c Q a w
theorem fE.mono (h:fE s s' env cm nt T) (hT: ∀ K a w,T K a w->T' K a w):fE s s' env cm nt T':=by
 obtain ⟨R,W,h1,h2,h3⟩:=h
 exact ⟨R,W,h1,h2,λφ w a K hp fy he hf ho cF hK=>hT K a w (h3 φ w a K hp fy he hf ho cF hK)⟩
theorem fE.asked {s0 : St} (hq : bC s s0 (λ_ => False)) (h : fE s0 s' env cm nt T)
    (hT : ∀ K φ a w, s0.pre -> oO φ env a.tmps -> T K a w -> T' K a w) : fE s s' env cm nt T' := by
  obtain ⟨R, W, h1, h2, h3⟩ := h
  refine ⟨R, W, ?_, ?_, λφ w a K hp fy he hf ho cF hK => hT K φ a w (h1.pre hp) he ?_⟩
  · have := hq.sp.trans h1
    exact { next := this.next, same := λb hb => this.same b (λh => hb (h.resolve_left id)), sub := h1.sub, rd := h1.rd, wr := h1.wr, rdm := this.rdm, wrm := this.wrm,
            lt := λb hb hn => this.lt b (.inr hb) hn, made := λb hb oE => (this.made b hb oE).resolve_left id, born := this.born, pre := this.pre }
  · intro D hp hD cF hR
    exact h2 D hp (λi hi iS => hD i (by rw [<- hq.next]; exact hi) iS) cF (λb o hb hg => hR b o hb (by rw [<- hq.get]; exact hg))
  · have hf0 : Fits s0 R φ w := ⟨λb o hb hg => hf.holds b o hb (by rw [<- hq.get]; exact hg), λb c hb hc ki gN => hf.inj b c hb hc (by rw [<- hq.get]; exact ki) (by rw [<- hq.get]; exact gN)⟩
    have Z4 : l9 s0 R := λb o hb hg => by rw [hq.next]; exact ho b o hb (by rw [<- hq.get]; exact hg)
    refine h3 φ w a K hp fy he hf0 Z4 (by rw [hq.next]; exact cF) λφ' w' a' hm => hK φ' w' a' ?_
    exact ⟨λj hj => hm.eH j (by rw [hq.next]; exact hj), hm.holds, hm.inj,
        λb hb hg => (hm.source b hb hg).imp id λ⟨c, hc, gN, he⟩ => ⟨c, hc, by rw [<- hq.get]; exact gN, he⟩,
        λk hk hc => hm.frame k hk λc ud gN => hc c ud (by rw [<- hq.get]; exact gN), hm.size, hm.kept⟩
theorem bE {call:FuncId->List AV->St->eO AV} (hn:gF P) (hd:A5 P) (hc:iv P call):
  ∀ (f:Nat),(∀ (c:Code) (env cm:Env) (s s':St) (x:Ex),aP P call nt f c env s= .ok (x,cm) s'->fE s s' env cm nt (T4 P c x))∧
   (∀ (c:Code) (env cm:Env) (s s':St) (x:Ex),aP P call nt f (.loop c) env s= .ok (x,cm) s'->fE s s' env cm nt (Pn P c x)):=by
 intro f
 induction f with
 | zero=>exact ⟨λc env cm s s' x h=>(by cases h),λc env cm s s' x h=>(by cases h)⟩
 | succ f ih=>
  obtain ⟨F9,ih2⟩:=ih
  have loop: ∀ (c:Code) (env cm:Env) (s s':St) (x:Ex),aP P call nt (f+1) (.loop c) env s= .ok (x,cm) s'->fE s s' env cm nt (Pn P c x):=by
   intro c env cm s s' x h
   simp only [aP] at h
   split at h
   ·rename_i cH s1 h1
    refine fE.trans (F9 _ _ _ _ _ _ h1) (ih2 _ _ _ _ _ _ h) λK a w hT Q hQ=>bh.of (hT _ λa w hL=> ?_)
    exact hL Q hQ
   ·rename_i bq
    refine (F9 _ _ _ _ _ _ h).mono λK a w hT Q hQ=>bh.of (hT _ λa w hK=> ?_)
    cases x with
    | normal=>exact (bq _ _ h).elim
    | ret=>exact hQ a w hK
    | exit id=>exact hQ a w hK
  refine ⟨?_,loop⟩
  intro c env cm s s' x h
  cases c with
  | skip=>simp only [aP] at h;cases h;exact fE.refl λK a w hK Q hQ=>wp_skip (hQ a w hK)
  | region id ops draw=>
   simp only [aP] at h
   split at h
   ·rename_i cH s1 h1
    cases h
    cases draw
    ·unfold oH at h1
     refine (uW (Q:=λ_ _ _=>True) hn hc ops.toList 0 env cm s s' h1 (λj=>by simp)).mono λK a w hT Q hQ=>wp_region ?_
     have:=hT Q hQ
     rw [Array.length_toList] at this
     rw [List.range_eq_range']
     exact this
    ·exact (hd call nt ops env cm s s' hn hc h1).mono λK a w hT Q hQ=>hT id Q hQ
   ·cases h
  | seq c1 c2=>
   simp only [aP] at h
   split at h
   ·rename_i cH s1 h1
    exact fE.trans (F9 _ _ _ _ _ _ h1) (F9 _ _ _ _ _ _ h) λK a w hT Q hQ=>wp_seq (hT _ λa w h2=>h2 Q hQ)
   ·rename_i bq
    refine (F9 _ _ _ _ _ _ h).mono λK a w hT Q hQ=>wp_seq (hT _ λa w hK=> ?_)
    cases x with
    | normal=>exact (bq _ _ h).elim
    | ret=>exact hQ a w hK
    | exit id=>exact hQ a w hK
  | cond y c1 c2=>
   simp only [aP] at h
   have ev: ∀ {φ:bo} {a:Act} {u:AV},oO φ env a.tmps->dM env y=some u->a.eval y=Jb1 φ u:=λhe hu=>oP (λt _ u hu=>he t u hu) hu
   split at h
   ·rename_i hy
    exact fE.asked (bC.refl s) (F9 _ _ _ _ _ _ h) λK φ a w _ he hT Q hQ=>wp_cond_true (ev he hy) (hT Q hQ)
   ·rename_i hy
    exact fE.asked (bC.refl s) (F9 _ _ _ _ _ _ h) λK φ a w _ he hT Q hQ=>wp_cond_false (ev he hy) (hT Q hQ)
   ·rename_i q hy
    obtain ⟨hp,n,rd,wr,p,oo⟩:=s
    split at h
    ·rename_i vA he
     injection he with e1 e2 e3 e4 e5 e6
     subst e1 e2 e3 e4 e5 e6
     refine fE.asked (s:=⟨hp,n,rd,wr,p,.br true::vA⟩) (s0:=⟨hp,n,rd,wr,p∧q=true,vA⟩) ⟨rfl,rfl,λ_ h=>h.elim,λ_ h=>h,λ_ h=>h,λh=>h.1⟩ (F9 _ _ _ _ _ _ h) λK φ a w aQ he hT Q hQ=> ?_
     have hq:q=true:=aQ.2
     subst hq
     exact wp_cond_true (ev he hy) (hT Q hQ)
    ·rename_i vA he
     injection he with e1 e2 e3 e4 e5 e6
     subst e1 e2 e3 e4 e5 e6
     refine fE.asked (s:=⟨hp,n,rd,wr,p,.br false::vA⟩) (s0:=⟨hp,n,rd,wr,p∧q=false,vA⟩) ⟨rfl,rfl,λ_ h=>h.elim,λ_ h=>h,λ_ h=>h,λh=>h.1⟩ (F9 _ _ _ _ _ _ h) λK φ a w aQ he hT Q hQ=> ?_
     have hq:q=false:=aQ.2
     subst hq
     exact wp_cond_false (ev he hy) (hT Q hQ)
    ·cases h
   ·cases h
  | block id c1=>
   simp only [aP] at h
   split at h
   ·rename_i i cH s1 h1
    split at h
    ·rename_i hi
     cases h
     have iS:=Nat.eq_of_beq_eq_true hi
     subst iS
     refine (F9 _ _ _ _ _ _ h1).mono λK a w hT Q hQ=>wp_block (hT _ λa w hK=> ?_)
     show (if i=i then Q .normal a w else Q (.exit i) a w)
     rw [if_pos rfl];exact hQ a w hK
    ·rename_i hi
     cases h
     have iS:=Nat.ne_of_beq_eq_false hi
     refine (F9 _ _ _ _ _ _ h1).mono λK a w hT Q hQ=>wp_block (hT _ λa w hK=> ?_)
     show (if i=id then Q .normal a w else Q (.exit i) a w)
     rw [if_neg iS];exact hQ a w hK
   ·rename_i bq
    refine (F9 _ _ _ _ _ _ h).mono λK a w hT Q hQ=>wp_block (hT _ λa w hK=> ?_)
    cases x with
    | normal=>exact hQ a w hK
    | ret=>exact hQ a w hK
    | exit id'=>exact (bq _ _ _ h).elim
  | loop c1=>exact (loop c1 env cm s s' x h).mono λK a w hT Q hQ=>bh.wp (hT Q hQ)
  | exit id=>simp only [aP] at h;cases h;exact fE.refl λK a w hK Q hQ=>wp_exit (hQ a w hK)
  | ret=>simp only [aP] at h;cases h;exact fE.refl λK a w hK Q hQ=>wp_ret (hQ a w hK)
  | rangeFunc _ _ _ _=>cases h
  | scope _=>cases h
  | label _=>cases h
  | goto _=>cases h
  | refuse _=>cases h
end
section
variable {P:Program} {s s1 s2 s':St} {env cH xo cm:Env} {o:Op} {v:AV}
variable {t:TypeId} {tmps:Array Value} {u:Value}
theorem GC {α:Type} {b off:Nat} {k:AV->St->eO α} {a:α} (h:loadT P t s b off k= .ok a s'):
  ∃ u s1,bC s s1 (λc=>c=b)∧k u s1= .ok a s'∧(∀ D:Nat->Prop,s1.pre->(∀ c o,c=b->s.get c=some o->o.aD D)->u.aD D)∧
   ∀ φ w,s1.pre->Fits s (λc=>c=b) φ w->(loadVar t ⟨(φ b).dp,off,none⟩).run P w= .ok (Jb1 φ u) w:=by
 unfold loadT at h
 split at h
 ·rename_i ha
  obtain ⟨sy,l,t',q,vs,s1,hg,hq,aQ,h⟩:=mh h
  refine ⟨_,s1,hq,h,λD hp hR=> ?_,λφ w hp hf=> ?_⟩
  ·obtain ⟨h1,h2⟩:=aQ hp
   unfold AV.aD
   exact g9 (hR b _ rfl hg) (λi hi=>h2 i (by omega))
  ·obtain ⟨h1,h2⟩:=aQ hp
   have hl:=uM (P:=P) (hf.holds b _ rfl hg) (off:=off) (vs:=vs) (λi hi=>h2 i (by omega))
   obtain ⟨h3,h4⟩:=lq ha w
   rw [h1] at hl
   simp [Jb1,loadVar,h3,h4,hl]
 ·rename_i ha
  obtain ⟨sy,l,t',q,vs,s1,hg,hq,aQ,h⟩:=mh h
  split at h
  ·rename_i u
   refine ⟨_,s1,hq,h,λD hp hR=> ?_,λφ w hp hf=> ?_⟩
   ·obtain ⟨h1,h2⟩:=aQ hp
    have:=h2 0 (by omega)
    simp at this
    exact jf (hR b _ rfl hg) this
   ·obtain ⟨h1,h2⟩:=aQ hp
    have:=h2 0 (by omega)
    simp at this
    have hl:=(hf.holds b _ rfl hg).cell this
    obtain ⟨h3,h4⟩:=lq ha w
    simp [loadVar,h3,hl]
  ·cases h
 ·cases h
def uX (tmps:Array Value) (x:ResultVar):Sem Value:=match x with
 | .tmp t=>pure (tmps.getD t undef)
 | .cell a t=>do loadVar t (<- asAddr (tmps.getD a undef))
theorem yF {t:Tmp} (h:tmps[t]?=some u) (w:World):(uX tmps (.tmp t)).run P w= .ok u w:=by simp [uX,h]
theorem vQ {a:Tmp} {ad:Addr} (h:tmps[a]?=some (.pointer (some ad))) {w:World} (hl:(loadVar t ad).run P w= .ok u w):(uX tmps (.cell a t)).run P w= .ok u w:=by simp [uX,h,asAddr,hl]
theorem sF (fn:Func) (tmps:Array Value):results fn tmps=(do
  let vs <- fn.results.mapM (uX tmps)
  pure (if h:vs.size=1 then vs[0] else .tuple vs)):=rfl
theorem gq: ∀ (l:List ResultVar) (s s':St) (vs:List AV),dW P env l s= .ok vs s'->
  ∃ R,bC s s' R∧(∀ D:Nat->Prop,s'.pre->fc D env->(∀ b o,R b->s.get b=some o->o.aD D)->aR D vs)∧
   ∀ φ w tmps,s'.pre->Fits s R φ w->oO φ env tmps->(l.mapM (uX tmps)).run P w= .ok (az φ vs) w
 | [],s,s',vs,h=>by
  simp only [dW] at h
  cases h
  exact ⟨_,bC.refl s,λD _ _ _=>trivial,λφ w tmps _ _ _=>by simp [az]⟩
 | .tmp t::l,s,s',vs,h=>by
  simp only [dW] at h
  split at h
  ·cases h
  ·rename_i v hv
   split at h
   ·rename_i r s1 hr
    cases h
    obtain ⟨R,hq,hid,TC⟩:=gq l s s' r hr
    refine ⟨R,hq,λD hp he hR=>⟨he t v hv,hid D hp he hR⟩,λφ w tmps hp hf he=> ?_⟩
    have h1:=he t v hv
    have h2:=TC φ w tmps hp hf he
    simp [List.mapM_cons,yF (P:=P) h1,h2,az]
   ·cases h
 | .cell a t::l,s,s',vs,h=>by
  simp only [dW] at h
  split at h
  ·rename_i b off hv
   obtain ⟨u,s1,lX,h,xg,CG⟩:=GC h
   split at h
   ·rename_i r s2 hr
    cases h
    obtain ⟨R,hq,hid,TC⟩:=gq l s1 s' r hr
    refine ⟨_,lX.trans hq,λD hp he hR=>⟨xg D (hq.pre hp) (λc o hc hg=>hR c o (.inl hc) hg),hid D hp he (λc o hc hg=>hR c o (.inr hc) (by rw [<- lX.get];exact hg))⟩,λφ w tmps hp hf he=> ?_⟩
    have h1:=he a _ hv
    have FW:Fits s1 R φ w:=⟨λc o hc hg=>hf.holds c o (.inr hc) (by rw [<- lX.get];exact hg),λc d hc hd gN pO=>hf.inj c d (.inr hc) (.inr hd) (by rw [<- lX.get];exact gN) (by rw [<- lX.get];exact pO)⟩
    have h2:=TC φ w tmps hp FW he
    have h3:=CG φ w (hq.pre hp) (hf.mono λc hc=> .inl hc)
    simp [List.mapM_cons,vQ (P:=P) h1 h3,h2,az]
   ·cases h
  ·cases h
theorem jL: ∀ (l:List AV) (i t:Nat),(eG l i).look t=if i<=t then l[t-i]? else none
 | [],i,t=>by simp [eG,Env.look]
 | v::l,i,t=>by
  simp only [eG]
  rw [hJ,jL l (i+1) t]
  by_cases h:i=t
  ·subst h;simp
  ·rw [if_neg h]
   by_cases h2:i<=t
   ·rw [if_pos (by omega),if_pos h2,show t-i=(t-(i+1))+1 by omega];simp
   ·rw [if_neg (by omega),if_neg h2]
def eu (P:Program) (sm:kP):Prop:= ∀ f g,sm f=some g-> ∀ args s v s',g args s= .ok v s'->(∃ fn,P.funcs[f]?=some fn∧fn.body.isSome=true)∧
  ∃ R W,Sp s s' R W∧nG s s' R W (λD=>aR D args) (λD=>v.aD D)∧
   ∀ φ w,s'.pre->Fits s R φ w->l9 s R->aR (· < s.next) args->
    Calls P f (az φ args).toArray w (λe w'=> ∃ φ',e= .returned (Jb1 φ' v)∧dG s s' W φ φ' w w')
theorem bd:eu P bT:=λ_ _ h=>by cases h
theorem Mz (hn:gF P) (hd:A5 P) {sm:kP} (ij:eu P sm): ∀ d,iv P (aW P sm d):=by
 intro d
 induction d with
 | zero=>intro f args s v s' h;cases h
 | succ d ih=>
  intro f args s v s' h
  simp only [aW] at h
  split at h
  ·rename_i g hg
   exact ij f g hg args s v s' h
  split at h
  ·cases h
  rename_i fn hf
  split at h
  ·cases h
  rename_i c hb
  split at h
  ·cases h
  rename_i dP
  have Qq:=Nat.le_of_ble_eq_true dP
  rw [jF] at Qq
  split at h
  ·cases h
  rename_i x cH s1 h1
  refine ⟨⟨fn,hf,by rw [hb];rfl⟩,?_⟩
  have key: ∀ (q:Value->AV->Prop),(x= .normal∨x= .ret)->(∃ vs,dW P cH fn.results.toList s1= .ok vs s'∧((vs=[v])∨(vs.length≠1∧v= .eT vs)))-> ∃ R W,Sp s s' R W∧nG s s' R W (λD=>aR D args) (λD=>v.aD D)∧
    ∀ φ w,s'.pre->Fits s R φ w->l9 s R->aR (· < s.next) args->Calls P f (az φ args).toArray w (λe w'=> ∃ φ',e= .returned (Jb1 φ' v)∧dG s s' W φ φ' w w'):=by
   intro _ hx ⟨vs,hr,P8⟩
   obtain ⟨R1,W1,xw,id1,SQ⟩:=(bE hn hd ih (nt:=fn.ntmps) 100000).1 c _ _ _ _ _ h1
   obtain ⟨R2,hq,TQ,Le⟩:=gq _ _ _ _ hr
   have Yt:nG s1 s' R2 (λ_=>False) (λD=>fc D cH) (λD=>v.aD D):=hq.ids λD hp he hR=>by
    have:=TQ D hp he hR
    rcases P8 with rfl | ⟨_,rfl⟩
    ·exact this.1
    ·unfold AV.aD;exact this
   have Zz:nG s s1 R1 W1 (λD=>aR D args) (λD=>fc D cH):=λD hp hD cF hR=>id1 D hp hD (λt u hu=>by
    rw [jL] at hu
    rw [if_pos (Nat.zero_le _)] at hu
    exact jf cF hu) hR
   refine ⟨_,_,xw.trans hq.sp,nG.trans xw hq.sp Zz Yt,λφ w hp bx ho cF=> ?_⟩
   have ua:=hq.pre hp
   have kO: ∀ b,R1 b->(R1 b∨R2 b):=λb hb=> .inl hb
   have kz: ∀ b,R2 b->(R1 b∨R2 b):=λb hb=> .inr hb
   refine calls_of_wp hf hb ?_
   have LO:((az φ args).toArray++Array.replicate (fn.ntmps-(az φ args).toArray.size) undef).size=fn.ntmps:=by
    simp [bc];omega
   have rN:oO φ (eG args 0) ((az φ args).toArray++Array.replicate (fn.ntmps-(az φ args).toArray.size) undef):=by
    intro t u hu
    rw [jL,if_pos (Nat.zero_le _),Nat.sub_zero] at hu
    have dA:=(List.getElem?_eq_some_iff.1 hu).1
    rw [Array.getElem?_append_left (by simpa [bc] using dA)]
    simp [eQ,hu]
   have Pe:fc (· < s.next) (eG args 0):=λt u hu=>by
    rw [jL,if_pos (Nat.zero_le _)] at hu
    exact jf cF hu
   have jJ:=SQ φ w ⟨(az φ args).toArray++Array.replicate (fn.ntmps-(az φ args).toArray.size) undef,[]⟩
    (λa w'=>a.defers=[]∧ ∃ u,(results fn a.tmps).run P w'= .ok u w'∧ ∃ φ',u=Jb1 φ' v∧dG s s' (λb=>W1 b∨False) φ φ' w w')
    ua LO rN (bx.mono kO) (ho.mono kO) Pe ?_
   ·refine jJ _ ?_
    intro a w' ⟨VO,u,hu,φ',FJ,hm⟩
    have:bodyPost P fn (λe w'=> ∃ φ',e= .returned (Jb1 φ' v)∧dG s s' (λb=>W1 b∨False) φ φ' w w') .normal a w':=⟨VO,u,hu,φ',by rw [FJ],hm⟩
    rcases hx with rfl | rfl
    ·exact this
    ·exact this
   ·intro φ1 w1 a1 se WB Z5 Wy
    have FW:=bx.step xw se ho kO
    have OW:fc (· < s1.next) (eG args 0):=λt u hu=>(Pe t u hu).mono λi hi=>Nat.lt_of_lt_of_le hi xw.next
    have DZ:=ho.step xw id1 ua OW kO
    refine ⟨Z5,Jb1 φ1 v,?_,φ1,rfl,?_⟩
    ·have CE:=Le φ1 w1 a1.tmps hp (FW.mono kz) Wy
     rw [sF]
     simp only [Sem.run_bind,Array.mapM_eq_mapM_toList]
     rcases P8 with rfl | ⟨bq,rfl⟩
     ·simp [CE,az]
     ·simp [CE,bc,bq,Jb1]
    ·exact dG.trans xw hq.sp se (dG.refl _ _ _ _) bx ho FW DZ kO kz
  cases x with
  | exit id=>cases h
  | normal=>
   refine key (λ_ _=>True) (.inl rfl) ?_
   simp only at h
   split at h
   ·cases h
   ·rename_i hr;cases h;exact ⟨_,hr,.inl rfl⟩
   ·rename_i vs _ bq hr
    cases h
    refine ⟨_,hr,.inr ⟨λhl=> ?_,rfl⟩⟩
    match vs,hl with
    | [u],_=>exact bq _ rfl
  | ret=>
   refine key (λ_ _=>True) (.inr rfl) ?_
   simp only at h
   split at h
   ·cases h
   ·rename_i hr;cases h;exact ⟨_,hr,.inl rfl⟩
   ·rename_i vs _ bq hr
    cases h
    refine ⟨_,hr,.inr ⟨λhl=> ?_,rfl⟩⟩
    match vs,hl with
    | [u],_=>exact bq _ rfl
end
section
def yG (ops:Array Oper):List Nat:=fq ops.toList []
def cw (ops:Array Oper) (j i:Nat):Prop:=Nat.testBit ((yG ops)[j]?.getD 0) i=true
theorem lv: ∀ (l:List Oper) (tab:List Nat),∃ rest,fq l tab=tab++rest∧rest.length=l.length
 | [],tab=>⟨[],by simp [fq],rfl⟩
 | o::l,tab=>by
  obtain ⟨rest,h1,h2⟩:=lv l (tab++[gO o.after.toList tab])
  exact ⟨gO o.after.toList tab::rest,by simp only [fq,h1,List.append_assoc,List.singleton_append],by simp [h2]⟩
theorem qZ: ∀ (l:List Oper) (tab:List Nat) (j:Nat) (o:Oper),l[j]?=some o->
  (fq l tab)[tab.length+j]?=some (gO o.after.toList ((fq l tab).take (tab.length+j)))
 | [],tab,j,o,h=>by simp at h
 | p::l,tab,0,o,h=>by
  simp at h
  subst h
  simp only [fq,Nat.add_zero]
  obtain ⟨rest,h1,_⟩:=lv l (tab++[gO p.after.toList tab])
  rw [h1]
  simp
 | p::l,tab,j+1,o,h=>by
  simp only [fq]
  have:=qZ l (tab++[gO p.after.toList tab]) j o (by simpa using h)
  simp only [List.length_append,List.length_singleton] at this
  rw [show tab.length+(j+1)=tab.length+1+j by omega]
  exact this
theorem vR (r b c:Nat):(mark r b).testBit c=(r.testBit c||decide (b=c)):=by
 unfold mark;change (r ||| 1 <<< b).testBit c=_
 rw [Nat.testBit_or,Nat.one_shiftLeft,Nat.testBit_two_pow]
theorem re (tab:List Nat) (i:Nat): ∀ (es:List Edge),(gO es tab).testBit i=true↔ ∃ e∈es,Region.binds .any e=true∧(e.on=i∨(tab[e.on]?.getD 0).testBit i=true)
 | []=>by simp [gO]
 | e::es=>by
  simp only [gO]
  have ih:=re tab i es
  cases hb:Region.binds .any e with
  | false=>simp [ih,hb]
  | true=>
   simp only
   change ((mark _ e.on) ||| (gO es tab)).testBit i=true↔_
   rw [Nat.testBit_or,vR]
   simp only [Bool.or_eq_true,decide_eq_true_eq,ih,List.mem_cons,exists_eq_or_imp,hb,true_and]
   constructor
   ·rintro ((h | h) | h)
    ·exact .inl (.inr h)
    ·exact .inl (.inl h)
    ·exact .inr h
   ·rintro ((h | h) | h)
    ·exact .inl (.inr h)
    ·exact .inl (.inl h)
    ·exact .inr h
def rD (ops:Array Oper):Prop:= ∀ j r,ops[j]?=some r-> ∀ e∈r.after,Region.binds .any e=true->e.on<j
variable {ops:Array Oper}
theorem jW (hb:rD ops) {j i:Nat} {r:Oper} (hr:ops[j]?=some r):cw ops j i↔ ∃ e∈r.after,Region.binds .any e=true∧(e.on=i∨cw ops e.on i):=by
 have h1:=qZ ops.toList [] j r (by simpa using hr)
 simp only [List.length_nil,Nat.zero_add] at h1
 unfold cw yG
 rw [h1,Option.getD_some,re]
 constructor
 ·rintro ⟨e,he,ui,h⟩
  refine ⟨e,by simpa using he,ui,h.imp id λh=> ?_⟩
  have dA:=hb j r hr e (by simpa using he) ui
  rwa [List.getElem?_take_of_lt dA] at h
 ·rintro ⟨e,he,ui,h⟩
  refine ⟨e,by simpa using he,ui,h.imp id λh=> ?_⟩
  have dA:=hb j r hr e he ui
  rwa [List.getElem?_take_of_lt dA]
theorem mm {j i:Nat} (hr:ops[j]?=none): ¬ cw ops j i:=by
 unfold cw yG
 obtain ⟨rest,h1,h2⟩:=lv ops.toList []
 rw [h1]
 have:ops.size<=j:=by simpa using hr
 rw [List.getElem?_eq_none (by simp [h2];exact this)]
 simp
theorem uY (hb:rD ops): ∀ (j i:Nat),cw ops j i->i<j:=by
 intro j
 induction j using Nat.strongRecOn with
 | _ j ih=>
  intro i h
  cases hr:ops[j]? with
  | none=>exact (mm hr h).elim
  | some r=>
   obtain ⟨e,he,ui,h'⟩:=(jW hb hr).1 h
   have dA:=hb j r hr e he ui
   rcases h' with h' | h'
   ·omega
   ·exact Nat.lt_trans (ih e.on dA i h') dA
theorem before_trans (hb:rD ops): ∀ (j i k:Nat),cw ops j i->cw ops i k->cw ops j k:=by
 intro j
 induction j using Nat.strongRecOn with
 | _ j ih=>
  intro i k h hk
  cases hr:ops[j]? with
  | none=>exact (mm hr h).elim
  | some r=>
   obtain ⟨e,he,ui,h'⟩:=(jW hb hr).1 h
   have dA:=hb j r hr e he ui
   refine (jW hb hr).2 ⟨e,he,ui,.inr ?_⟩
   rcases h' with h' | h'
   ·rw [h'];exact hk
   ·exact ih e.on dA i k h' hk
def sG (ops:Array Oper) (L:Nat->Prop):Prop:= ∀ j r,L j->ops[j]?=some r-> ∀ e∈r.after,Region.binds .any e=true->L e.on
theorem sG.before (hb:rD ops) {L:Nat->Prop} (hc:sG ops L): ∀ (j i:Nat),L j->cw ops j i->L i:=by
 intro j
 induction j using Nat.strongRecOn with
 | _ j ih=>
  intro i hl h
  cases hr:ops[j]? with
  | none=>exact (mm hr h).elim
  | some r=>
   obtain ⟨e,he,ui,h'⟩:=(jW hb hr).1 h
   have nj:=hc j r hl hr e he ui
   rcases h' with h' | h'
   ·rw [<- h'];exact nj
   ·exact ih e.on (hb j r hr e he ui) i nj h'
theorem sG.ready (hb:rD ops) {L:Nat->Prop} (hc:sG ops L) {j i:Nat} {r:Oper} (hr:ops[j]?=some r) (hp: ∀ e∈r.after,Region.binds .any e=true->L e.on) (h:cw ops j i):L i:=by
 obtain ⟨e,he,ui,h'⟩:=(jW hb hr).1 h
 rcases h' with h' | h'
 ·rw [<- h'];exact hp e he ui
 ·exact hc.before hb e.on i (hp e he ui) h'
theorem yH {tab:List Nat} {j:Nat} {oj:Oper}: ∀ (l:List Oper) (i0:Nat),xO ops tab j oj l i0=true-> ∀ k oi,l[k]?=some oi->i0+k<j->AX ops 0 ((tab[j]?).getD 0) (i0+k) j oi oj=true
 | [],i0,_,k,oi,h,_=>by simp at h
 | o::l,i0,h,k,oi,hk,dA=>by
  simp only [xO] at h
  have hb:Nat.blt i0 j=true:=Nat.ble_eq_true_of_le (by omega)
  rw [hb] at h
  simp only [Bool.and_eq_true] at h
  cases k with
  | zero=>simp at hk;subst hk;exact h.1
  | succ k=>
   have:=yH l (i0+1) h.2 k oi (by simpa using hk) (by omega)
   rw [show i0+(k+1)=i0+1+k by omega]
   exact this
theorem nW {tab:List Nat}: ∀ (l:List Oper) (j0:Nat),rQ ops tab l j0=true-> ∀ k r,l[k]?=some r->
  (∀ e∈r.after,Region.binds .any e=true->e.on<j0+k)∧xO ops tab (j0+k) r ops.toList 0=true
 | [],j0,_,k,r,h=>by simp at h
 | o::l,j0,h,k,r,hk=>by
  simp only [rQ,Bool.and_eq_true] at h
  cases k with
  | zero=>
   simp at hk
   subst hk
   refine ⟨λe he hb=> ?_,h.1.2⟩
   have:=List.all_eq_true.1 h.1.1 e (by simpa using he)
   rw [hb] at this
   simp only [Bool.not_true,Bool.false_or] at this
   exact Nat.le_of_ble_eq_true this
  | succ k=>
   have:=nW l (j0+1) h.2 k r (by simpa using hk)
   rw [show j0+(k+1)=j0+1+k by omega]
   exact this
theorem Em (h:AY ops=true):rD ops∧ ∀ i j ri rj,i<j->ops[i]?=some ri->ops[j]?=some rj-> ¬ cw ops j i->
  (∀ d,ri.dst=some d->d ∉ ay ops rj)∧(∀ d,ri.dst=some d->rj.dst≠some d)∧(∀ d,rj.dst=some d->d ∉ ay ops ri):=by
 unfold AY at h
 refine ⟨λj r hr e he hb=> ?_,λi j ri rj XJ hi hj OV=> ?_⟩
 ·have:=(nW ops.toList 0 h j r (by simpa using hr)).1 e he hb
  omega
 ·have h1:=(nW ops.toList 0 h j rj (by simpa using hj)).2
  rw [Nat.zero_add] at h1
  have h2:=yH ops.toList 0 h1 i ri (by simpa using hi) (by omega)
  rw [Nat.zero_add] at h2
  unfold AX at h2
  have hf:Nat.testBit ((fq ops.toList [])[j]?.getD 0) i=false:=by
   cases hq:Nat.testBit ((fq ops.toList [])[j]?.getD 0) i with
   | false=>rfl
   | true=>exact absurd hq OV
  rw [hf] at h2
  simp only [Bool.false_or,Bool.and_eq_true] at h2
  refine ⟨λd hd=> ?_,λd hd=> ?_,λd hd=> ?_⟩
  ·have:=h2.1;rw [hd] at this;simp at this;exact this.1
  ·have:=h2.1;rw [hd] at this;simp at this;exact this.2
  ·have:=h2.2;rw [hd] at this;simp at this;exact this
end
section
variable {P:Program} {ops:Array Oper} {nt:Nat}
structure QN (P : Program) (ops : Array Oper) (nt j : Nat) (r : Oper) (s s' : St) (e e' : Env) (v : AV) (R W : Nat -> Prop) : Prop where
  next : s.next <= s'.next
  same : ∀ b, ¬ W b -> s'.get b = s.get b
  sub : ∀ b, W b -> R b
  lt : ∀ b, W b -> s.get b = none -> b < s'.next
  made : ∀ b, s.next <= b -> b < s'.next -> W b
  born : ∀ b, s.get b = none -> s'.get b ≠ none -> s.next <= b
  pre : s'.pre -> s.pre
  ids : nG s s' R W (λD => gQ D e ops r) (λD => v.aD D)
  nX : ∀ (φ : bo) (w : World) (a : Act) (K : Act -> World -> Prop) (Q : Exit -> Act -> World -> Prop), s'.pre -> Fits s R φ w -> l9 s R -> gQ (· < s.next) e ops r -> Seen φ e ops r a.tmps ->
        (∀ φ' w', dG s s' W φ φ' w w' -> K (a.put r.dst (Jb1 φ' v)) w') -> wpOp P ops Q j K a w
  put : jE nt r.dst v e = some e'
def Clean (s:St):St:=⟨s.heap,s.next,0,0,s.pre,s.AG⟩
structure yI (P:Program) (ops:Array Oper) (nt lo hi:Nat) (S:Nat->St) (E:Nat->Env) (V:Nat->AV) (R W:Nat->Nat->Prop):Prop where
 step: ∀ j,lo<=j->j<hi-> ∃ r,ops[j]?=some r∧QN P ops nt j r (S j) (S (j+1)) (E j) (E (j+1)) (V j) (R j) (W j)
 apart: ∀ i j,lo<=i->i<j->j<hi-> ¬ cw ops j i-> ∀ b,(W i b-> ¬ R j b)∧(R i b-> ¬ W j b)
theorem oQ {x y b:Nat} (h:Nat.beq (Nat.land x y) 0=true) (hx:x.testBit b=true):y.testBit b=false:=by
 have h0:x &&& y=0:=Nat.eq_of_beq_eq_true h
 have:=congrArg (·.testBit b) h0
 simp only [Nat.testBit_and,hx,Bool.true_and,Nat.zero_testBit] at this
 exact this
theorem sH {tj rd wr:Nat}: ∀ {rJ:List (Nat×Nat×Nat)},clear tj rd wr rJ=true-> ∀ q∈rJ,Nat.testBit tj q.1=false-> ∀ b,(q.2.2.testBit b=true->rd.testBit b=false)∧(q.2.1.testBit b=true->wr.testBit b=false)
 | [],_,q,hq,_=>by cases hq
 | (i,r,w)::l,h,q,hq,hb=>by
  simp only [clear] at h
  split at h
  ·rename_i ht
   rcases List.mem_cons.1 hq with rfl | hq
   ·rw [ht] at hb;cases hb
   ·exact sH h q hq hb
  ·split at h
   ·rename_i h1 h2
    rcases List.mem_cons.1 hq with rfl | hq
    ·exact λb=>⟨oQ h1,oQ h2⟩
    ·exact sH h q hq hb
   ·cases h
theorem oR {call : FuncId -> List AV -> St -> eO AV} (hn : gF P) (hc : iv P call) :
    ∀ (l : List Oper) (j : Nat) (env cm : Env) (rJ : List (Nat × Nat × Nat)) (ar aw : Nat) (s s' : St), sr P call nt ops (yG ops) l j env rJ ar aw s = .ok cm s' -> (∀ k, l[k]? = ops[j + k]?) ->
      (∀ q ∈ rJ, ∀ b, (q.2.1.testBit b = true -> ar.testBit b = true) ∧ (q.2.2.testBit b = true -> aw.testBit b = true)) ->
      ∃ (S : Nat -> St) (E : Nat -> Env) (V : Nat -> AV) (R W : Nat -> Nat -> Prop), yI P ops nt j (j + l.length) S E V R W ∧ S j = Clean s ∧ E j = env ∧ S (j + l.length) = Clean s' ∧ E (j + l.length) = cm ∧
        (∀ k, j <= k -> k < j + l.length -> ∀ q ∈ rJ, ¬ cw ops k q.1 -> ∀ b, (q.2.2.testBit b = true -> ¬ R k b) ∧ (q.2.1.testBit b = true -> ¬ W k b)) ∧
        (∀ k, j <= k -> k < j + l.length -> ∀ b, (R k b -> s'.rd.testBit b = true) ∧ (W k b -> s'.wr.testBit b = true)) ∧
        (∀ b, (ar.testBit b = true -> s'.rd.testBit b = true) ∧ (aw.testBit b = true -> s'.wr.testBit b = true))
  | [], j, env, cm, rJ, ar, aw, s, s', h, _, _ => by
    simp only [sr] at h
    cases h
    refine ⟨λ_ => Clean s, λ_ => env, λ_ => .eT [], λ_ _ => False, λ_ _ => False, ⟨λk h1 h2 => ?_, λi k h1 h2 h3 => ?_⟩, rfl, rfl, rfl, rfl, λk h1 h2 => ?_, λk h1 h2 => ?_, λb => ⟨λh => h, λh => h⟩⟩
    all_goals (simp only [List.length_nil] at *; omega)
  | o :: l, j, env, cm, rJ, ar, aw, s, s', h, hl, hrec => by
    simp only [sr] at h
    split at h
    · cases h
    rename_i v h1 n1 r1 w1 p1 oo1 pG
    split at h
    · cases h
    rename_i jV
    split at h
    · cases h
    rename_i cH cY
    simp only [dN] at h
    have hj : ops[j]? = some o := by have := hl 0; simpa using this.symm
    obtain ⟨R0, W0, sp, ids, nX⟩ := pY hn hc pG
    have ZH : ∀ b, R0 b -> r1.testBit b = true := sp.rd
    have hW0 : ∀ b, W0 b -> w1.testBit b = true := sp.wr
    have VC : ∀ q ∈ (j, r1, w1) :: rJ, ∀ b, (q.2.1.testBit b = true -> (Nat.lor ar r1).testBit b = true) ∧ (q.2.2.testBit b = true -> (Nat.lor aw w1).testBit b = true) := by
      intro q hq b
      have l1 : ∀ x y : Nat, (Nat.lor x y).testBit b = (x.testBit b || y.testBit b) := λx y => Nat.testBit_or x y b
      rw [l1, l1]
      rcases List.mem_cons.1 hq with rfl | hq
      · exact ⟨λh => by simp [show r1.testBit b = true from h], λh => by simp [show w1.testBit b = true from h]⟩
      · exact ⟨λh => by rw [(hrec q hq b).1 h]; rfl, λh => by rw [(hrec q hq b).2 h]; rfl⟩
    obtain ⟨S, E, V, R, W, cN, hS, hE, SD, Vt, hap, Am, Eb⟩ := oR hn hc l (j + 1) cH cm _ _ _ _ s' h (λk => by have := hl (k + 1); simp only [List.getElem?_cons_succ] at this; rw [this]; congr 1; omega) VC
    have dP : j + (o :: l).length = j + 1 + l.length := by simp; omega
    rw [dP]
    have ne : ∀ k, j + 1 <= k -> k ≠ j := λk hk => by omega
    refine ⟨λk => if k = j then Clean s else S k, λk => if k = j then env else E k, λk => if k = j then v else V k, λk => if k = j then R0 else R k, λk => if k = j then W0 else W k, ?_, by simp, by simp, ?_, ?_, ?_, ?_, ?_⟩
    · constructor
      · intro k h1 h2
        by_cases hk : k = j
        · subst hk
          refine ⟨o, hj, ?_⟩
          simp only [if_true, show ¬ (k + 1 = k) by omega, if_false]
          rw [hS, hE]
          exact { next := sp.next, same := sp.same, sub := sp.sub, lt := sp.lt, made := sp.made, born := sp.born, pre := sp.pre, ids := ids,
                  nX := λφ w a K Q hp hf ho cF hs hK => nX φ w a k K Q hj hp ⟨hf.holds, hf.inj⟩ ho cF hs (λφ' w' hm => hK φ' w' ⟨hm.eH, hm.holds, hm.inj, hm.source, hm.frame, hm.size, hm.kept⟩), put := cY }
        · have h3 : ¬ (k + 1 = j) := by omega
          simp only [hk, h3, if_false]
          exact cN.step k (by omega) h2
      · intro i k h1 h2 h3 OV
        have hk : k ≠ j := by omega
        by_cases hi : i = j
        · subst hi
          simp only [if_true, hk, if_false]
          intro b
          have := hap k (by omega) h3 (i, r1, w1) (by simp) OV b
          exact ⟨λh => this.1 (hW0 b h), λh => this.2 (ZH b h)⟩
        · simp only [hk, hi, if_false]
          exact cN.apart i k (by omega) h2 h3 OV
    · simp only [show ¬ (j + 1 + l.length = j) by omega, if_false]; exact SD
    · simp only [show ¬ (j + 1 + l.length = j) by omega, if_false]; exact Vt
    · intro k h1 h2 q hq OV b
      by_cases hk : k = j
      · subst hk
        simp only [if_true]
        have key : (q.2.2.testBit b = true -> r1.testBit b = false) ∧ (q.2.1.testBit b = true -> w1.testBit b = false) := by
          split at jV
          · rename_i c1 c2
            refine ⟨λh => ?_, λh => ?_⟩
            · have := (hrec q hq b).2 h
              cases hr : r1.testBit b with
              | false => rfl
              | true => rw [oQ c2 hr] at this; cases this
            · have := (hrec q hq b).1 h
              cases hw : w1.testBit b with
              | false => rfl
              | true => rw [oQ c1 hw] at this; cases this
          · refine sH jV q hq ?_ b
            cases ht : Nat.testBit ((yG ops)[k]?.getD 0) q.1 with
            | false => rfl
            | true => exact absurd ht OV
        refine ⟨λh hr => ?_, λh hw => ?_⟩
        · have := key.1 h; rw [ZH b hr] at this; cases this
        · have := key.2 h; rw [hW0 b hw] at this; cases this
      · simp only [hk, if_false]
        exact hap k (by omega) h2 q (by simp [hq]) OV b
    · intro k h1 h2 b
      by_cases hk : k = j
      · subst hk
        simp only [if_true]
        have l1 : ∀ x y : Nat, (Nat.lor x y).testBit b = (x.testBit b || y.testBit b) := λx y => Nat.testBit_or x y b
        refine ⟨λh => (Eb b).1 ?_, λh => (Eb b).2 ?_⟩
        · rw [l1, ZH b h]; simp
        · rw [l1, hW0 b h]; simp
      · simp only [hk, if_false]
        exact Am k (by omega) h2 b
    · intro b
      have l1 : ∀ x y : Nat, (Nat.lor x y).testBit b = (x.testBit b || y.testBit b) := λx y => Nat.testBit_or x y b
      refine ⟨λh => (Eb b).1 ?_, λh => (Eb b).2 ?_⟩
      · rw [l1, h]; rfl
      · rw [l1, h]; rfl
end
section
variable {P:Program} {ops:Array Oper} {nt:Nat}
def CB (S:Nat->St) (W:Nat->Nat->Prop) (L:Nat->Prop) (b:Nat):Nat->Option ak->Prop
 | 0,x=>x=(S 0).get b
 | k+1,x=>(L k∧W k b∧x=(S (k+1)).get b)∨(¬ (L k∧W k b)∧CB S W L b k x)
def uZ (ops:Array Oper) (k t:Nat):Prop:= ∃ r,ops[k]?=some r∧r.dst=some t
def SB (ops:Array Oper) (E:Nat->Env) (V:Nat->AV) (L:Nat->Prop) (t:Nat):Nat->Option AV->Prop
 | 0,x=>x=(E 0).look t
 | k+1,x=>(L k∧uZ ops k t∧x=some (V k))∨(¬ (L k∧uZ ops k t)∧SB ops E V L t k x)
section
variable {S:Nat->St} {E:Nat->Env} {V:Nat->AV} {R W:Nat->Nat->Prop} {L:Nat->Prop} {n:Nat}
theorem GD {b:Nat}: ∀ {k:Nat} {x y:Option ak},CB S W L b k x->CB S W L b k y->x=y
 | 0,_,_,h,h'=>h.trans h'.symm
 | k+1,_,_,h,h'=>by
  rcases h with ⟨h1,h2,h3⟩ | ⟨h1,h2⟩<;>rcases h' with ⟨g1,g2,g3⟩ | ⟨g1,g2⟩
  ·exact h3.trans g3.symm
  ·exact absurd ⟨h1,h2⟩ g1
  ·exact absurd ⟨g1,g2⟩ h1
  ·exact GD h2 g2
theorem GF {t:Nat}: ∀ {k:Nat} {x y:Option AV},SB ops E V L t k x->SB ops E V L t k y->x=y
 | 0,_,_,h,h'=>h.trans h'.symm
 | k+1,_,_,h,h'=>by
  rcases h with ⟨h1,h2,h3⟩ | ⟨h1,h2⟩<;>rcases h' with ⟨g1,g2,g3⟩ | ⟨g1,g2⟩
  ·exact h3.trans g3.symm
  ·exact absurd ⟨h1,h2⟩ g1
  ·exact absurd ⟨g1,g2⟩ h1
  ·exact GF h2 g2
theorem eU (cN : yI P ops nt 0 n S E V R W) : ∀ k k', k <= k' -> k' <= n -> (S k).next <= (S k').next := by
  intro k k' h h'
  induction k' with
  | zero => have : k = 0 := by omega
            subst this; exact Nat.le_refl _
  | succ k' ih =>
    by_cases hk : k = k' + 1
    · subst hk; exact Nat.le_refl _
    · obtain ⟨r, _, st⟩ := cN.step k' (Nat.zero_le _) (by omega)
      exact Nat.le_trans (ih (by omega) (by omega)) st.next
theorem CR (cN:yI P ops nt 0 n S E V R W): ∀ k,k<=n->(S n).pre->(S k).pre:=by
 intro k hk hp
 have: ∀ m,k+m<=n->(S (k+m)).pre->(S k).pre:=by
  intro m
  induction m with
  | zero=>exact λ_ h=>h
  | succ m ih=>
   intro hm h
   obtain ⟨r,_,st⟩:=cN.step (k+m) (Nat.zero_le _) (by omega)
   exact ih (by omega) (st.pre h)
 have:=this (n-k) (by omega)
 rw [show k+(n-k)=n by omega] at this
 exact this hp
theorem vS (cN:yI P ops nt 0 n S E V R W) {b:Nat} {o:ak}: ∀ k,k<=n->(S k).get b=some o->(S 0).get b=some o∨ ∃ i,i<k∧W i b∧(S (i+1)).get b=some o:=by
 intro k
 induction k with
 | zero=>exact λ_ h=> .inl h
 | succ k ih=>
  intro hk h
  obtain ⟨r,_,st⟩:=cN.step k (Nat.zero_le _) (by omega)
  by_cases hw:W k b
  ·exact .inr ⟨k,by omega,hw,h⟩
  ·rw [st.same b hw] at h
   rcases ih (by omega) h with h | ⟨i,hi,h⟩
   ·exact .inl h
   ·exact .inr ⟨i,by omega,h⟩
theorem yJ (cN:yI P ops nt 0 n S E V R W) {t:Nat} {u:AV}: ∀ k,k<=n->(E k).look t=some u->(E 0).look t=some u∨ ∃ i,i<k∧uZ ops i t∧u=V i:=by
 intro k
 induction k with
 | zero=>exact λ_ h=> .inl h
 | succ k ih=>
  intro hk h
  obtain ⟨r,hr,st⟩:=cN.step k (Nat.zero_le _) (by omega)
  have cY:=st.put
  cases hd:r.dst with
  | none=>
   rw [hd] at cY
   simp [jE] at cY
   rw [<- cY] at h
   rcases ih (by omega) h with h | ⟨i,hi,h⟩
   ·exact .inl h
   ·exact .inr ⟨i,by omega,h⟩
  | some d=>
   rw [hd] at cY
   simp only [jE] at cY
   split at cY
   ·injection cY with cY
    rw [<- cY,hJ] at h
    split at h
    ·rename_i JD
     subst JD
     cases h
     exact .inr ⟨k,by omega,⟨r,hr,hd⟩,rfl⟩
    ·rcases ih (by omega) h with h | ⟨i,hi,h⟩
     ·exact .inl h
     ·exact .inr ⟨i,by omega,h⟩
   ·cases cY
def Dj (ops:Array Oper) (S:Nat->St) (j i:Nat):Prop:=i<(S 0).next∨ ∃ k,(k=j∨cw ops j k)∧(S k).next<=i∧i<(S (k+1)).next
theorem GG (hb:rD ops) {i j:Nat} (h:cw ops j i): ∀ x,Dj ops S i x->Dj ops S j x:=by
 rintro x (hx | ⟨k,hk,hx⟩)
 ·exact .inl hx
 ·refine .inr ⟨k,.inr ?_,hx⟩
  rcases hk with rfl | hk
  ·exact h
  ·exact before_trans hb j i k h hk
theorem Po (cN:yI P ops nt 0 n S E V R W) (hb:rD ops) {j:Nat} (hj:j<n): ∀ x,Dj ops S j x->x<(S (j+1)).next:=by
 rintro x (hx | ⟨k,hk,xk,Ap⟩)
 ·exact Nat.lt_of_lt_of_le hx (eU cN 0 (j+1) (Nat.zero_le _) (by omega))
 ·have hkj:k<=j:=by
   rcases hk with rfl | hk
   ·exact Nat.le_refl _
   ·exact Nat.le_of_lt (uY hb j k hk)
  exact Nat.lt_of_lt_of_le Ap (eU cN (k+1) (j+1) (by omega) (by omega))
theorem yK (cN:yI P ops nt 0 n S E V R W) (hb:rD ops) {i j:Nat} (hi:i<n) (hj:j<n) (XJ:i≠j) (OV: ¬ cw ops i j): ∀ x,Dj ops S i x-> ¬ ((S j).next<=x∧x<(S (j+1)).next):=by
 rintro x (hx | ⟨k,hk,xk,Ap⟩) ⟨h1,h2⟩
 ·have:=eU cN 0 j (Nat.zero_le _) (by omega);omega
 ·have hkj:k≠j:=by
   rcases hk with rfl | hk
   ·exact XJ
   ·intro e;subst e;exact OV hk
  have hkn:k<n:=by
   rcases hk with rfl | hk
   ·exact hi
   ·exact Nat.lt_trans (uY hb i k hk) hi
  rcases Nat.lt_or_gt_of_ne hkj with h | h
  ·have:=eU cN (k+1) j (by omega) (by omega);omega
  ·have:=eU cN (j+1) k (by omega) (by omega);omega
theorem CS (cN:yI P ops nt 0 n S E V R W) (hb:rD ops) (kg: ∀ i j ri rj,i<j->ops[i]?=some ri->ops[j]?=some rj-> ¬ cw ops j i->(∀ d,ri.dst=some d->d ∉ ay ops rj)∧(∀ d,ri.dst=some d->rj.dst≠some d)∧(∀ d,rj.dst=some d->d ∉ ay ops ri)) (hp:(S n).pre) (hold: ∀ j,j<n-> ∀ b o,R j b->(S 0).get b=some o->o.aD (· < (S 0).next)) (rN:fc (· < (S 0).next) (E 0)):
  ∀ j,j<n->(V j).aD (Dj ops S j)∧ ∀ b o,W j b->(S (j+1)).get b=some o->o.aD (Dj ops S j):=by
 intro j
 induction j using Nat.strongRecOn with
 | _ j ih=>
  intro hj
  obtain ⟨r,hr,st⟩:=cN.step j (Nat.zero_le _) hj
  refine st.ids (Dj ops S j) (CR cN (j+1) (by omega) hp) (λi h1 h2=> .inr ⟨j,.inl rfl,h1,h2⟩) ?_ ?_
  ·intro t ht u hu
   rcases yJ cN j (by omega) hu with h | ⟨i,hi,⟨ri,hri,hd⟩,rfl⟩
   ·exact (rN t u h).mono λi hi=> .inl hi
   ·by_cases qO:cw ops j i
    ·exact ((ih i hi (by omega)).1).mono (GG hb qO)
    ·exact absurd ht ((kg i j ri r hi hri hr qO).1 t hd)
  ·intro b o nD hg
   rcases vS cN j (by omega) hg with h | ⟨i,hi,hw,h⟩
   ·exact (hold j hj b o nD h).mono λi hi=> .inl hi
   ·by_cases qO:cw ops j i
    ·exact ((ih i hi (by omega)).2 b o hw h).mono (GG hb qO)
    ·exact absurd nD ((cN.apart i j (Nat.zero_le _) hi hj qO b).1 hw)
theorem u0 (cN:yI P ops nt 0 n S E V R W) (hc: ∀ i k,L i->cw ops i k->L k) {j b:Nat} (hj:j<n) (oF: ¬ L j) (aQ: ∀ i,cw ops j i->L i) (nD:R j b):CB S W L b n ((S j).get b):=by
 have h1: ∀ k,k<=j->CB S W L b k ((S k).get b):=by
  intro k
  induction k with
  | zero=>exact λ_=>rfl
  | succ k ih=>
   intro hk
   by_cases hw:W k b
   ·left
    refine ⟨?_,hw,rfl⟩
    by_cases qO:cw ops j k
    ·exact aQ k qO
    ·exact absurd nD ((cN.apart k j (Nat.zero_le _) (by omega) hj qO b).1 hw)
   ·right
    obtain ⟨r,_,st⟩:=cN.step k (Nat.zero_le _) (by omega)
    rw [st.same b hw]
    exact ⟨λh=>hw h.2,ih (by omega)⟩
 have h2: ∀ m,j+m<=n->CB S W L b (j+m) ((S j).get b):=by
  intro m
  induction m with
  | zero=>exact λ_=>h1 j (Nat.le_refl _)
  | succ m ih=>
   intro hm
   right
   refine ⟨λ⟨hl,hw⟩=> ?_,ih (by omega)⟩
   by_cases hmj:m=0
   ·subst hmj;exact oF hl
   ·by_cases qO:cw ops (j+m) j
    ·exact oF (hc _ _ hl qO)
    ·exact (cN.apart j (j+m) (Nat.zero_le _) (by omega) (by omega) qO b).2 nD hw
 have:=h2 (n-j) (by omega)
 rwa [show j+(n-j)=n by omega] at this
theorem T5 (cN:yI P ops nt 0 n S E V R W) (hn:n=ops.size) (kg: ∀ i j ri rj,i<j->ops[i]?=some ri->ops[j]?=some rj-> ¬ cw ops j i->(∀ d,ri.dst=some d->d ∉ ay ops rj)∧(∀ d,ri.dst=some d->rj.dst≠some d)∧(∀ d,rj.dst=some d->d ∉ ay ops ri)) (hc: ∀ i k,L i->cw ops i k->L k) {j t:Nat} {r:Oper} (hr:ops[j]?=some r) (hj:j<n) (oF: ¬ L j) (aQ: ∀ i,cw ops j i->L i) (ht:t∈ay ops r):SB ops E V L t n ((E j).look t):=by
 have h1: ∀ k,k<=j->SB ops E V L t k ((E k).look t):=by
  intro k
  induction k with
  | zero=>exact λ_=>rfl
  | succ k ih=>
   intro hk
   obtain ⟨rk,WX,st⟩:=cN.step k (Nat.zero_le _) (by omega)
   have cY:=st.put
   by_cases hd:rk.dst=some t
   ·left
    refine ⟨?_,⟨rk,WX,hd⟩,?_⟩
    ·by_cases qO:cw ops j k
     ·exact aQ k qO
     ·exact absurd ht ((kg k j rk r (by omega) WX hr qO).1 t hd)
    ·rw [hd] at cY
     simp only [jE] at cY
     split at cY
     ·injection cY with cY;rw [<- cY,hJ,if_pos rfl]
     ·cases cY
   ·right
    refine ⟨λ⟨_,q,hq,D7⟩=>hd (by rw [WX] at hq;cases hq;exact D7),?_⟩
    have:(E (k+1)).look t=(E k).look t:=by
     cases hdd:rk.dst with
     | none=>rw [hdd] at cY;simp [jE] at cY;rw [<- cY]
     | some d=>
      rw [hdd] at cY
      simp only [jE] at cY
      split at cY
      ·injection cY with cY
       rw [<- cY,hJ,if_neg (λe=>hd (by rw [hdd,e]))]
      ·cases cY
    rw [this]
    exact ih (by omega)
 have h2: ∀ m,j+m<=n->SB ops E V L t (j+m) ((E j).look t):=by
  intro m
  induction m with
  | zero=>exact λ_=>h1 j (Nat.le_refl _)
  | succ m ih=>
   intro hm
   right
   refine ⟨λ⟨hl,rm,hrm,hd⟩=> ?_,ih (by omega)⟩
   by_cases hmj:m=0
   ·subst hmj;exact oF hl
   ·by_cases qO:cw ops (j+m) j
    ·exact oF (hc _ _ hl qO)
    ·exact (kg j (j+m) r rm (by omega) hr hrm qO).2.2 t hd ht
 have:=h2 (n-j) (by omega)
 rwa [show j+(n-j)=n by omega] at this
def sI (L:Nat->Prop) (j:Nat):Nat->Prop:=λk=>L k∨k=j
theorem QO (cN:yI P ops nt 0 n S E V R W) (hc: ∀ i k,L i->cw ops i k->L k) {j b:Nat} (hj:j<n) (oF: ¬ L j) (hw:W j b):CB S W (sI L j) b n ((S (j+1)).get b):=by
 obtain ⟨r,_,st⟩:=cN.step j (Nat.zero_le _) hj
 have h2: ∀ m,j+1+m<=n->CB S W (sI L j) b (j+1+m) ((S (j+1)).get b):=by
  intro m
  induction m with
  | zero=>exact λ_=> .inl ⟨.inr rfl,hw,rfl⟩
  | succ m ih=>
   intro hm
   right
   refine ⟨λ⟨hl,DY⟩=> ?_,ih (by omega)⟩
   have F1:L (j+1+m):=hl.resolve_right (λe=>by change j+1+m=j at e;omega)
   by_cases qO:cw ops (j+1+m) j
   ·exact oF (hc _ _ F1 qO)
   ·exact (cN.apart j (j+1+m) (Nat.zero_le _) (by omega) (by omega) qO b).2 (st.sub b hw) DY
 have:=h2 (n-(j+1)) (by omega)
 rwa [show j+1+(n-(j+1))=n by omega] at this
theorem lx {j b:Nat} (hw: ¬ W j b): ∀ {k:Nat} {x:Option ak},CB S W (sI L j) b k x->CB S W L b k x
 | 0,_,h=>h
 | k+1,x,h=>by
  have e:(sI L j k∧W k b)↔(L k∧W k b):=⟨λ⟨h1,h2⟩=>⟨h1.resolve_right (λe=>hw (e▸h2)),h2⟩,λ⟨h1,h2⟩=>⟨.inl h1,h2⟩⟩
  rcases h with ⟨h1,h2,h3⟩ | ⟨h1,h2⟩
  ·exact .inl ⟨(e.1 ⟨h1,h2⟩).1,h2,h3⟩
  ·exact .inr ⟨λh=>h1 (e.2 h),lx hw h2⟩
theorem QP (hn:n=ops.size) (kg: ∀ i j ri rj,i<j->ops[i]?=some ri->ops[j]?=some rj-> ¬ cw ops j i->(∀ d,ri.dst=some d->d ∉ ay ops rj)∧(∀ d,ri.dst=some d->rj.dst≠some d)∧(∀ d,rj.dst=some d->d ∉ ay ops ri)) (hc: ∀ i k,L i->cw ops i k->L k) {j t:Nat} {r:Oper} (hr:ops[j]?=some r) (hj:j<n) (oF: ¬ L j) (hd:r.dst=some t):SB ops E V (sI L j) t n (some (V j)):=by
 have h2: ∀ m,j+1+m<=n->SB ops E V (sI L j) t (j+1+m) (some (V j)):=by
  intro m
  induction m with
  | zero=>exact λ_=> .inl ⟨.inr rfl,⟨r,hr,hd⟩,rfl⟩
  | succ m ih=>
   intro hm
   right
   refine ⟨λ⟨hl,rm,hrm,hdm⟩=> ?_,ih (by omega)⟩
   have F1:L (j+1+m):=hl.resolve_right (λe=>by change j+1+m=j at e;omega)
   by_cases qO:cw ops (j+1+m) j
   ·exact oF (hc _ _ F1 qO)
   ·exact (kg j (j+1+m) r rm (by omega) hr hrm qO).2.1 t hd hdm
 have:=h2 (n-(j+1)) (by omega)
 rwa [show j+1+(n-(j+1))=n by omega] at this
theorem GH {j t:Nat} {r:Oper} (hr:ops[j]?=some r) (hd:r.dst≠some t): ∀ {k:Nat} {x:Option AV},SB ops E V (sI L j) t k x->SB ops E V L t k x
 | 0,_,h=>h
 | k+1,x,h=>by
  have e:(sI L j k∧uZ ops k t)↔(L k∧uZ ops k t):=⟨λ⟨h1,h2⟩=>⟨h1.resolve_right (λe=>by
   subst e;obtain ⟨q,hq,D7⟩:=h2;rw [hr] at hq;cases hq;exact hd D7),h2⟩,λ⟨h1,h2⟩=>⟨.inl h1,h2⟩⟩
  rcases h with ⟨h1,h2,h3⟩ | ⟨h1,h2⟩
  ·exact .inl ⟨(e.1 ⟨h1,h2⟩).1,h2,h3⟩
  ·exact .inr ⟨λh=>h1 (e.2 h),GH hr hd h2⟩
theorem rT {b:Nat} {o:ak}: ∀ {k:Nat},CB S W L b k (some o)->(S 0).get b=some o∨ ∃ i,i<k∧L i∧W i b∧(S (i+1)).get b=some o
 | 0,h=> .inl h.symm
 | k+1,h=>by
  rcases h with ⟨h1,h2,h3⟩ | ⟨h1,h2⟩
  ·exact .inr ⟨k,by omega,h1,h2,h3.symm⟩
  ·rcases rT h2 with h | ⟨i,hi,h⟩
   ·exact .inl h
   ·exact .inr ⟨i,by omega,h⟩
theorem CT {t:Nat} {u:AV}: ∀ {k:Nat},SB ops E V L t k (some u)->(E 0).look t=some u∨ ∃ i,i<k∧L i∧uZ ops i t∧u=V i
 | 0,h=> .inl h.symm
 | k+1,h=>by
  rcases h with ⟨h1,h2,h3⟩ | ⟨h1,h2⟩
  ·exact .inr ⟨k,by omega,h1,h2,by cases h3;rfl⟩
  ·rcases CT h2 with h | ⟨i,hi,h⟩
   ·exact .inl h
   ·exact .inr ⟨i,by omega,h⟩
structure Inv (ops:Array Oper) (nt n:Nat) (S:Nat->St) (E:Nat->Env) (V:Nat->AV) (R W:Nat->Nat->Prop) (L:Nat->Prop) (φ0:bo) (w0:World) (a0:Act) (φ:bo) (a:Act) (w:World):Prop where
 holds: ∀ b o,(∃ j,j<n∧R j b)->CB S W L b n (some o)->cf φ b o w
 inj: ∀ b c x y,(∃ j,j<n∧R j b)->(∃ j,j<n∧R j c)->CB S W L b n (some x)->CB S W L c n (some y)->(φ b).dp=(φ c).dp->b=c
 fR: ∀ t u,SB ops E V L t n (some u)->a.tmps[t]?=some (Jb1 φ u)
 size:a.tmps.size=nt
 defers:a.defers=a0.defers
 eH: ∀ i,(∀ j,j<n->L j-> ¬ ((S j).next<=i∧i<(S (j+1)).next))->φ i=φ0 i
 source: ∀ b x,(∃ j,j<n∧L j∧W j b)->CB S W L b n (some x)->w0.heap.size<=(φ b).dp∨ ∃ c,(∃ j,j<n∧L j∧W j c)∧(S 0).get c≠none∧(φ b).dp=(φ0 c).dp
 frame: ∀ r,r<w0.heap.size->(∀ c,(∃ j,j<n∧L j∧W j c)->(S 0).get c≠none->(φ0 c).dp≠r)->w.heap[r]?=w0.heap[r]?
 grown:w0.heap.size<=w.heap.size
 kept:w.os=w0.os∧w.output=w0.output
variable {φ0 φ φ':bo} {w0 w w':World} {a0 a:Act}
theorem yL (cN:yI P ops nt 0 n S E V R W) (hc: ∀ i k,L i->cw ops i k->L k) {j:Nat} (hj:j<n) (oF: ¬ L j) (aQ: ∀ i,cw ops j i->L i) (I:Inv ops nt n S E V R W L φ0 w0 a0 φ a w):Fits (S j) (R j) φ w where
 holds b o nD hg:=I.holds b o ⟨j,hj,nD⟩ (by rw [<- hg];exact u0 cN hc hj oF aQ nD)
 inj b c nD Qa ki gN he:=by
  obtain ⟨x,hx⟩:=aZ ki
  obtain ⟨y,hy⟩:=aZ gN
  exact I.inj b c x y ⟨j,hj,nD⟩ ⟨j,hj,Qa⟩ (by rw [<- hx];exact u0 cN hc hj oF aQ nD) (by rw [<- hy];exact u0 cN hc hj oF aQ Qa) he
theorem GJ (cN:yI P ops nt 0 n S E V R W) (hn:n=ops.size) (hb:rD ops) (kg: ∀ i j ri rj,i<j->ops[i]?=some ri->ops[j]?=some rj-> ¬ cw ops j i->(∀ d,ri.dst=some d->d ∉ ay ops rj)∧(∀ d,ri.dst=some d->rj.dst≠some d)∧(∀ d,rj.dst=some d->d ∉ ay ops ri)) (hp:(S n).pre) (hold: ∀ j,j<n-> ∀ b o,R j b->(S 0).get b=some o->b<(S 0).next∧o.aD (· < (S 0).next)) (rN:fc (· < (S 0).next) (E 0))
  (hc: ∀ i k,L i->cw ops i k->L k) {j:Nat} {r:Oper} (hr:ops[j]?=some r) (hj:j<n) (oF: ¬ L j) (aQ: ∀ i,cw ops j i->L i) (I:Inv ops nt n S E V R W L φ0 w0 a0 φ a w)
  (hm:dG (S j) (S (j+1)) (W j) φ φ' w w'):Inv ops nt n S E V R W (sI L j) φ0 w0 a0 φ' (a.put r.dst (Jb1 φ' (V j))) w':=by
 obtain ⟨r',qN,st⟩:=cN.step j (Nat.zero_le _) hj
 have Ty:r'=r:=by rw [hr] at qN;cases qN;rfl
 subst Ty
 have bn:=CS cN hb kg hp (λj hj b o nD hg=>(hold j hj b o nD hg).2) rN
 have hf:=yL cN hc hj oF aQ I
 have n0:=eU cN 0 j (Nat.zero_le _) (by omega)
 have qL: ∀ b o,(∃ k,k<n∧R k b)-> ¬ W j b->CB S W L b n (some o)->cf φ' b o w'∧φ' b=φ b∧(φ b).dp<w.heap.size∧(∀ c,W j c->(S j).get c≠none->(φ c).dp≠(φ b).dp):=by
  intro b o nD hw nA
  have hH:=I.holds b o nD nA
  have bq: ∀ c,W j c->(S j).get c≠none->(φ c).dp≠(φ b).dp:=by
   intro c Jc1 gN he
   obtain ⟨x,hx⟩:=aZ gN
   have:=I.inj c b x o ⟨j,hj,st.sub c Jc1⟩ nD (by rw [<- hx];exact u0 cN hc hj oF aQ (st.sub c Jc1)) nA he
   subst this;exact hw Jc1
  have hφ:φ' b=φ b:=hm.eH b λh=>hw (st.made b h.1 h.2)
  have cC:o.aD (λx=> ¬ ((S j).next<=x∧x<(S (j+1)).next)):=by
   rcases rT nA with h | ⟨i,hi,uB,K4,h⟩
   ·obtain ⟨k,hk,hRk⟩:=nD
    exact (hold k hk b o hRk h).2.mono λx hx=>by omega
   ·exact ((bn i hi).2 b o K4 h).mono (yK cN hb hi hj (λe=>oF (e▸uB)) λqO=>oF (hc i j uB qO))
  exact ⟨hH.bB (λi hi=>hm.eH i hi) cC hφ (hm.frame _ hH.lt bq),hφ,hH.lt,bq⟩
 have new: ∀ b x,W j b->CB S W (sI L j) b n (some x)->(S (j+1)).get b=some x:=λb x hw nA=>GD (QO cN hc hj oF hw) nA
 constructor
 ·intro b o nD nA
  by_cases hw:W j b
  ·exact hm.holds b o hw (new b o hw nA)
  ·exact (qL b o nD hw (lx hw nA)).1
 ·intro b c x y nD Qa nA ni he
  by_cases hwb:W j b<;>by_cases Jc1:W j c
  ·exact hm.inj b c hwb Jc1 (by rw [new b x hwb nA];simp) (by rw [new c y Jc1 ni];simp) he
  ·obtain ⟨_,k2,k3,k4⟩:=qL c y Qa Jc1 (lx Jc1 ni)
   rw [k2] at he
   rcases hm.source b hwb (by rw [new b x hwb nA];simp) with h | ⟨d,hd,pO,h⟩
   ·omega
   ·exact absurd (h.symm.trans he) (k4 d hd pO)
  ·obtain ⟨_,k2,k3,k4⟩:=qL b x nD hwb (lx hwb nA)
   rw [k2] at he
   rcases hm.source c Jc1 (by rw [new c y Jc1 ni];simp) with h | ⟨d,hd,pO,h⟩
   ·omega
   ·exact absurd (h.symm.trans he.symm) (k4 d hd pO)
  ·have k1:=qL b x nD hwb (lx hwb nA)
   have k2:=qL c y Qa Jc1 (lx Jc1 ni)
   rw [k1.2.1,k2.2.1] at he
   exact I.inj b c x y nD Qa (lx hwb nA) (lx Jc1 ni) he
 ·intro t u hs
  by_cases hd:r'.dst=some t
  ·have hu:=GF (QP hn kg hc hr hj oF hd) hs
   cases hu
   have cY:=st.put
   rw [hd] at cY
   simp only [jE] at cY
   split at cY
   ·rename_i dA
    have Y0:t<nt:=Nat.le_of_ble_eq_true dA
    rw [hd]
    simp [Act.put,I.size,Y0]
   ·cases cY
  ·have AR:=GH hr hd hs
   have h1:=I.fR t u AR
   have hu:Jb1 φ' u=Jb1 φ u:=by
    refine dD (D:=λx=> ¬ ((S j).next<=x∧x<(S (j+1)).next)) (λi hi=>hm.eH i hi) ?_
    rcases CT AR with h | ⟨i,hi,uB,_,rfl⟩
    ·exact (rN t u h).mono λx hx=>by omega
    ·exact (bn i hi).1.mono (yK cN hb hi hj (λe=>oF (e▸uB)) λqO=>oF (hc i j uB qO))
   rw [hu]
   cases hdd:r'.dst with
   | none=>exact h1
   | some d=>
    simp only [Act.put]
    rw [Array.getElem?_setIfInBounds_ne (λe=>hd (by rw [hdd,e]))]
    exact h1
 ·cases hdd:r'.dst with
  | none=>exact I.size
  | some d=>simp [Act.put,I.size]
 ·cases hdd:r'.dst with
  | none=>exact I.defers
  | some d=>exact I.defers
 ·intro i hi
  rw [hm.eH i (hi j hj (.inr rfl))]
  exact I.eH i λk hk hl=>hi k hk (.inl hl)
 ·intro b x hWb nA
  by_cases hw:W j b
  ·rcases hm.source b hw (by rw [new b x hw nA];simp) with h | ⟨c,Jc1,gN,h⟩
   ·exact .inl (Nat.le_trans I.grown h)
   ·obtain ⟨y,hy⟩:=aZ gN
    have ni:CB S W L c n (some y):=by rw [<- hy];exact u0 cN hc hj oF aQ (st.sub c Jc1)
    rcases rT ni with h0 | ⟨i,hi,uB,K4,_⟩
    ·
     by_cases Ge: ∃ k,k<n∧L k∧W k c
     ·rcases I.source c y Ge ni with h' | ⟨d,⟨k,hk,P9,DY⟩,pO,h'⟩
      ·exact .inl (by omega)
      ·exact .inr ⟨d,⟨k,hk,.inl P9,DY⟩,pO,by rw [h,h']⟩
     ·refine .inr ⟨c,⟨j,hj,.inr rfl,Jc1⟩,by rw [h0];simp,?_⟩
      rw [h,I.eH c λk hk P9 hck=> ?_]
      obtain ⟨rk,_,WM⟩:=cN.step k (Nat.zero_le _) hk
      exact Ge ⟨k,hk,P9,WM.made c hck.1 hck.2⟩
    ·rcases I.source c y ⟨i,hi,uB,K4⟩ ni with h' | ⟨d,⟨k,hk,P9,DY⟩,pO,h'⟩
     ·exact .inl (by omega)
     ·exact .inr ⟨d,⟨k,hk,.inl P9,DY⟩,pO,by rw [h,h']⟩
  ·have Wo:=lx hw nA
   obtain ⟨k,hk,P9,DY⟩:=hWb
   have YS:L k:=P9.resolve_right λe=>hw (e▸DY)
   obtain ⟨rk,_,WM⟩:=cN.step k (Nat.zero_le _) hk
   have k1:=qL b x ⟨k,hk,WM.sub b DY⟩ hw Wo
   rw [k1.2.1]
   rcases I.source b x ⟨k,hk,YS,DY⟩ Wo with h | ⟨d,⟨i,hi,uB,K4⟩,pO,h⟩
   ·exact .inl h
   ·exact .inr ⟨d,⟨i,hi,.inl uB,K4⟩,pO,h⟩
 ·intro k hk bq
  have h1:=I.frame k hk λc ⟨i,hi,uB,K4⟩ gN=>bq c ⟨i,hi,.inl uB,K4⟩ gN
  rw [hm.frame k (Nat.lt_of_lt_of_le hk I.grown) ?_,h1]
  intro c Jc1 gN he
  obtain ⟨y,hy⟩:=aZ gN
  have ni:CB S W L c n (some y):=by rw [<- hy];exact u0 cN hc hj oF aQ (st.sub c Jc1)
  by_cases Ge: ∃ i,i<n∧L i∧W i c
  ·rcases I.source c y Ge ni with h' | ⟨d,⟨i,hi,uB,K4⟩,pO,h'⟩
   ·omega
   ·exact bq d ⟨i,hi,.inl uB,K4⟩ pO (by rw [<- h',he])
  ·have h0:(S 0).get c≠none:=by
    rcases rT ni with h0 | ⟨i,hi,uB,K4,_⟩
    ·rw [h0];simp
    ·exact absurd ⟨i,hi,uB,K4⟩ Ge
   refine bq c ⟨j,hj,.inr rfl,Jc1⟩ h0 ?_
   rw [<- he,I.eH c λi hi uB Zs=> ?_]
   obtain ⟨ri,_,sti⟩:=cN.step i (Nat.zero_le _) hi
   exact Ge ⟨i,hi,uB,sti.made c Zs.1 Zs.2⟩
 ·exact Nat.le_trans I.grown hm.size
 ·exact ⟨hm.kept.1.trans I.kept.1,hm.kept.2.trans I.kept.2⟩
end
end
end Ev
end Go.Proofs.YtpkfimijnkkbjaaGreat
