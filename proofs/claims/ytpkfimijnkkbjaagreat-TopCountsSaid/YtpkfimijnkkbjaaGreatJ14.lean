/-
  Pieces of code over a great heap: each is run by the reckoner, and between them stand calls that are known otherwise.
  Functions whose code is run by the reckoner piece by piece.
  Ways: runs of a function over a heap that is spelled out by its names.
-/
import Derived.Test.YtpkfimijnkkbjaaGreatJ13
set_option linter.unusedVariables false
namespace Go.Proofs.YtpkfimijnkkbjaaGreat
namespace Ev

variable {κ : Keep}

variable {P : Program}

theorem fit_moves {R W : Nat → Prop} {inp outp : (Nat → Prop) → Prop} {s s' : St} (sp : Sp s s' R W) (ids : Ids s s' R W inp outp) (hpre : s'.pre) {H : Nat → Option AObj} {φ φ' : Phi} {w w' : World} (hm : Moves s s' W φ φ' w w')
    (hfit : FitH κ H φ w) (hH : ∀ c o, H c = some o → c < s.next ∧ o.All (· < s.next)) (hs : ∀ c o, s.get c = some o → o.All (· < s.next) ∧ ∃ o0, H c = some o0 ∧ Same φ φ o0 o) (hin : ∀ D D' : Nat → Prop, (∀ i, D i → D' i) → inp D → inp D') (hargs : inp (· < s.next)) :
    (∀ i, i < s.next → φ' i = φ i) ∧ FitH κ (after H s') φ' w' ∧ (∀ c o, after H s' c = some o → c < s'.next ∧ o.All (· < s'.next)) ∧ outp (· < s'.next) := by
  have hFits : Fits s (fun _ => True) φ w := ⟨fun b o _ hg => by
      obtain ⟨_, o0, h2, h3⟩ := hs b o hg
      exact (hfit.holds b o0 h2).same rfl h3, fun b c _ _ hgb hgc he => by
      obtain ⟨x, hx⟩ := some_of_ne hgb
      obtain ⟨_, x0, hx0, _⟩ := hs b x hx
      obtain ⟨y, hy⟩ := some_of_ne hgc
      obtain ⟨_, y0, hy0, _⟩ := hs c y hy
      exact hfit.inj b c x0 y0 hx0 hy0 he⟩
  have hOldT : Old s (fun _ => True) := fun b o _ hg => by
    obtain ⟨h1, o0, h2, _⟩ := hs b o hg
    exact ⟨(hH b o0 h2).1, h1⟩
  have hF' := hFits.step sp hm hOldT (fun _ _ => trivial)
  have hle : ∀ i, i < s.next → i < s'.next := fun i hi => Nat.lt_of_lt_of_le hi sp.next
  have hO' := hOldT.step sp ids hpre (hin _ _ hle hargs) (fun _ _ => trivial)
  have hag : ∀ i, i < s.next → φ' i = φ i := fun i hi => hm.agree i (by omega)
  have away : ∀ c o, ¬ s'.wr.testBit c = true → H c = some o → Holds φ' c o w' ∧ φ' c = φ c ∧ (φ c).blk < w.heap.size ∧ (∀ b, W b → s.get b ≠ none → (φ b).blk ≠ (φ c).blk) := by
    intro c o hw hg
    have hH1 := hfit.holds c o hg
    have hne : ∀ b, W b → s.get b ≠ none → (φ b).blk ≠ (φ c).blk := by
      intro b hb hgb he
      obtain ⟨x, hx⟩ := some_of_ne hgb
      obtain ⟨_, x0, hx0, _⟩ := hs b x hx
      have := hfit.inj b c x0 o hx0 hg he
      subst this
      exact hw (sp.wr b hb)
    exact ⟨hH1.keep (D := (· < s.next)) (fun i hi => hag i hi) (hH c o hg).2 (hag c (hH c o hg).1) (hm.frame _ hH1.lt hne), hag c (hH c o hg).1, hH1.lt, hne⟩
  have apart : ∀ b c x y, s'.wr.testBit b = true → s'.get b = some x → ¬ s'.wr.testBit c = true → H c = some y → (φ' b).blk ≠ (φ' c).blk := by
    intro b c x y hb hgb hc hgc he
    obtain ⟨_, k2, k3, k4⟩ := away c y hc hgc
    rw [k2] at he
    by_cases hw : W b
    · rcases hm.source b hw (by rw [hgb]; simp) with h | ⟨d, hd, hgd, h⟩
      · omega
      · exact k4 d hd hgd (h.symm.trans he)
    · rw [sp.same b hw] at hgb
      obtain ⟨_, x0, hx0, _⟩ := hs b x hgb
      rw [hag b (hH b x0 hx0).1] at he
      have := hfit.inj b c x0 y hx0 hgc he
      subst this
      exact hc hb
  refine ⟨hag, ⟨fun c o hc => ?_, fun b c x y hb hc he => ?_, fun c o hc => ?_, fun r hr => ?_, Nat.le_trans hfit.size hm.size, hm.kept.1.trans hfit.env.1, hm.kept.2.trans hfit.env.2⟩, fun c o hc => ?_, ids _ hpre (fun i _ hi => hi) (hin _ _ hle hargs) (fun b o _ hg => ((hs b o hg).1).mono hle) |>.1⟩
  · unfold after at hc
    split at hc
    · exact hF'.holds c o trivial hc
    · rename_i hw; exact (away c o hw hc).1
  · unfold after at hb hc
    by_cases hwb : s'.wr.testBit b = true <;> by_cases hwc : s'.wr.testBit c = true
    · rw [if_pos hwb] at hb; rw [if_pos hwc] at hc
      exact hF'.inj b c trivial trivial (by rw [hb]; simp) (by rw [hc]; simp) he
    · rw [if_pos hwb] at hb; rw [if_neg hwc] at hc
      exact absurd he (apart b c x y hwb hb hwc hc)
    · rw [if_neg hwb] at hb; rw [if_pos hwc] at hc
      exact absurd he.symm (apart c b y x hwc hc hwb hb)
    · rw [if_neg hwb] at hb; rw [if_neg hwc] at hc
      rw [(away b x hwb hb).2.1, (away c y hwc hc).2.1] at he
      exact hfit.inj b c x y hb hc he
  · unfold after at hc
    split at hc
    · by_cases hW : W c
      · rcases hm.source c hW (by rw [hc]; simp) with h | ⟨d, hd, hgd, h⟩
        · exact Nat.le_trans hfit.size h
        · obtain ⟨x, hx⟩ := some_of_ne hgd
          obtain ⟨_, x0, hx0, _⟩ := hs d x hx
          rw [h]; exact hfit.base d x0 hx0
      · rw [sp.same c hW] at hc
        obtain ⟨_, x0, hx0, _⟩ := hs c o hc
        rw [hag c (hH c x0 hx0).1]; exact hfit.base c x0 hx0
    · rw [hag c (hH c o hc).1]; exact hfit.base c o hc
  · rw [hm.frame r (Nat.lt_of_lt_of_le hr hfit.size) fun c hc hgc => ?_]
    · exact hfit.old r hr
    · obtain ⟨x, hx⟩ := some_of_ne hgc
      obtain ⟨_, x0, hx0, _⟩ := hs c x hx
      have := hfit.base c x0 hx0
      omega
  · unfold after at hc
    split at hc
    · exact hO' c o trivial hc
    · have := hH c o hc
      exact ⟨Nat.lt_of_lt_of_le this.1 sp.next, this.2.mono hle⟩

/-- A great heap in a memory, and what is known of a function's slots. -/
structure At (κ : Keep) (H : Nat → Option AObj) (nt nx : Nat) (env : Env) (φ : Phi) (w : World) (a : Act) : Prop where
  fit : FitH κ H φ w
  ids : ∀ c o, H c = some o → c < nx ∧ o.All (· < nx)
  slots : EnvOk φ env a.tmps
  all : EnvAll (· < nx) env
  size : a.tmps.size = nt
  defers : a.defers = []

/-- A piece of code that is run by the reckoner. -/
theorem seg {s s' : St} {env env' : Env} {nt : Nat} {T : (Act → World → Prop) → Act → World → Prop} (hd : Does s s' env env' nt T) {H : Nat → Option AObj} {φ : Phi} {w : World} {a : Act} (h : At κ H nt s.next env φ w a)
    (hs : ∀ c o, s.get c = some o → o.All (· < s.next) ∧ ∃ o0, H c = some o0 ∧ Same φ φ o0 o) (hp : s'.pre) {K : Act → World → Prop}
    (hK : ∀ φ' w' a', (∀ i, i < s.next → φ' i = φ i) → At κ (after H s') nt s'.next env' φ' w' a' → K a' w') : T K a w := by
  obtain ⟨R, W, sp, ids, sem⟩ := hd
  have hFits : Fits s R φ w := ⟨fun b o _ hg => by
      obtain ⟨_, o0, h2, h3⟩ := hs b o hg
      exact (h.fit.holds b o0 h2).same rfl h3, fun b c _ _ hgb hgc he => by
      obtain ⟨x, hx⟩ := some_of_ne hgb
      obtain ⟨_, x0, hx0, _⟩ := hs b x hx
      obtain ⟨y, hy⟩ := some_of_ne hgc
      obtain ⟨_, y0, hy0, _⟩ := hs c y hy
      exact h.fit.inj b c x0 y0 hx0 hy0 he⟩
  have hOld : Old s R := fun b o _ hg => by
    obtain ⟨h1, o0, h2, _⟩ := hs b o hg
    exact ⟨(h.ids b o0 h2).1, h1⟩
  refine sem φ w a K hp h.size h.slots hFits hOld h.all fun φ' w' a' hm hsz hdf he => ?_
  obtain ⟨k1, k2, k3, k4⟩ := fit_moves sp ids hp hm h.fit h.ids hs (fun D D' hD he t u hu => (he t u hu).mono hD) h.all
  exact hK φ' w' a' k1 ⟨k2, k3, he, k4, hsz, by rw [hdf]; exact h.defers⟩

/-- Slots may be forgotten, and known otherwise. -/
theorem At.known {H : Nat → Option AObj} {nt nx : Nat} {env env' : Env} {φ : Phi} {w : World} {a : Act} (h : At κ H nt nx env φ w a) (he : ∀ t u, env'.look t = some u → ∃ v, env.look t = some v ∧ conc φ v = conc φ u ∧ u.All (· < nx)) : At κ H nt nx env' φ w a :=
  ⟨h.fit, h.ids, fun t u hu => by
    obtain ⟨v, h1, h2, _⟩ := he t u hu
    rw [h.slots t v h1, h2], fun t u hu => by
    obtain ⟨_, _, _, h3⟩ := he t u hu
    exact h3, h.size, h.defers⟩

theorem after0 {H : Nat → Option AObj} {h : Tr} {n r : Nat} {p : Prop} {o : List Ans} : after H ⟨h, n, r, 0, p, o⟩ = H := by
  funext c; unfold after; simp
/-- A call that is known otherwise. -/
theorem seg_call {ops : Array Oper} {i : Nat} {r : Oper} {f : FuncId} {as : Array Operand} {ats : Array TypeId} {avs : List AV} {env : Env} {nt nx : Nat} {H : Nat → Option AObj} {φ : Phi} {w : World} {a : Act} {K : Act → World → Prop} {Q : Exit → Act → World → Prop}
    (hn : Named P) (hf : ∃ fn, P.funcs[f]? = some fn ∧ fn.body.isSome = true) (hi : ops[i]? = some r) (hr : r.op = .call { callee := .value (.func f), args := as, argTypes := ats }) (hg : r.guard = none) (hav : evAs env as.toList = some avs)
    (h : At κ H nt nx env φ w a) {post : Ending → World → Prop} (hc : Calls P f (concL φ avs).toArray w post)
    (hK : ∀ e w', post e w' → ∃ (φ' : Phi) (H' : Nat → Option AObj) (nx' : Nat) (v : AV) (env' : Env), e = .returned (conc φ' v) ∧ nx ≤ nx' ∧ (∀ t u, env.look t = some u → conc φ' u = conc φ u) ∧ FitH κ H' φ' w' ∧ (∀ c o, H' c = some o → c < nx' ∧ o.All (· < nx')) ∧ v.All (· < nx') ∧ putE nt r.dst v env = some env' ∧
      ∀ a', At κ H' nt nx' env' φ' w' a' → K a' w') : wpOp P ops Q i K a w := by
  unfold wpOp
  have hw : Region.wanted r (yielded ops a.tmps) = true := by simp [Region.wanted, hg]
  simp only [hi, hw, if_true]
  refine .inl ?_
  have h2 := evAs_ok (φ := φ) (ρ := a.eval) hav (fun x _ u hu => evA_eval (fun t _ u hu => h.slots t u hu) hu)
  have h3 : as.map a.eval = (concL φ avs).toArray := by rw [← h2]; simp [← Array.toList_map]
  have hrun := run_callFunc hn hf (concL φ avs).toArray w
  unfold Oper.wp
  have he : (execOp a.eval r).run P w = .ok (.enter f (concL φ avs).toArray) w := by
    obtain ⟨dst, op, ty, pos, aft, gd⟩ := r
    simp only at hr
    subst hr
    rw [← hrun]
    simp only [execOp, resolve, h3]
    simp [Act.eval, Deferred.ofValue, invoke]
  rw [he, Oper.upon_enter]
  refine hc.mono fun e w' hp => ?_
  obtain ⟨φ', H', nx', v, env', rfl, k1, k2, k3, k4, k5, k6, k7⟩ := hK e w' hp
  have hag : ∀ t u, env.look t = some u → a.tmps[t]? = some (conc φ' u) := fun t u hu => by
    rw [h.slots t u hu, k2 t u hu]
  obtain ⟨q1, q2, q3⟩ := put_ok k6 (φ := φ) h.size hag
  exact k7 _ ⟨k3, k4, q3, put_all k6 k5 (fun t u hu => (h.all t u hu).mono fun i hi => Nat.lt_of_lt_of_le hi k1), q1, by rw [q2]; exact h.defers⟩
end Ev
end Go.Proofs.YtpkfimijnkkbjaaGreat

namespace Go.Proofs.YtpkfimijnkkbjaaGreat
namespace Ev

variable {κ : Keep}

variable {P : Program}

/-- The first pieces of a chain of code, and what follows. -/
def takeC : Nat → Code → Code
  | 0, .seq a _ => a
  | k + 1, .seq a b => .seq a (takeC k b)
  | _, c => c
def dropC : Nat → Code → Code
  | 0, .seq _ b => b
  | k + 1, .seq _ b => dropC k b
  | _, c => c
def hasC : Nat → Code → Bool
  | 0, .seq _ _ => true
  | k + 1, .seq _ b => hasC k b
  | _, _ => false

theorem does_take {sm : Sums} (hnm : Named P) (hmix : P.follows .mixedOrders = true) (hsm : SumsOk P sm) {d nt : Nat} : ∀ (k : Nat) (c : Code) (F : Nat) (env env' : Env) (s s' : St), hasC k c = true → evCode P (evFn P sm d) nt F (takeC k c) env s = .ok (.normal, env') s' →
    Does s s' env env' nt (fun K a w => ∀ Q : Exit → Act → World → Prop, (∀ a w, K a w → (dropC k c).wp P Q a w) → c.wp P Q a w)
  | 0, .seq a b, F, env, env', s, s', _, h => by
    refine ((evCode_ok hnm (draw_ok hmix) (sound hnm hmix hsm d) (nt := nt) F).1 a env env' s s' .normal h).mono fun K x w hT Q hQ => wp_seq (hT _ fun a w hK => hQ a w hK)
  | k + 1, .seq a b, 0, env, env', s, s', _, h => by cases h
  | k + 1, .seq a b, F + 1, env, env', s, s', hc, h => by
    have h' : evCode P (evFn P sm d) nt (F + 1) (.seq a (takeC k b)) env s = .ok (.normal, env') s' := h
    simp only [evCode] at h'
    split at h'
    · rename_i env1 s1 h1
      exact Does.trans ((evCode_ok hnm (draw_ok hmix) (sound hnm hmix hsm d) (nt := nt) F).1 a env env1 s s1 .normal h1) (does_take hnm hmix hsm k b F env1 env' s1 s' hc h') fun K x w hT Q hQ => wp_seq (hT _ fun a w h2 => h2 Q hQ)
    · rename_i hne
      exact (hne _ _ h').elim

/-- A function is run piece by piece. -/
theorem calls_seg {f : FuncId} {fn : Func} {c : Code} (hf : P.funcs[f]? = some fn) (hb : fn.body = some c) {args : List AV} (hlen : args.length ≤ fn.ntmps) {H : Nat → Option AObj} {nx : Nat} {φ : Phi} {w : World} (hfit : FitH κ H φ w) (hids : ∀ c o, H c = some o → c < nx ∧ o.All (· < nx)) (hargs : AllL (· < nx) args)
    {post : Ending → World → Prop} (hbody : ∀ a, At κ H fn.ntmps nx (argsE args 0) φ w a → c.wp P (fun x a' w' => (x = .normal ∨ x = .ret) ∧ ∃ (H' : Nat → Option AObj) (nx' : Nat) (env' : Env) (φ' : Phi) (s s' : St) (vs : List AV) (v : AV), At κ H' fn.ntmps nx' env' φ' w' a' ∧
      (∀ c o, s.get c = some o → ∃ o0, H' c = some o0 ∧ Same φ' φ' o0 o) ∧ evResults P env' fn.results.toList s = .ok vs s' ∧ s'.pre ∧ (vs = [v] ∨ (vs.length ≠ 1 ∧ v = .tup vs)) ∧ post (.returned (conc φ' v)) w') a w) : Calls P f (concL φ args).toArray w post := by
  refine calls_of_wp hf hb ?_
  have hsize : ((concL φ args).toArray ++ Array.replicate (fn.ntmps - (concL φ args).toArray.size) undef).size = fn.ntmps := by
    simp [concL_length]; omega
  have henv : EnvOk φ (argsE args 0) ((concL φ args).toArray ++ Array.replicate (fn.ntmps - (concL φ args).toArray.size) undef) := by
    intro t u hu
    rw [look_args, if_pos (Nat.zero_le _), Nat.sub_zero] at hu
    have hlt := (List.getElem?_eq_some_iff.1 hu).1
    rw [Array.getElem?_append_left (by simpa [concL_length] using hlt)]
    simp [concL_get, hu]
  have hina : EnvAll (· < nx) (argsE args 0) := fun t u hu => by
    rw [look_args, if_pos (Nat.zero_le _)] at hu
    exact allL_get hargs hu
  refine wp_mono (hbody ⟨(concL φ args).toArray ++ Array.replicate (fn.ntmps - (concL φ args).toArray.size) undef, []⟩ ⟨hfit, hids, henv, hina, hsize, rfl⟩) ?_
  rintro x a' w' ⟨hx, H', nx', env', φ', s, s', vs, v, hat, hs, hr, hp, hvs, hpost⟩
  obtain ⟨R2, hq, id2, sem2⟩ := evResults_ok _ _ _ _ hr
  have hFits : Fits s R2 φ' w' := ⟨fun b o _ hg => by
      obtain ⟨o0, h2, h3⟩ := hs b o hg
      exact (hat.fit.holds b o0 h2).same rfl h3, fun b c _ _ hgb hgc he => by
      obtain ⟨x, hx⟩ := some_of_ne hgb
      obtain ⟨x0, hx0, _⟩ := hs b x hx
      obtain ⟨y, hy⟩ := some_of_ne hgc
      obtain ⟨y0, hy0, _⟩ := hs c y hy
      exact hat.fit.inj b c x0 y0 hx0 hy0 he⟩
  have hres := sem2 φ' w' a'.tmps hp hFits hat.slots
  have hrun : (results fn a'.tmps).run P w' = .ok (conc φ' v) w' := by
    rw [results_eq]
    simp only [Sem.run_bind, Array.mapM_eq_mapM_toList]
    rcases hvs with rfl | ⟨hne, rfl⟩
    · simp [hres, concL]
    · simp [hres, concL_length, hne, conc]
  have : bodyPost P fn post .normal a' w' := ⟨hat.defers, conc φ' v, hrun, hpost⟩
  rcases hx with rfl | rfl
  · exact this
  · exact this

/-- What a run of code shows. -/
def viewC (slots names : List Nat) (r : Res (Ex × Env)) : Option (Ex × List (Option AV) × Prop × Nat × List Nat × List (Option AObj)) := match r with
  | .ok (x, env) s => some (x, slots.map env.look, s.pre, s.next, (List.range 128).filter s.wr.testBit, names.map s.get)
  | .fail _ => none
theorem viewC_some {slots names : List Nat} {r : Res (Ex × Env)} {x : Ex} {vs : List (Option AV)} {p : Prop} {nx : Nat} {wr : List Nat} {l : List (Option AObj)} (h : viewC slots names r = some (x, vs, p, nx, wr, l)) :
    ∃ env s, r = .ok (x, env) s ∧ slots.map env.look = vs ∧ s.pre = p ∧ s.next = nx ∧ (∀ c, c < 128 → (s.wr.testBit c = true ↔ c ∈ wr)) ∧ names.map s.get = l := by
  unfold viewC at h
  split at h
  · rename_i x' env s
    simp only [Option.some.injEq, Prod.mk.injEq] at h
    obtain ⟨rfl, rfl, rfl, rfl, rfl, rfl⟩ := h
    exact ⟨env, s, rfl, rfl, rfl, rfl, fun c hc => by simp [hc], rfl⟩
  · cases h
theorem slot_of {slots : List Nat} {env : Env} {l : List (Option AV)} (h : slots.map env.look = l) (i : Nat) {t : Nat} {v : Option AV} (hc : slots[i]? = some t) (ho : l[i]? = some v) : env.look t = v := by
  subst h
  rw [List.getElem?_map, hc] at ho
  simpa using ho
theorem look_mem : ∀ {env : Env} {t : Nat} {u : AV}, env.look t = some u → (t, u) ∈ env
  | (x, v) :: e, t, u, h => by
    unfold Env.look at h
    split at h
    · rename_i hx
      have : x = t := Nat.eq_of_beq_eq_true hx
      cases h; subst this; simp
    · have := look_mem h
      simp [this]
/-- A few slots, as they are to be known from here on; and the heap under other names. -/
theorem At.recast {H H' : Nat → Option AObj} {nt nx nx' : Nat} {env E : Env} {φ φ' : Phi} {w : World} {a : Act} (h : At κ H nt nx env φ w a) (hfit : FitH κ H' φ' w) (hids : ∀ c o, H' c = some o → c < nx' ∧ o.All (· < nx'))
    (he : ∀ p ∈ E, ∃ v, env.look p.1 = some v ∧ conc φ v = conc φ' p.2 ∧ p.2.All (· < nx')) : At κ H' nt nx' E φ' w a :=
  ⟨hfit, hids, fun t u hu => by
    obtain ⟨v, h1, h2, _⟩ := he _ (look_mem hu)
    rw [h.slots t v h1, h2], fun t u hu => by
    obtain ⟨_, _, _, h3⟩ := he _ (look_mem hu)
    exact h3, h.size, h.defers⟩
/-- A heap of which nothing was written, or of which we keep what was not. -/
theorem FitH.keep {H H' : Nat → Option AObj} {φ : Phi} {w : World} {s : St} (h : FitH κ (after H s) φ w) (hH : ∀ c o, H' c = some o → after H s c = some o) : FitH κ H' φ w :=
  ⟨fun c o hc => h.holds c o (hH c o hc), fun b c x y hb hc he => h.inj b c x y (hH b x hb) (hH c y hc) he, fun c o hc => h.base c o (hH c o hc), h.old, h.size, h.env⟩

/-- What a function's last piece shows. -/
def viewR (P : Program) (res : List ResultVar) (names : List Nat) (r : Res (Ex × Env)) : Option (List AV × Prop × Nat × List Nat × List (Option AObj)) := match r with
  | .ok (.exit _, _) _ => none
  | .ok (_, env) s => match evResults P env res s with
    | .ok vs s' => some (vs, s'.pre, s.next, (List.range 128).filter s.wr.testBit, names.map s.get)
    | .fail _ => none
  | .fail _ => none
theorem viewR_some {res : List ResultVar} {names : List Nat} {r : Res (Ex × Env)} {vs : List AV} {p : Prop} {nx : Nat} {wr : List Nat} {l : List (Option AObj)} (h : viewR P res names r = some (vs, p, nx, wr, l)) :
    ∃ x env s s', (x = .normal ∨ x = .ret) ∧ r = .ok (x, env) s ∧ evResults P env res s = .ok vs s' ∧ s'.pre = p ∧ (s'.pre → s.pre) ∧ s.next = nx ∧ (∀ c, c < 128 → (s.wr.testBit c = true ↔ c ∈ wr)) ∧ names.map s.get = l ∧ (∀ c, s'.get c = s.get c) := by
  unfold viewR at h
  split at h
  · cases h
  · rename_i x env s hx
    split at h
    · rename_i vs' s' hr
      simp only [Option.some.injEq, Prod.mk.injEq] at h
      obtain ⟨rfl, rfl, rfl, rfl, rfl⟩ := h
      obtain ⟨_, hq, _, _⟩ := evResults_ok _ _ _ _ hr
      refine ⟨x, env, s, s', ?_, rfl, hr, rfl, hq.pre, rfl, fun c hc => by simp [hc], rfl, hq.get⟩
      cases x with
      | normal => exact .inl rfl
      | ret => exact .inr rfl
      | exit i => exact (hx i rfl).elim
    · cases h
  · cases h

/-- One operation of a region that is run in the text's order. -/
theorem does_op {call : FuncId → List AV → St → Res AV} (hn : Named P) (hc : CallOk P call) {nt : Nat} {ops : Array Oper} {r : Oper} {i : Nat} {env env1 : Env} {s s1 : St} {v : AV} (hi : ops[i]? = some r) (hv : evOper P call ops r env s = .ok v s1) (hput : putE nt r.dst v env = some env1) :
    Does s s1 env env1 nt (fun K a w => ∀ Q : Exit → Act → World → Prop, wpOp P ops Q i K a w) := by
  obtain ⟨R, W, h1, h2, h3⟩ := evOper_ok hn hc hv
  refine ⟨R, W, h1, fun D hp hD hin hR => ?_, fun φ w a K hp hsz he hf ho hin hK Q => ?_⟩
  · have := h2 D hp hD (fun t _ u hu => hin t u hu) hR
    exact ⟨put_all hput this.1 hin, this.2⟩
  · refine h3 φ w a i K Q hi hp hf ho (fun t _ u hu => hin t u hu) (fun t _ u hu => he t u hu) fun φ' w' hm => ?_
    have hag : ∀ t u, env.look t = some u → a.tmps[t]? = some (conc φ' u) := fun t u hu => by
      rw [he t u hu, conc_congr (D := (· < s.next)) (fun j hj => hm.agree j (by omega)) (hin t u hu)]
    obtain ⟨q1, q2, q3⟩ := put_ok hput (φ := φ) hsz hag
    exact hK φ' w' _ hm q1 q2 q3
theorem region_wp {c : Code} {id : Nat} {ops : Array Oper} {Q : Exit → Act → World → Prop} {a : Act} {w : World} (hc : c = .region id ops false) (h : wpOps P ops Q (List.range ops.size) a w) : c.wp P Q a w := by
  subst hc; exact wp_region h
end Ev
end Go.Proofs.YtpkfimijnkkbjaaGreat

namespace Go.Proofs.YtpkfimijnkkbjaaGreat
namespace Ev

variable {κ : Keep}

def mk (l : List (Nat × AObj)) : Tr := l.foldl (fun t p => Tr.put Ev.deep t p.1 (some p.2)) .nil
theorem look_nil (c : Nat) : ∀ f, Tr.look f .nil c = none
  | 0 => rfl
  | _ + 1 => rfl
theorem mk_get {c : Nat} {o : AObj} : ∀ (l : List (Nat × AObj)) (t : Tr), Tr.look Ev.deep (l.foldl (fun t p => Tr.put Ev.deep t p.1 (some p.2)) t) c = some o → (c, o) ∈ l ∨ Tr.look Ev.deep t c = some o
  | [], t, h => .inr h
  | p :: l, t, h => by
    rcases mk_get l _ h with h | h
    · exact .inl (by simp [h])
    · by_cases hp : p.1 = c
      · subst hp
        have := look_put_eq _ _ _ _ _ h
        cases this
        exact .inl (by simp)
      · rw [look_put_ne _ _ _ _ _ hp] at h
        exact .inr h
theorem get_mk {l : List (Nat × AObj)} {n r w : Nat} {p : Prop} {oo : List Ans} {c : Nat} {o : AObj} (h : St.get ⟨mk l, n, r, w, p, oo⟩ c = some o) : (c, o) ∈ l := by
  rcases mk_get l .nil h with h | h
  · exact h
  · rw [look_nil] at h; cases h

/-- What a run shows: its answer, what must hold, the next name, the names that were written, and some blocks. -/
def view (names : List Nat) (r : Res AV) : Option (AV × Prop × Nat × List Nat × List (Option AObj)) := match r with
  | .ok v s => some (v, s.pre, s.next, (List.range 128).filter s.wr.testBit, names.map s.get)
  | .fail _ => none
theorem view_some {names : List Nat} {r : Res AV} {v : AV} {p : Prop} {nx : Nat} {wr : List Nat} {l : List (Option AObj)} (h : view names r = some (v, p, nx, wr, l)) :
    ∃ s, r = .ok v s ∧ s.pre = p ∧ s.next = nx ∧ (∀ c, c < 128 → (s.wr.testBit c = true ↔ c ∈ wr)) ∧ names.map s.get = l := by
  unfold view at h
  split at h
  · rename_i v' s
    simp only [Option.some.injEq, Prod.mk.injEq] at h
    obtain ⟨rfl, rfl, rfl, rfl, rfl⟩ := h
    refine ⟨s, rfl, rfl, rfl, fun c hc => ?_, rfl⟩
    simp [hc]
  · cases h
theorem get_of_names {names : List Nat} {s : St} {l : List (Option AObj)} (h : names.map s.get = l) (i : Nat) {c : Nat} {o : Option AObj} (hc : names[i]? = some c) (ho : l[i]? = some o) : s.get c = o := by
  subst h
  rw [List.getElem?_map, hc] at ho
  simpa using ho

/-- A heap under other names. -/
theorem FitH.moved {H H' : Nat → Option AObj} {φ : Phi} {w : World} (h : FitH κ H φ w) (ρ : Nat → Nat) (hρ : ∀ b c x y, H' b = some x → H' c = some y → ρ b = ρ c → b = c)
    (hH : ∀ c o', H' c = some o' → ∃ o, H (ρ c) = some o ∧ Same φ (fun i => φ (ρ i)) o o') : FitH κ H' (fun i => φ (ρ i)) w :=
  h.rename ρ hρ fun c o' hc => ⟨rfl, hH c o' hc⟩
end Ev
end Go.Proofs.YtpkfimijnkkbjaaGreat
