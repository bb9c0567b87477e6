/-
  Some operations of a region that is run in the text's order.
  lives() is known: wherever it is called, it answers true and leaves all as it was.
  TopCounts: its scene, reckoned.
  The play's beginning in a memory.
-/
import Derived.Test.YtpkfimijnkkbjaaGreatJ18
import Derived.Test.YtpkfimijnkkbjaaGreatJ17
set_option linter.unusedVariables false
namespace Go.Proofs.YtpkfimijnkkbjaaGreat
namespace Ev

variable {κ : Keep}

variable {P : Program}

theorem does_ops {call : FuncId → List AV → St → Res AV} (hn : Named P) (hc : CallOk P call) {nt : Nat} {ops : Array Oper} :
    ∀ (l : List Oper) (i : Nat) (env env' : Env) (s s' : St), evText P call nt ops l env s = .ok env' s' → (∀ j, j < l.length → l[j]? = ops[i + j]?) →
      Does s s' env env' nt (fun K a w => ∀ (Q : Exit → Act → World → Prop) (rest : List Nat), (∀ a w, K a w → wpOps P ops Q rest a w) → wpOps P ops Q (List.range' i l.length ++ rest) a w)
  | [], i, env, env', s, s', h, _ => by
    simp only [evText] at h
    cases h
    exact Does.refl fun K a w h Q rest hQ => by simpa using hQ a w h
  | r :: l, i, env, env', s, s', h, hl => by
    simp only [evText] at h
    split at h
    · rename_i v s1 hv
      split at h
      · rename_i env1 hput
        have hi : ops[i]? = some r := by have := hl 0 (by simp); simpa using this.symm
        have first := does_op hn hc (nt := nt) hi hv hput
        have rest := does_ops hn hc (nt := nt) (ops := ops) l (i + 1) env1 env' s1 s' h (fun j hj => by have := hl (j + 1) (by simp; omega); simp only [List.getElem?_cons_succ] at this; rw [this]; congr 1; omega)
        refine Does.trans first rest fun K a w hT Q rst hQ => ?_
        rw [List.length_cons, List.range'_succ, List.cons_append, wpOps_cons]
        exact wpOp_mono (fun a w ha => ha Q rst hQ) (hT Q)
      · cases h
    · cases h
/-- What a run of operations shows. -/
def viewO (slots names : List Nat) (r : Res Env) : Option (List (Option AV) × Prop × Nat × List Nat × List (Option AObj)) := match r with
  | .ok env s => some (slots.map env.look, s.pre, s.next, (List.range 128).filter s.wr.testBit, names.map s.get)
  | .fail _ => none
theorem viewO_some {slots names : List Nat} {r : Res Env} {vs : List (Option AV)} {p : Prop} {nx : Nat} {wr : List Nat} {l : List (Option AObj)} (h : viewO slots names r = some (vs, p, nx, wr, l)) :
    ∃ env s, r = .ok env s ∧ slots.map env.look = vs ∧ s.pre = p ∧ s.next = nx ∧ (∀ c, c < 128 → (s.wr.testBit c = true ↔ c ∈ wr)) ∧ names.map s.get = l := by
  unfold viewO at h
  split at h
  · rename_i env s
    simp only [Option.some.injEq, Prod.mk.injEq] at h
    obtain ⟨rfl, rfl, rfl, rfl, rfl⟩ := h
    exact ⟨env, s, rfl, rfl, rfl, rfl, fun c hc => by simp [hc], rfl⟩
  · cases h

/-- As 'seg', with the blocks that the run knows. -/
theorem seg_d {s s' : St} {env env' : Env} {nt : Nat} {T : (Act → World → Prop) → Act → World → Prop} (hd : Does s s' env env' nt T) {H : Nat → Option AObj} {φ : Phi} {w : World} {a : Act} (h : At κ H nt s.next env φ w a)
    (hs : ∀ c o, s.get c = some o → o.All (· < s.next) ∧ ∃ o0, H c = some o0 ∧ Same φ φ o0 o) (hp : s'.pre) {K : Act → World → Prop}
    (hK : ∀ φ' w' a', (∀ i, i < s.next → φ' i = φ i) → At κ (after H s') nt s'.next env' φ' w' a' → (∀ c o, s'.get c = some o → ∃ o0, after H s' c = some o0 ∧ Same φ' φ' o0 o) → K a' w') : T K a w := by
  have hd' := hd
  obtain ⟨R, W, sp, _, _⟩ := hd'
  refine seg hd h hs hp fun φ' w' a' hφ hat => hK φ' w' a' hφ hat fun c o hc => ?_
  unfold after
  by_cases hw : s'.wr.testBit c = true
  · rw [if_pos hw]; exact ⟨o, hc, Same.refl _ _⟩
  · rw [if_neg hw]
    have hc' : s.get c = some o := by rw [← sp.same c (fun hh => hw (sp.wr c hh))]; exact hc
    obtain ⟨h1, o0, h2, h3⟩ := hs c o hc'
    exact ⟨o0, h2, h3.congr (D := (· < s.next)) hφ (h.ids c o0 h2).2 h1⟩
/-- What a function's last operations show. -/
def viewQ (P : Program) (res : List ResultVar) (r : Res Env) : Option (List AV × Prop × Nat × List Nat) := match r with
  | .ok env s => match evResults P env res s with
    | .ok vs s' => some (vs, s'.pre, s.next, (List.range 128).filter s.wr.testBit)
    | .fail _ => none
  | .fail _ => none
theorem viewQ_some {res : List ResultVar} {r : Res Env} {vs : List AV} {p : Prop} {nx : Nat} {wr : List Nat} (h : viewQ P res r = some (vs, p, nx, wr)) :
    ∃ env s s', r = .ok env s ∧ evResults P env res s = .ok vs s' ∧ s'.pre = p ∧ (s'.pre → s.pre) ∧ s.next = nx ∧ (∀ c, c < 128 → (s.wr.testBit c = true ↔ c ∈ wr)) := by
  unfold viewQ at h
  split at h
  · rename_i env s
    split at h
    · rename_i vs' s' hr
      simp only [Option.some.injEq, Prod.mk.injEq] at h
      obtain ⟨rfl, rfl, rfl, rfl⟩ := h
      obtain ⟨_, hq, _, _⟩ := evResults_ok _ _ _ _ hr
      exact ⟨env, s, s', rfl, hr, rfl, hq.pre, rfl, fun c hc => by simp [hc]⟩
    · cases h
  · cases h
theorem FitH.sub {H H' : Nat → Option AObj} {φ : Phi} {w : World} (h : FitH κ H φ w) (hH : ∀ c o, H' c = some o → H c = some o) : FitH κ H' φ w :=
  ⟨fun c o hc => h.holds c o (hH c o hc), fun b c x y hb hc he => h.inj b c x y (hH b x hb) (hH c y hc) he, fun c o hc => h.base c o (hH c o hc), h.old, h.size, h.env⟩
/-- A call that is known otherwise, behind which some slots are known. -/
theorem seg_call2 {ops : Array Oper} {i : Nat} {r : Oper} {f : FuncId} {ars : Array Operand} {ats : Array TypeId} {avs : List AV} {env : Env} {nt nx : Nat} {H : Nat → Option AObj} {φ : Phi} {w : World} {a : Act} {K : Act → World → Prop} {Q : Exit → Act → World → Prop}
    (hn : Named P) (hf : ∃ fn, P.funcs[f]? = some fn ∧ fn.body.isSome = true) (hi : ops[i]? = some r) (hr : r.op = .call { callee := .value (.func f), args := ars, argTypes := ats }) (hg : r.guard = none) (hav : evAs env ars.toList = some avs)
    (h : At κ H nt nx env φ w a) {post : Ending → World → Prop} (hc : Calls P f (concL φ avs).toArray w post)
    (hK : ∀ e w', post e w' → ∃ (φ' : Phi) (H' : Nat → Option AObj) (nx' : Nat) (v : AV) (env0 env' : Env), e = .returned (conc φ' v) ∧ nx ≤ nx' ∧ (∀ t u, env0.look t = some u → env.look t = some u ∧ conc φ' u = conc φ u) ∧ FitH κ H' φ' w' ∧ (∀ c o, H' c = some o → c < nx' ∧ o.All (· < nx')) ∧ v.All (· < nx') ∧ putE nt r.dst v env0 = some env' ∧
      ∀ a', At κ H' nt nx' env' φ' w' a' → K a' w') : wpOp P ops Q i K a w := by
  unfold wpOp
  have hw : Region.wanted r (yielded ops a.tmps) = true := by simp [Region.wanted, hg]
  simp only [hi, hw, if_true]
  refine .inl ?_
  have h2 := evAs_ok (φ := φ) (ρ := a.eval) hav (fun x _ u hu => evA_eval (fun t _ u hu => h.slots t u hu) hu)
  have h3 : ars.map a.eval = (concL φ avs).toArray := by rw [← h2]; simp [← Array.toList_map]
  have hrun := run_callFunc hn hf (concL φ avs).toArray w
  unfold Oper.wp
  have he : (execOp a.eval r).run P w = .ok (.enter f (concL φ avs).toArray) w := by
    obtain ⟨dst, op, ty, pos, aft, gd⟩ := r
    simp only at hr
    subst hr
    rw [← hrun]
    simp only [execOp, resolve, h3]
    simp [Act.eval, Deferred.ofValue, invoke]
  rw [he, Oper.upon_enter]
  refine hc.mono fun e w' hp => ?_
  obtain ⟨φ', H', nx', v, env0, env', rfl, k1, k2, k3, k4, k5, k6, k7⟩ := hK e w' hp
  have hag : ∀ t u, env0.look t = some u → a.tmps[t]? = some (conc φ' u) := fun t u hu => by
    rw [h.slots t u (k2 t u hu).1, (k2 t u hu).2]
  obtain ⟨q1, q2, q3⟩ := put_ok k6 (φ := φ) h.size hag
  exact k7 _ ⟨k3, k4, q3, put_all k6 k5 (fun t u hu => (h.all t u (k2 t u hu).1).mono fun i hi => Nat.lt_of_lt_of_le hi k1), q1, by rw [q2]; exact h.defers⟩
end Ev
end Go.Proofs.YtpkfimijnkkbjaaGreat

namespace Go.Proofs.YtpkfimijnkkbjaaGreat
namespace Ev

def liveSum : Sums := fun f => match Nat.beq f 7 with
  | true => some fun args s => match args with
    | [] => .ok (.bool true) s
    | _ => .fail []
  | false => none
theorem live_ok : SumsOk Tryz.prog liveSum := by
  intro f g hg args s v s' h
  unfold liveSum at hg
  split at hg
  · rename_i hf
    have hf' := Nat.eq_of_beq_eq_true hf
    subst hf'
    cases hg
    cases args with
    | nil =>
      cases h
      have hq := Quiet.refl s
      refine ⟨⟨_, Tryz.func7, by kernel_rfl⟩, _, _, hq.sp, hq.ids fun D _ _ _ => trivial, fun φ w hp hf ho hin => ?_⟩
      refine (lives_any w).mono ?_
      rintro e w' ⟨rfl, h1, h2, h3⟩
      exact ⟨φ, rfl, fun _ _ => rfl, fun b o hb => hb.elim, fun b c hb => hb.elim, fun b hb => hb.elim, fun r hr _ => h1 r hr, h2, h3⟩
    | cons x l => cases h
  · cases hg
end Ev
end Go.Proofs.YtpkfimijnkkbjaaGreat

namespace Go.Proofs.YtpkfimijnkkbjaaGreat
namespace Ct
open Ev

theorem v4_guard (n e : Int) (b off len cap : Nat) : viewC [0, 1, 2] [] (evCode Tryz.prog (evFn Tryz.prog liveSum 60) 170 100000 (takeC 1 (Tryz.f4.body.getD .skip)) (argsE [.sint .i64 n, .sint .u8 e, .sslice b off len cap] 0) ⟨mk [], 96, 0, 0, True, [.br false, .br false, .br false]⟩) =
    some (.normal, [some (.sint .i64 n), some (.sint .u8 e), some (.sslice b off len cap)], ((True ∧ cmpI .lss n 1 = false) ∧ cmpI .gtr n 6 = false) ∧ cmpI .gtr len 4000 = false, 96, [], []) := by kernel_rfl
theorem v4_guard0 (n e : Int) : viewC [0, 1, 2] [] (evCode Tryz.prog (evFn Tryz.prog liveSum 60) 170 100000 (takeC 1 (Tryz.f4.body.getD .skip)) (argsE [.sint .i64 n, .sint .u8 e, .nils] 0) ⟨mk [], 96, 0, 0, True, [.br false, .br false]⟩) =
    some (.normal, [some (.sint .i64 n), some (.sint .u8 e), some .nils], (True ∧ cmpI .lss n 1 = false) ∧ cmpI .gtr n 6 = false, 96, [], []) := by kernel_rfl
theorem v4_lives1 (n e : Int) (x : AV) (hx : x = .nils ∨ ∃ b off len cap, x = .sslice b off len cap) : viewR Tryz.prog Tryz.f4.results.toList [] (evCode Tryz.prog (evFn Tryz.prog liveSum 60) 170 100000 (Tryz.f4.body.getD .skip) (argsE [.sint .i64 n, .sint .u8 e, x] 0) ⟨mk [], 96, 0, 0, True, [.br true]⟩) =
    some ([.bool true], True ∧ cmpI .lss n 1 = true, 96, [], []) := by
  rcases hx with rfl | ⟨b, off, len, cap, rfl⟩
  · kernel_rfl
  · kernel_rfl
theorem v4_lives2 (n e : Int) (x : AV) (hx : x = .nils ∨ ∃ b off len cap, x = .sslice b off len cap) : viewR Tryz.prog Tryz.f4.results.toList [] (evCode Tryz.prog (evFn Tryz.prog liveSum 60) 170 100000 (Tryz.f4.body.getD .skip) (argsE [.sint .i64 n, .sint .u8 e, x] 0) ⟨mk [], 96, 0, 0, True, [.br false, .br true]⟩) =
    some ([.bool true], (True ∧ cmpI .lss n 1 = false) ∧ cmpI .gtr n 6 = true, 96, [], []) := by
  rcases hx with rfl | ⟨b, off, len, cap, rfl⟩
  · kernel_rfl
  · kernel_rfl
theorem v4_lives3 (n e : Int) (b off len cap : Nat) : viewR Tryz.prog Tryz.f4.results.toList [] (evCode Tryz.prog (evFn Tryz.prog liveSum 60) 170 100000 (Tryz.f4.body.getD .skip) (argsE [.sint .i64 n, .sint .u8 e, .sslice b off len cap] 0) ⟨mk [], 96, 0, 0, True, [.br false, .br false, .br true]⟩) =
    some ([.bool true], ((True ∧ cmpI .lss n 1 = false) ∧ cmpI .gtr n 6 = false) ∧ cmpI .gtr len 4000 = true, 96, [], []) := by kernel_rfl
theorem v4_many (n e : Int) (pv : Value) : viewC [0, 2, 7] [] (evCode Tryz.prog (evFn Tryz.prog liveSum 60) 170 100000 (takeC 0 (dropC 1 (Tryz.f4.body.getD .skip))) [(0, .sint .i64 n), (1, .sint .u8 e), (2, .opq pv)] ⟨mk [], 96, 0, 0, True, []⟩) =
    some (.normal, [some (.sint .i64 n), some (.opq pv), some (.sint .i64 ((IntKind.i64.wrap e).tmod 6))], True ∧ (6 != (0 : Int)) = true, 96, [], []) := by kernel_rfl

/-- Two slots. -/
def both (env : Env) : Option AV := match env.look 0, env.look 7 with
  | some u, some t => some (.tup [u, t])
  | _, _ => none
theorem both_ok {env : Env} {u t : AV} (h : both env = some (.tup [u, t])) : env.look 0 = some u ∧ env.look 7 = some t := by
  unfold both at h
  split at h
  · rename_i u' t' h1 h2
    cases h; exact ⟨h1, h2⟩
  · cases h
/-- Is what has been laid the canonical scene? -/
def made (n many : Nat) (r : Res (Ex × Env)) : Option (Bool × Prop × Nat × Nat × Nat × Option AV × Option AV) := match r with
  | .ok (.normal, env) s => match env.look 8 with
    | some (.ptr q 0) => match s.get q with
      | some (.row _ [.int .i64 a, .slice p 0 3 3, cl, pv] t none) =>
        let c := follow s q 2
        let l := if many = 0 then [(1, p), (14, q)] else [(1, p), (14, q), (7, c)]
        some (decide (a = (n : Int)) && Nat.beq t 26 && freshB l && eqA (rl l) cl (clArg n many) && eqO (rl l) 1 (s.get p) (some (.row false specRow 39 none)) && s.wr.testBit p && s.wr.testBit q && (Nat.beq many 0 || (s.wr.testBit c && eqO (rl l) 7 (s.get c) (some (.row false (callsOf n many) 42 (some 6))))), s.pre, p, c, q, some pv, both env)
      | _ => none
    | _ => none
  | _ => none
/-- The scene's piece of TopCounts, for so many threads and rounds. -/
def sceneRun (P : Program) (c : Code) (n many : Nat) (pv : Value) : Res (Ex × Env) := evCode P (evFn P liveSum 60) 170 100000 (takeC 1 (dropC 2 c)) [(0, .int .i64 (n : Nat)), (7, .int .i64 (many : Nat)), (2, .opq pv)] ⟨mk [], 96, 0, 0, True, []⟩
/-- What a check shows, but for the names. -/
def madeOk (x : Option (Bool × Prop × Nat × Nat × Nat × Option AV × Option AV)) : Option (Bool × Prop × Option AV × Option AV) := match x with
  | some (b, p, _, _, _, v, u) => some (b, p, v, u)
  | none => none
end Ct
end Go.Proofs.YtpkfimijnkkbjaaGreat

namespace Go.Proofs.YtpkfimijnkkbjaaGreat
namespace Ct
open Ev

variable {κ : Keep}

theorem rl_key : ∀ {l : List (Nat × Nat)} {i : Nat}, (∃ p ∈ l, p.1 = i) → ∃ p ∈ l, p.1 = i ∧ rl l i = p.2
  | [], i, ⟨p, hp, _⟩ => by cases hp
  | (b, x) :: l, i, h => by
    by_cases e : i = b
    · subst e
      exact ⟨(i, x), by simp, rfl, by simp [rl]⟩
    · have hb : Nat.beq i b = false := by
        cases hh : Nat.beq i b with
        | true => exact absurd (Nat.eq_of_beq_eq_true hh) e
        | false => rfl
      obtain ⟨p, hp, hpi⟩ := h
      have : p ∈ l := by
        rcases List.mem_cons.1 hp with h | h
        · rw [h] at hpi; exact absurd hpi.symm e
        · exact h
      obtain ⟨q, h1, h2, h3⟩ := rl_key (l := l) ⟨p, this, hpi⟩
      refine ⟨q, by simp [h1], h2, ?_⟩
      unfold rl; rw [hb]; exact h3
theorem rl_id : ∀ {l : List (Nat × Nat)} {i : Nat}, (∀ p ∈ l, p.1 ≠ i) → rl l i = i
  | [], i, _ => rfl
  | (b, x) :: l, i, h => by
    have e := h (b, x) (by simp)
    have hb : Nat.beq i b = false := by
      cases hh : Nat.beq i b with
      | true => exact absurd (Nat.eq_of_beq_eq_true hh).symm e
      | false => rfl
    unfold rl; rw [hb]
    exact rl_id fun p hp => h p (by simp [hp])
theorem laid_keys {s : St} {n many p r : Nat} {x : Nat × Nat} (h : x ∈ laid s n many p r) : x.1 ≠ 7 ∧ ¬ (12 < x.1 ∧ x.1 < 16) := by
  unfold laid at h
  simp only [List.mem_append, List.mem_cons, List.not_mem_nil, or_false, List.mem_map] at h
  rcases h with ((h | h) | ⟨t, _, h⟩) | ⟨t, _, h⟩
  · rcases h with h | h | h | h | h | h | h | h | h | h <;> (subst h; simp)
  · split at h
    · cases h
    · obtain ⟨t, _, h⟩ := List.mem_map.1 h
      subst h; simp only; omega
  · subst h; simp only; omega
  · subst h; simp only; omega
theorem laid_all {s : St} {n many p r : Nat} {O : Nat → Option AObj} {b : Nat} {o : AObj} (h : heap n many c0 (j0 n many O) b = some o) : (∃ x ∈ laid s n many p r, x.1 = b) ∨ b = 7 ∨ (12 < b ∧ b < 16) := by
  unfold heap at h
  split at h
  · rename_i hb
    unfold fixed at h
    split at h
    · exact .inl ⟨(0, p), by simp [laid], rfl⟩
    · exact .inl ⟨(1, follow s p 0), by simp [laid], rfl⟩
    · exact .inl ⟨(2, follow s (follow s p 0) 0), by simp [laid], rfl⟩
    · exact .inl ⟨(3, follow s (follow s (follow s p 0) 0) 0), by simp [laid], rfl⟩
    · exact .inl ⟨(4, follow s p 3), by simp [laid], rfl⟩
    · exact .inl ⟨(5, follow s (follow s p 3) 0), by simp [laid], rfl⟩
    · exact .inl ⟨(6, r), by simp [laid], rfl⟩
    · exact .inr (.inl rfl)
    · simp [j0] at h
    · exact .inl ⟨(9, follow s p 1), by simp [laid], rfl⟩
    · exact .inl ⟨(10, follow s (follow s p 0) 34), by simp [laid], rfl⟩
    · simp [j0] at h
    · exact .inl ⟨(12, follow s (follow s p 1) 2), by simp [laid], rfl⟩
    · exact .inr (.inr ⟨by omega, by omega⟩)
    · exact .inr (.inr ⟨by omega, by omega⟩)
    · exact .inr (.inr ⟨by omega, by omega⟩)
    · cases h
  · split at h
    · split at h
      · rename_i h1 h2 h3
        refine .inl ⟨(b, listOf s (follow s (follow s p 3) 0) (b - 16)), ?_, rfl⟩
        unfold laid
        refine List.mem_append_left _ (List.mem_append_left _ (List.mem_append_right _ ?_))
        rw [if_neg h3.2]
        exact List.mem_map.2 ⟨b - 16, List.mem_range.2 h3.1, by rw [show 16 + (b - 16) = b by omega]⟩
      · cases h
    · split at h
      · split at h
        · cases h
        · cases h
      · split at h
        · cases h
        · split at h
          · split at h
            · rename_i h1 h2 h3 h4 h5 h6
              refine .inl ⟨(b, follow s (follow s (follow s p 1) 2) (4 + (b - 64))), ?_, rfl⟩
              unfold laid
              refine List.mem_append_left _ (List.mem_append_right _ ?_)
              exact List.mem_map.2 ⟨b - 64, List.mem_range.2 h6, by rw [show 64 + (b - 64) = b by omega]⟩
            · cases h
          · split at h
            · split at h
              · rename_i h1 h2 h3 h4 h5 h6 h7
                refine .inl ⟨(b, follow s (follow s (follow s (follow s p 1) 2) (4 + (b - 80))) 2), ?_, rfl⟩
                unfold laid
                refine List.mem_append_right _ ?_
                exact List.mem_map.2 ⟨b - 80, List.mem_range.2 h7, by rw [show 80 + (b - 80) = b by omega]⟩
              · cases h
            · cases h

theorem begun_fit {n many : Nat} {O : Nat → Option AObj} {x : Ex} {env : Env} {s : St} {H : Nat → Option AObj} {φ : Phi} {w : World} (hb : begun n many O (.ok (x, env) s) = true) (hfit : FitH κ (after H s) φ w)
    (h7 : H 7 = if many = 0 then none else some (.row false (callsOf n many) 42 (some 6))) (hO : ∀ b, 12 < b → b < 16 → H b = O b) (hOn : ∀ b o, O b = some o → o.All fun _ => False) :
    x = .normal ∧ ∃ (p q : Nat) (φ' : Phi), env.look 10 = some (.ptr p 0) ∧ env.look 8 = some (.ptr q 0) ∧ env.look 9 = some (.int .i64 0) ∧ φ' 0 = φ p ∧ φ' 6 = φ q ∧ (∀ b, b = 7 ∨ (12 < b ∧ b < 16) → φ' b = φ b) ∧ FitH κ (heap n many c0 (j0 n many O)) φ' w := by
  unfold begun at hb
  split at hb
  · rename_i env' s' he
    cases he
    split at hb
    · rename_i p q h10 h8 h9
      simp only [Bool.and_eq_true, List.all_eq_true, Bool.not_eq_true'] at hb
      obtain ⟨⟨⟨⟨⟨⟨hf, hl⟩, w7⟩, w13⟩, w14⟩, w15⟩, hnx⟩ := hb
      let φ' : Phi := fun i => if quiet i = true then φ (rl (laid s n many p q) i) else ⟨(φ (rl (laid s n many p q) i)).blk, 0⟩
      have hren : Ren (rl (laid s n many p q)) φ φ' := ⟨fun i hi => by show (if quiet i = true then _ else _) = _; rw [if_pos hi], fun i hi => by show (if quiet i = true then _ else _) = _; rw [if_neg (by rw [hi]; simp)]⟩
      have hblk : ∀ i, (φ' i).blk = (φ (rl (laid s n many p q) i)).blk := fun i => by
        show (if quiet i = true then _ else _ : Slot).blk = _
        split <;> rfl
      have hid : ∀ i, i = 7 ∨ (12 < i ∧ i < 16) → rl (laid s n many p q) i = i := fun i hi => rl_id fun y hy e => by
        have := laid_keys hy
        omega
      have hkeep : ∀ i, i = 7 ∨ (12 < i ∧ i < 16) → φ' i = φ i := fun i hi => by
        have hq : quiet i = true := by
          rcases hi with h | h
          · subst h; rfl
          · have : i = 13 ∨ i = 14 ∨ i = 15 := by omega
            rcases this with h | h | h <;> (subst h; rfl)
        rw [hren.same i hq, hid i hi]
      have haft : ∀ i, i = 7 ∨ (12 < i ∧ i < 16) → after H s i = H i := fun i hi => by
        unfold after
        have : s.wr.testBit i = false := by
          have : i = 7 ∨ i = 13 ∨ i = 14 ∨ i = 15 := by omega
          rcases this with h | h | h | h <;> (subst h; assumption)
        rw [if_neg (by rw [this]; simp)]
      -- each canonical block lies where it was laid
      have key : ∀ b o', heap n many c0 (j0 n many O) b = some o' → b < 96 ∧ Holds φ' b o' w ∧ ∃ o, after H s (rl (laid s n many p q) b) = some o := by
        intro b o' hbo
        have hb96 : b < 96 := by
          unfold heap at hbo
          by_cases h : b < 96
          · exact h
          · rw [if_neg (by omega), if_neg (by omega), if_neg (by omega), if_neg (by omega), if_neg (by omega), if_neg (by omega)] at hbo; cases hbo
        refine ⟨hb96, ?_⟩
        rcases laid_all (s := s) (p := p) (r := q) hbo with hk | hk
        · obtain ⟨y, hy, hyb, hrl⟩ := rl_key hk
          obtain ⟨hw1, hw2⟩ := hl y hy
          rw [hyb, hbo] at hw2
          rw [← hrl] at hw1 hw2
          have hsome : ∃ o, s.get (rl (laid s n many p q) b) = some o := by
            cases hg : s.get (rl (laid s n many p q) b) with
            | none => rw [hg] at hw2; simp [eqO] at hw2
            | some o => exact ⟨o, rfl⟩
          obtain ⟨o, ho⟩ := hsome
          have haf : after H s (rl (laid s n many p q) b) = some o := by unfold after; rw [if_pos hw1, ho]
          refine ⟨eqO_ok hren hw2 fun o2 ho2 => ?_, o, haf⟩
          rw [ho] at ho2
          cases ho2
          exact hfit.holds _ _ haf
        · rw [hid b hk, haft b hk]
          rcases hk with rfl | hk
          · have h7' : heap n many c0 (j0 n many O) 7 = if many = 0 then none else some (.row true (callsOf n many) 42 (some 6)) := heap_fix (by omega)
            rw [h7'] at hbo
            by_cases hm : many = 0
            · rw [if_pos hm] at hbo; cases hbo
            · rw [if_neg hm] at hbo h7
              cases hbo
              refine ⟨?_, _, h7⟩
              have := hfit.holds 7 _ ((haft 7 (.inl rfl)).trans h7)
              refine this.same (hkeep 7 (.inl rfl)) ⟨?_, rfl, rfl⟩
              exact concL_congr (D := fun _ => False) (fun _ h => h.elim) (calls_all n many) |>.symm
          · have hO' : heap n many c0 (j0 n many O) b = O b := by
              have : b = 13 ∨ b = 14 ∨ b = 15 := by omega
              rcases this with h | h | h <;> (subst h; exact heap_fix (by omega))
            rw [hO'] at hbo
            have hHb := (hO b hk.1 hk.2).trans hbo
            refine ⟨?_, _, hHb⟩
            exact (hfit.holds b _ ((haft b (.inr hk)).trans hHb)).same (hkeep b (.inr hk)) (Same.of_all (hOn b _ hbo) fun i h => h.elim)
      refine ⟨rfl, p, q, φ', h10, h8, h9, rfl, rfl, hkeep, fun b o' hbo => (key b o' hbo).2.1, fun b d x y hbx hdy he => ?_, fun b o' hbo => ?_, hfit.old, hfit.size, hfit.env⟩
      · obtain ⟨b1, _, o1, g1⟩ := key b x hbx
        obtain ⟨d1, _, o2, g2⟩ := key d y hdy
        rw [hblk, hblk] at he
        exact rl_inj hf b1 d1 (hfit.inj _ _ _ _ g1 g2 he)
      · obtain ⟨_, _, o, ho⟩ := key b o' hbo
        rw [hblk]; exact hfit.base _ o ho
    · cases hb
  · cases hb
theorem j0_ok {n many : Nat} (hn : n ≤ 6) {O : Nat → Option AObj} (hOn : ∀ b o, O b = some o → o.All fun _ => False) : JOk n many c0 (j0 n many O) 0 := by
  have hfind : ∀ (l : List Nat) (x : Int), findM x (l.map fun (t : Nat) => ((t : Int), AV.soslice (16 + t) 1 0 0 (3 * many) (3 * many))) = if x.toNat ∈ l ∧ 0 ≤ x then some (.soslice (16 + x.toNat) 1 0 0 (3 * many) (3 * many)) else none := by
    intro l x
    induction l with
    | nil => simp [findM]
    | cons t l ih =>
      simp only [List.map_cons, findM, List.mem_cons]
      by_cases e : x = (t : Int)
      · subst e; simp
      · have : decide (x = (t : Int)) = false := by simpa using e
        rw [this]
        simp only [ih]
        by_cases hx : 0 ≤ x
        · have : x.toNat ≠ t := by omega
          simp [this]
        · simp [hx]
  refine ⟨⟨by show (0 : Int) ≤ 0; omega, by show (0 : Int) ≤ 0; omega⟩, ?_, ⟨rfl, fun i hi => absurd hi (Nat.not_lt_zero _), fun i hi => absurd hi (Nat.not_lt_zero _), fun v hv => (by cases hv)⟩, fun u hu hb => (by cases hb), ?_, ?_, ?_, fun _ => rfl, fun h => (by cases h), Nat.zero_le _, fun u o hu h => (by cases h), fun u v hu h => (by cases h), ?_⟩
  · show 0 = sumN n fun u => 0 + 0
    rw [sumN_const]; omega
  · intro hm u hu
    show findM (u : Int) (if many = 0 then [] else _) = some (.soslice (16 + u) 1 0 (if 0 = 3 * many then 0 - 1 else 0) (3 * many - 0) (3 * many))
    have h3 : ¬ (0 = 3 * many) := by omega
    rw [if_neg hm, hfind, if_neg h3]
    simp [hu]
  · intro x hx
    show findM x (if many = 0 then [] else _) = none
    by_cases hm : many = 0
    · rw [if_pos hm]; rfl
    · rw [if_neg hm, hfind]
      rcases hx with h | h
      · exact absurd h hm
      · refine if_neg fun ⟨h1, h2⟩ => h x.toNat (List.mem_range.1 h1) (by omega)
  · intro p hp
    have hp' : p ∈ (if many = 0 then [] else (List.range n).map fun (t : Nat) => ((t : Int), AV.soslice (16 + t) 1 0 0 (3 * many) (3 * many))) := hp
    split at hp'
    · cases hp'
    · obtain ⟨t, ht, rfl⟩ := List.mem_map.1 hp'
      have := List.mem_range.1 ht
      show 16 ≤ 16 + t ∧ 16 + t < 32
      omega
  · intro b o h
    have h' : (if b = 6 then some zeroRep else O b) = some o := h
    split at h'
    · cases h'; simp [zeroRep, AObj.All, AllL, AV.All]
    · exact hOn b o h'
end Ct
end Go.Proofs.YtpkfimijnkkbjaaGreat
