/-
  The counting play, plainly: what threads have counted, which entries the log has, and that each thread ends when it is picked often enough.
-/
import Derived.Test.YtpkfimijnkkbjaaGreatJ03
set_option linter.unusedVariables false
namespace Go.Proofs.YtpkfimijnkkbjaaGreat
namespace Ct

def updA {α : Type} (f : Nat → α) (t : Nat) (v : α) (u : Nat) : α := match Nat.beq u t with | true => v | false => f u
theorem updA_eq {α : Type} (f : Nat → α) (t : Nat) (v : α) (u : Nat) : updA f t v u = if u = t then v else f u := by
  unfold updA
  by_cases h : u = t
  · subst h; simp
  · cases hb : Nat.beq u t with
    | true => exact absurd (Nat.eq_of_beq_eq_true hb) h
    | false => rw [if_neg h]

inductive Mode where
  | none
  | tallied (v : Nat)
  | act (pc : Nat) (o : Nat × Nat)

def Mode.one : Mode → Nat
  | .act _ _ => 1
  | _ => 0
def Mode.phase : Mode → Nat
  | .none => 0
  | .tallied _ => 1
  | .act pc _ => pc
def Mode.busy : Mode → Nat
  | .none => 0
  | _ => 1

structure Cf where
  fin : Nat → Nat
  mode : Nat → Mode
  app : Nat → Nat
  log : List (Nat × Nat)

/-- How often a thread has announced. -/
def Cf.ann (c : Cf) (u : Nat) : Nat := c.fin u / 3 + (c.mode u).one
/-- How many entries are a thread's. -/
def cntw (u : Nat) (l : List (Nat × Nat)) : Nat := l.countP fun e => Nat.beq e.1 u

theorem cntw_append (u : Nat) (l m : List (Nat × Nat)) : cntw u (l ++ m) = cntw u l + cntw u m := by simp [cntw]
theorem cntw_one (u : Nat) (e : Nat × Nat) : cntw u [e] = if e.1 = u then 1 else 0 := by
  by_cases h : e.1 = u
  · subst h; simp [cntw]
  · have : Nat.beq e.1 u = false := by
      cases hb : Nat.beq e.1 u with
      | true => exact absurd (Nat.eq_of_beq_eq_true hb) h
      | false => rfl
    simp [cntw, this, h]
theorem take_next {l : List (Nat × Nat)} {i : Nat} {e : Nat × Nat} (h : l[i]? = some e) : l.take (i + 1) = l.take i ++ [e] := by
  rw [List.take_add_one, h]; rfl
theorem cntw_take_next {l : List (Nat × Nat)} {i : Nat} {e : Nat × Nat} (h : l[i]? = some e) (u : Nat) : cntw u (l.take (i + 1)) = cntw u (l.take i) + if e.1 = u then 1 else 0 := by
  rw [take_next h, cntw_append, cntw_one]
theorem cntw_take_le (u : Nat) (l : List (Nat × Nat)) (i : Nat) : cntw u (l.take i) ≤ cntw u l := by
  have := cntw_append u (l.take i) (l.drop i)
  rw [List.take_append_drop] at this
  omega

/-- What holds of a play at any time. -/
structure Ok (n many : Nat) (c : Cf) : Prop where
  log : ∀ i w m, c.log[i]? = some (w, m) → w < n ∧ m = cntw w (c.log.take i) + 1
  fin : ∀ u, u < n → c.fin u ≤ 3 * many
  tal : ∀ u v, u < n → c.mode u = .tallied v → c.fin u % 3 = 0 ∧ c.fin u < 3 * many ∧ v = c.fin u / 3
  act : ∀ u pc o, u < n → c.mode u = .act pc o → c.fin u % 3 = 2 ∧ c.fin u < 3 * many ∧ 1 ≤ pc ∧ pc ≤ 4
  app : ∀ u, u < n → c.app u ≤ c.log.length
  cnt : ∀ u, u < n → cntw u c.log ≤ c.ann u ∧ c.ann u ≤ cntw u c.log + (c.mode u).one
  own : ∀ u, u < n → cntw u (c.log.take (c.app u)) = c.fin u / 3
  off : ∀ u o, u < n → c.mode u = .act 3 o → o.1 < n ∧ cntw o.1 (c.log.take (c.app u)) < o.2 ∧ o.2 ≤ c.ann o.1
  full : ∀ u o, u < n → c.mode u = .act 4 o → c.app u < c.log.length

/-- A pick of a thread that has not finished its calls. -/
inductive Next (n : Nat) (c : Cf) (t : Nat) : Cf → Prop where
  | tally0 : c.mode t = .none → c.fin t % 3 = 0 → Next n c t { c with mode := updA c.mode t (.tallied (c.fin t / 3)) }
  | tally1 (v : Nat) : c.mode t = .tallied v → Next n c t { c with mode := updA c.mode t .none, fin := updA c.fin t (c.fin t + 1) }
  | add : c.mode t = .none → c.fin t % 3 = 1 → Next n c t { c with fin := updA c.fin t (c.fin t + 1) }
  | ann : c.mode t = .none → c.fin t % 3 = 2 → Next n c t { c with mode := updA c.mode t (.act 1 (0, 0)) }
  | look (o : Nat × Nat) : c.mode t = .act 1 o → c.app t = c.log.length → Next n c t { c with mode := updA c.mode t (.act 2 (0, 0)) }
  | take (pc : Nat) (o e : Nat × Nat) : c.mode t = .act pc o → (pc = 1 ∨ pc = 4) → c.log[c.app t]? = some e → e ≠ (t, c.ann t) →
      Next n c t { c with mode := updA c.mode t (.act 1 (0, 0)), app := updA c.app t (c.app t + 1) }
  | took (pc : Nat) (o : Nat × Nat) : c.mode t = .act pc o → (pc = 1 ∨ pc = 4) → c.log[c.app t]? = some (t, c.ann t) →
      Next n c t { c with mode := updA c.mode t .none, app := updA c.app t (c.app t + 1), fin := updA c.fin t (c.fin t + 1) }
  | help (o x : Nat × Nat) : c.mode t = .act 2 o → x.1 < n → cntw x.1 (c.log.take (c.app t)) < x.2 → x.2 = c.ann x.1 → Next n c t { c with mode := updA c.mode t (.act 3 x) }
  | lost (o : Nat × Nat) : c.mode t = .act 3 o → c.app t < c.log.length → Next n c t { c with mode := updA c.mode t (.act 4 (0, 0)) }
  | put (o : Nat × Nat) : c.mode t = .act 3 o → c.app t = c.log.length → o ≠ (t, c.ann t) →
      Next n c t { c with mode := updA c.mode t (.act 1 (0, 0)), app := updA c.app t (c.app t + 1), log := c.log ++ [o] }
  | putOwn : c.mode t = .act 3 (t, c.ann t) → c.app t = c.log.length →
      Next n c t { c with mode := updA c.mode t .none, app := updA c.app t (c.app t + 1), fin := updA c.fin t (c.fin t + 1), log := c.log ++ [(t, c.ann t)] }

variable {n many : Nat} {c c' : Cf} {t : Nat}

/-- The word that a thread offers in an empty entry is the next one of its maker. -/
theorem Ok.offered (h : Ok n many c) (ht : t < n) {o : Nat × Nat} (hm : c.mode t = .act 3 o) (ha : c.app t = c.log.length) : o.1 < n ∧ o.2 = cntw o.1 c.log + 1 ∧ o.2 ≤ c.ann o.1 := by
  obtain ⟨h1, h2, h3⟩ := h.off t o ht hm
  rw [ha, List.take_length] at h2
  have := h.cnt o.1 h1
  have h4 : (c.mode o.1).one ≤ 1 := by cases c.mode o.1 <;> simp [Mode.one]
  exact ⟨h1, by omega, h3⟩

theorem Ok.logged (h : Ok n many c) {o : Nat × Nat} (h1 : o.1 < n) (h2 : o.2 = cntw o.1 c.log + 1) (i w m : Nat) (hi : (c.log ++ [o])[i]? = some (w, m)) : w < n ∧ m = cntw w ((c.log ++ [o]).take i) + 1 := by
  by_cases hlt : i < c.log.length
  · rw [List.getElem?_append_left hlt] at hi
    rw [List.take_append_of_le_length (by omega)]
    exact h.log i w m hi
  · have hi' : i = c.log.length := by
      have := (List.getElem?_eq_some_iff.1 hi).1
      simp at this; omega
    subst hi'
    rw [List.getElem?_append_right (Nat.le_refl _), Nat.sub_self] at hi
    simp at hi
    subst hi
    simp at h1 h2 ⊢
    exact ⟨h1, h2⟩

theorem Next.ok (h : Ok n many c) (ht : t < n) (hf : c.fin t < 3 * many) (hn : Next n c t c') : Ok n many c' := by
  have hone : ∀ u, (c.mode u).one ≤ 1 := fun u => by cases c.mode u <;> simp [Mode.one]
  cases hn with
  | tally0 hm h0 =>
    refine ⟨h.log, h.fin, fun u v hu hv => ?_, fun u pc o hu hv => ?_, h.app, fun u hu => ?_, h.own, fun u o hu hv => ?_, fun u o hu hv => ?_⟩
    all_goals simp only [updA_eq, Cf.ann] at *
    · split at hv
      · rename_i he; subst he; cases hv; exact ⟨h0, hf, rfl⟩
      · exact h.tal u v hu hv
    · split at hv
      · cases hv
      · exact h.act u pc o hu hv
    · have := h.cnt u hu
      simp only [Cf.ann] at this
      split
      · rename_i he; subst he; simpa [hm, Mode.one] using this
      · exact this
    · split at hv
      · cases hv
      · obtain ⟨k1, k2, k3⟩ := h.off u o hu hv
        refine ⟨k1, k2, ?_⟩
        simp only [Cf.ann] at k3
        split
        · rename_i he; rw [he, hm] at k3; rw [he]; simpa [Mode.one] using k3
        · exact k3
    · split at hv
      · cases hv
      · exact h.full u o hu hv
  | tally1 v hm =>
    obtain ⟨t1, t2, t3⟩ := h.tal t v ht hm
    have hd : (c.fin t + 1) / 3 = c.fin t / 3 := by omega
    refine ⟨h.log, fun u hu => ?_, fun u v hu hv => ?_, fun u pc o hu hv => ?_, h.app, fun u hu => ?_, fun u hu => ?_, fun u o hu hv => ?_, fun u o hu hv => ?_⟩
    all_goals simp only [updA_eq, Cf.ann] at *
    · split
      · omega
      · exact h.fin u hu
    · split at hv
      · cases hv
      · rename_i he; rw [if_neg he]; exact h.tal u v hu hv
    · split at hv
      · cases hv
      · rename_i he; rw [if_neg he]; exact h.act u pc o hu hv
    · have := h.cnt u hu
      simp only [Cf.ann] at this
      by_cases he : u = t
      · subst he; simp only [if_true] at *; rw [hd]; simpa [hm, Mode.one] using this
      · simp only [if_neg he]; exact this
    · have := h.own u hu
      split
      · rename_i he; subst he; rw [hd]; exact this
      · exact this
    · split at hv
      · cases hv
      · obtain ⟨k1, k2, k3⟩ := h.off u o hu hv
        refine ⟨k1, k2, ?_⟩
        simp only [Cf.ann] at k3
        by_cases he : o.1 = t
        · rw [he, hm] at k3; simp only [he, if_true]; rw [hd]; simpa [Mode.one] using k3
        · simp only [if_neg he]; exact k3
    · split at hv
      · cases hv
      · exact h.full u o hu hv
  | add hm h0 =>
    have hd : (c.fin t + 1) / 3 = c.fin t / 3 := by omega
    refine ⟨h.log, fun u hu => ?_, fun u v hu hv => ?_, fun u pc o hu hv => ?_, h.app, fun u hu => ?_, fun u hu => ?_, fun u o hu hv => ?_, fun u o hu hv => ?_⟩
    all_goals simp only [updA_eq, Cf.ann] at *
    · split
      · omega
      · exact h.fin u hu
    · by_cases he : u = t
      · subst he; rw [hm] at hv; cases hv
      · rw [if_neg he]; exact h.tal u v hu hv
    · by_cases he : u = t
      · subst he; rw [hm] at hv; cases hv
      · rw [if_neg he]; exact h.act u pc o hu hv
    · have := h.cnt u hu
      simp only [Cf.ann] at this
      by_cases he : u = t
      · subst he; simp only [if_true] at *; rw [hd]; exact this
      · simp only [if_neg he]; exact this
    · have := h.own u hu
      split
      · rename_i he; subst he; rw [hd]; exact this
      · exact this
    · obtain ⟨k1, k2, k3⟩ := h.off u o hu hv
      refine ⟨k1, k2, ?_⟩
      simp only [Cf.ann] at k3
      by_cases he : o.1 = t
      · rw [he] at k3; simp only [he, if_true]; rw [hd]; exact k3
      · simp only [if_neg he]; exact k3
    · exact h.full u o hu hv
  | ann hm h0 =>
    refine ⟨h.log, h.fin, fun u v hu hv => ?_, fun u pc o hu hv => ?_, h.app, fun u hu => ?_, h.own, fun u o hu hv => ?_, fun u o hu hv => ?_⟩
    all_goals simp only [updA_eq, Cf.ann] at *
    · split at hv
      · cases hv
      · exact h.tal u v hu hv
    · split at hv
      · rename_i he; subst he; cases hv; exact ⟨h0, hf, by omega, by omega⟩
      · exact h.act u pc o hu hv
    · have := h.cnt u hu
      simp only [Cf.ann] at this
      split
      · rename_i he; subst he; simp only [hm, Mode.one] at this ⊢; omega
      · exact this
    · split at hv
      · cases hv
      · obtain ⟨k1, k2, k3⟩ := h.off u o hu hv
        refine ⟨k1, k2, ?_⟩
        simp only [Cf.ann] at k3
        split
        · rename_i he; rw [he, hm] at k3; rw [he]; simp only [Mode.one] at k3 ⊢; omega
        · exact k3
    · split at hv
      · cases hv
      · exact h.full u o hu hv
  | look o hm ha =>
    refine ⟨h.log, h.fin, fun u v hu hv => ?_, fun u pc o hu hv => ?_, h.app, fun u hu => ?_, h.own, fun u o hu hv => ?_, fun u o hu hv => ?_⟩
    all_goals simp only [updA_eq, Cf.ann] at *
    · split at hv
      · cases hv
      · exact h.tal u v hu hv
    · split at hv
      · rename_i he; subst he; cases hv; have := h.act u _ _ hu hm; exact ⟨this.1, this.2.1, by omega, by omega⟩
      · exact h.act u pc o hu hv
    · have := h.cnt u hu
      simp only [Cf.ann] at this
      split
      · rename_i he; subst he; simpa [hm, Mode.one] using this
      · exact this
    · split at hv
      · cases hv
      · obtain ⟨k1, k2, k3⟩ := h.off u o hu hv
        refine ⟨k1, k2, ?_⟩
        simp only [Cf.ann] at k3
        split
        · rename_i he; rw [he, hm] at k3; rw [he]; simpa [Mode.one] using k3
        · exact k3
    · split at hv
      · cases hv
      · exact h.full u o hu hv
  | take pc o e hm hpc he hne =>
    have hlt := (List.getElem?_eq_some_iff.1 he).1
    obtain ⟨a1, a2, _⟩ := h.act t pc o ht hm
    obtain ⟨l1, l2⟩ := h.log _ e.1 e.2 he
    have hown := h.own t ht
    have hann : c.ann t = c.fin t / 3 + 1 := by simp [Cf.ann, hm, Mode.one]
    have hnt : e.1 ≠ t := fun h' => hne (by
      refine Prod.ext h' ?_
      show e.2 = c.ann t
      rw [l2, h', hown, hann])
    refine ⟨h.log, h.fin, fun u v hu hv => ?_, fun u pc o hu hv => ?_, fun u hu => ?_, fun u hu => ?_, fun u hu => ?_, fun u o hu hv => ?_, fun u o hu hv => ?_⟩
    all_goals simp only [updA_eq] at *
    · split at hv
      · cases hv
      · exact h.tal u v hu hv
    · split at hv
      · rename_i he; subst he; cases hv; exact ⟨a1, a2, by omega, by omega⟩
      · exact h.act u pc o hu hv
    · split
      · omega
      · exact h.app u hu
    · have := h.cnt u hu
      simp only [Cf.ann, updA_eq] at this ⊢
      split
      · rename_i he; subst he; simpa [hm, Mode.one] using this
      · exact this
    · split
      · rename_i hu'; subst hu'; rw [cntw_take_next he, if_neg hnt]; exact hown
      · exact h.own u hu
    · by_cases hu' : u = t
      · rw [if_pos hu'] at hv; cases hv
      · rw [if_neg hu'] at hv
        obtain ⟨k1, k2, k3⟩ := h.off u o hu hv
        rw [if_neg hu']
        refine ⟨k1, k2, ?_⟩
        simp only [Cf.ann, updA_eq] at k3 ⊢
        split
        · rename_i he; rw [he, hm] at k3; rw [he]; simpa [Mode.one] using k3
        · exact k3
    · by_cases hu' : u = t
      · rw [if_pos hu'] at hv; cases hv
      · rw [if_neg hu'] at hv ⊢; exact h.full u o hu hv
  | took pc o hm hpc he =>
    have hlt := (List.getElem?_eq_some_iff.1 he).1
    obtain ⟨a1, a2, _⟩ := h.act t pc o ht hm
    have hown := h.own t ht
    have hann : c.ann t = c.fin t / 3 + 1 := by simp [Cf.ann, hm, Mode.one]
    have hd : (c.fin t + 1) / 3 = c.fin t / 3 + 1 := by omega
    have hct : c.fin t / 3 + 1 ≤ cntw t c.log := by
      have := cntw_take_next he t
      have h2 := cntw_take_le t c.log (c.app t + 1)
      simp only [if_true] at this
      omega
    refine ⟨h.log, fun u hu => ?_, fun u v hu hv => ?_, fun u pc o hu hv => ?_, fun u hu => ?_, fun u hu => ?_, fun u hu => ?_, fun u o hu hv => ?_, fun u o hu hv => ?_⟩
    all_goals simp only [updA_eq] at *
    · split
      · omega
      · exact h.fin u hu
    · split at hv
      · cases hv
      · rename_i he; rw [if_neg he]; exact h.tal u v hu hv
    · split at hv
      · cases hv
      · rename_i he; rw [if_neg he]; exact h.act u pc o hu hv
    · split
      · omega
      · exact h.app u hu
    · have := h.cnt u hu
      simp only [Cf.ann, updA_eq] at this ⊢
      by_cases hu' : u = t
      · subst hu'; simp only [if_true, hm, Mode.one] at *; omega
      · simp only [if_neg hu']; exact this
    · by_cases hu' : u = t
      · subst hu'; simp only [if_true]; rw [cntw_take_next he, hd]; simp only [if_true]; omega
      · simp only [if_neg hu']; exact h.own u hu
    · by_cases hu' : u = t
      · rw [if_pos hu'] at hv; cases hv
      · rw [if_neg hu'] at hv
        obtain ⟨k1, k2, k3⟩ := h.off u o hu hv
        rw [if_neg hu']
        refine ⟨k1, k2, ?_⟩
        simp only [Cf.ann, updA_eq] at k3 ⊢
        by_cases ho : o.1 = t
        · rw [ho, hm] at k3; simp only [ho, if_true, Mode.one] at k3 ⊢; omega
        · simp only [if_neg ho]; exact k3
    · by_cases hu' : u = t
      · rw [if_pos hu'] at hv; cases hv
      · rw [if_neg hu'] at hv ⊢; exact h.full u o hu hv
  | help o x hm hx1 hx2 hx3 =>
    refine ⟨h.log, h.fin, fun u v hu hv => ?_, fun u pc o hu hv => ?_, h.app, fun u hu => ?_, h.own, fun u o hu hv => ?_, fun u o hu hv => ?_⟩
    all_goals simp only [updA_eq, Cf.ann] at *
    · split at hv
      · cases hv
      · exact h.tal u v hu hv
    · split at hv
      · rename_i he; subst he; cases hv; have := h.act u _ _ hu hm; exact ⟨this.1, this.2.1, by omega, by omega⟩
      · exact h.act u pc o hu hv
    · have := h.cnt u hu
      simp only [Cf.ann] at this
      split
      · rename_i he; subst he; simpa [hm, Mode.one] using this
      · exact this
    · have key : ∀ v, c.fin v / 3 + (if v = t then Mode.act 3 x else c.mode v).one = c.fin v / 3 + (c.mode v).one := fun v => by
        split
        · rename_i he; rw [he, hm]; rfl
        · rfl
      split at hv
      · rename_i hu'; subst hu'; cases hv; exact ⟨hx1, hx2, by rw [key]; omega⟩
      · obtain ⟨k1, k2, k3⟩ := h.off u o hu hv
        exact ⟨k1, k2, by rw [key]; exact k3⟩
    · split at hv
      · cases hv
      · exact h.full u o hu hv
  | lost o hm ha =>
    refine ⟨h.log, h.fin, fun u v hu hv => ?_, fun u pc o hu hv => ?_, h.app, fun u hu => ?_, h.own, fun u o hu hv => ?_, fun u o hu hv => ?_⟩
    all_goals simp only [updA_eq, Cf.ann] at *
    · split at hv
      · cases hv
      · exact h.tal u v hu hv
    · split at hv
      · rename_i he; subst he; cases hv; have := h.act u _ _ hu hm; exact ⟨this.1, this.2.1, by omega, by omega⟩
      · exact h.act u pc o hu hv
    · have := h.cnt u hu
      simp only [Cf.ann] at this
      split
      · rename_i he; subst he; simpa [hm, Mode.one] using this
      · exact this
    · split at hv
      · cases hv
      · obtain ⟨k1, k2, k3⟩ := h.off u o hu hv
        refine ⟨k1, k2, ?_⟩
        simp only [Cf.ann] at k3
        split
        · rename_i he; rw [he, hm] at k3; rw [he]; simpa [Mode.one] using k3
        · exact k3
    · split at hv
      · rename_i he; subst he; exact ha
      · exact h.full u o hu hv
  | put o hm ha hne =>
    obtain ⟨a1, a2, _⟩ := h.act t _ _ ht hm
    obtain ⟨o1, o2, o3⟩ := h.offered ht hm ha
    have hown := h.own t ht
    have hann : c.ann t = c.fin t / 3 + 1 := by simp [Cf.ann, hm, Mode.one]
    have hot : o.1 ≠ t := fun h' => hne (by
      refine Prod.ext h' ?_
      show o.2 = c.ann t
      rw [ha, List.take_length] at hown
      rw [o2, h', hown, hann])
    have key : ∀ v, c.fin v / 3 + (if v = t then Mode.act 1 (0, 0) else c.mode v).one = c.fin v / 3 + (c.mode v).one := fun v => by
      split
      · rename_i he; rw [he, hm]; rfl
      · rfl
    refine ⟨h.logged o1 o2, h.fin, fun u v hu hv => ?_, fun u pc o hu hv => ?_, fun u hu => ?_, fun u hu => ?_, fun u hu => ?_, fun u o' hu hv => ?_, fun u o' hu hv => ?_⟩
    all_goals simp only [updA_eq] at *
    · split at hv
      · cases hv
      · exact h.tal u v hu hv
    · split at hv
      · rename_i he; subst he; cases hv; exact ⟨a1, a2, by omega, by omega⟩
      · exact h.act u pc o hu hv
    · rw [List.length_append, List.length_singleton]
      split
      · omega
      · have := h.app u hu; omega
    · have hc := h.cnt u hu
      have hc1 := hone u
      simp only [Cf.ann, updA_eq, cntw_append, cntw_one] at hc o3 ⊢
      rw [key]
      have hk : (if u = t then Mode.act 1 (0, 0) else c.mode u).one = (c.mode u).one := by
        have := key u; omega
      rw [hk]
      by_cases hu' : o.1 = u
      · rw [if_pos hu']; rw [hu'] at o2 o3; omega
      · rw [if_neg hu']; omega
    · split
      · rename_i hu'; subst hu'; rw [ha, show c.log.length + 1 = (c.log ++ [o]).length by simp, List.take_length, cntw_append, cntw_one, if_neg hot]
        rw [ha, List.take_length] at hown; omega
      · rw [List.take_append_of_le_length (h.app u hu)]; exact h.own u hu
    · by_cases hu' : u = t
      · rw [if_pos hu'] at hv; cases hv
      · rw [if_neg hu'] at hv
        obtain ⟨k1, k2, k3⟩ := h.off u o' hu hv
        rw [if_neg hu', List.take_append_of_le_length (h.app u hu)]
        refine ⟨k1, k2, ?_⟩
        simp only [Cf.ann, updA_eq] at k3 ⊢
        rw [key]; exact k3
    · rw [List.length_append, List.length_singleton]
      by_cases hu' : u = t
      · rw [if_pos hu'] at hv; cases hv
      · rw [if_neg hu'] at hv ⊢; have := h.full u o' hu hv; omega
  | putOwn hm ha =>
    obtain ⟨a1, a2, _⟩ := h.act t _ _ ht hm
    obtain ⟨o1, o2, o3⟩ := h.offered ht hm ha
    have hown := h.own t ht
    have hone' : (c.mode t).one = 1 := by generalize c.ann t = x at hm; rw [hm]; rfl
    have hann : c.ann t = c.fin t / 3 + 1 := by unfold Cf.ann; rw [hone']
    have hd : (c.fin t + 1) / 3 = c.fin t / 3 + 1 := by omega
    refine ⟨h.logged o1 o2, fun u hu => ?_, fun u v hu hv => ?_, fun u pc o hu hv => ?_, fun u hu => ?_, fun u hu => ?_, fun u hu => ?_, fun u o' hu hv => ?_, fun u o' hu hv => ?_⟩
    all_goals simp only [updA_eq] at *
    · split
      · omega
      · exact h.fin u hu
    · split at hv
      · cases hv
      · rename_i he; rw [if_neg he]; exact h.tal u v hu hv
    · split at hv
      · cases hv
      · rename_i he; rw [if_neg he]; exact h.act u pc o hu hv
    · rw [List.length_append, List.length_singleton]
      split
      · omega
      · have := h.app u hu; omega
    · have hc := h.cnt u hu
      simp only [Cf.ann, updA_eq, cntw_append, cntw_one] at hc o2 hann ⊢
      by_cases hu' : u = t
      · subst hu'
        simp only [if_true, Mode.one, hd] at hc o2 hann ⊢
        omega
      · have hu2 : ¬ t = u := fun h => hu' h.symm
        simp only [if_neg hu', if_neg hu2]
        omega
    · by_cases hu' : u = t
      · subst hu'
        rw [ha, List.take_length] at hown
        simp only [if_true]
        rw [ha, show c.log.length + 1 = (c.log ++ [(u, c.ann u)]).length by simp, List.take_length, cntw_append, cntw_one, hd, if_pos rfl]; omega
      · simp only [if_neg hu']
        rw [List.take_append_of_le_length (h.app u hu)]; exact h.own u hu
    · by_cases hu' : u = t
      · rw [if_pos hu'] at hv; cases hv
      · rw [if_neg hu'] at hv
        obtain ⟨k1, k2, k3⟩ := h.off u o' hu hv
        rw [if_neg hu', List.take_append_of_le_length (h.app u hu)]
        refine ⟨k1, k2, ?_⟩
        simp only [Cf.ann, updA_eq] at k3 ⊢
        by_cases ho : o'.1 = t
        · rw [ho, hone'] at k3; simp only [ho, if_true, Mode.one] at k3 ⊢; omega
        · simp only [if_neg ho]; exact k3
    · rw [List.length_append, List.length_singleton]
      by_cases hu' : u = t
      · rw [if_pos hu'] at hv; cases hv
      · rw [if_neg hu'] at hv ⊢; have := h.full u o' hu hv; omega

/-- How far a thread has come. -/
def far (c : Cf) (u : Nat) : Nat := 4 * c.app u + 4 * c.fin u + (c.mode u).phase
theorem Next.far (h : Ok n many c) (ht : t < n) (hn : Next n c t c') : far c t + 1 ≤ far c' t ∧ ∀ u, u ≠ t → far c' u = far c u ∧ c'.fin u = c.fin u ∧ c'.mode u = c.mode u := by
  cases hn with
  | tally0 hm h0 => exact ⟨by simp only [Ct.far, updA_eq, hm, Mode.phase, if_true]; omega, fun u hu => by simp only [Ct.far, updA_eq, if_neg hu, and_self]⟩
  | tally1 v hm => exact ⟨by simp only [Ct.far, updA_eq, hm, Mode.phase, if_true]; omega, fun u hu => by simp only [Ct.far, updA_eq, if_neg hu, and_self]⟩
  | add hm h0 => exact ⟨by simp only [Ct.far, updA_eq, hm, Mode.phase, if_true]; omega, fun u hu => by simp only [Ct.far, updA_eq, if_neg hu, and_self]⟩
  | ann hm h0 => exact ⟨by simp only [Ct.far, updA_eq, hm, Mode.phase, if_true]; omega, fun u hu => by simp only [Ct.far, updA_eq, if_neg hu, and_self]⟩
  | look o hm ha => exact ⟨by simp only [Ct.far, updA_eq, hm, Mode.phase, if_true]; omega, fun u hu => by simp only [Ct.far, updA_eq, if_neg hu, and_self]⟩
  | take pc o e hm hpc he hne => exact ⟨by simp only [Ct.far, updA_eq, hm, Mode.phase, if_true]; omega, fun u hu => by simp only [Ct.far, updA_eq, if_neg hu, and_self]⟩
  | took pc o hm hpc he => exact ⟨by have := h.act t pc o ht hm; simp only [Ct.far, updA_eq, hm, Mode.phase, if_true]; omega, fun u hu => by simp only [Ct.far, updA_eq, if_neg hu, and_self]⟩
  | help o x hm hx1 hx2 hx3 => exact ⟨by simp only [Ct.far, updA_eq, hm, Mode.phase, if_true]; omega, fun u hu => by simp only [Ct.far, updA_eq, if_neg hu, and_self]⟩
  | lost o hm ha => exact ⟨by simp only [Ct.far, updA_eq, hm, Mode.phase, if_true]; omega, fun u hu => by simp only [Ct.far, updA_eq, if_neg hu, and_self]⟩
  | put o hm ha hne => exact ⟨by simp only [Ct.far, updA_eq, hm, Mode.phase, if_true]; omega, fun u hu => by simp only [Ct.far, updA_eq, if_neg hu, and_self]⟩
  | putOwn hm ha => exact ⟨by simp only [Ct.far, updA_eq, hm, Mode.phase, if_true]; omega, fun u hu => by simp only [Ct.far, updA_eq, if_neg hu, and_self]⟩

/-- Sums over threads. -/
def sumN : Nat → (Nat → Nat) → Nat
  | 0, _ => 0
  | k + 1, f => sumN k f + f k
theorem sumN_le {f g : Nat → Nat} : ∀ k, (∀ u, u < k → f u ≤ g u) → sumN k f ≤ sumN k g
  | 0, _ => Nat.le_refl _
  | k + 1, h => Nat.add_le_add (sumN_le k fun u hu => h u (by omega)) (h k (by omega))
theorem sumN_congr {f g : Nat → Nat} : ∀ k, (∀ u, u < k → f u = g u) → sumN k f = sumN k g
  | 0, _ => rfl
  | k + 1, h => by unfold sumN; rw [sumN_congr k fun u hu => h u (by omega), h k (by omega)]
theorem sumN_const (x : Nat) : ∀ k, sumN k (fun _ => x) = k * x
  | 0 => by simp [sumN]
  | k + 1 => by unfold sumN; rw [sumN_const x k, Nat.succ_mul]
theorem sumN_upd (f : Nat → Nat) (t x : Nat) : ∀ k, t < k → sumN k (updA f t x) + f t = sumN k f + x
  | 0, h => by omega
  | k + 1, h => by
    unfold sumN
    by_cases hk : t = k
    · subst hk
      rw [sumN_congr (f := updA f t x) (g := f) t fun u hu => by rw [updA_eq, if_neg (by omega)], updA_eq, if_pos rfl]; omega
    · have := sumN_upd f t x k (by omega)
      rw [updA_eq f t x k, if_neg (by omega)]; omega
theorem sumN_zero : ∀ k, sumN k (fun _ => 0) = 0 := fun k => by rw [sumN_const]; omega
theorem sumN_add {f g : Nat → Nat} : ∀ k, sumN k (fun u => f u + g u) = sumN k f + sumN k g
  | 0 => rfl
  | k + 1 => by unfold sumN; rw [sumN_add k]; simp only []; omega
theorem sumN_ite (w : Nat) : ∀ k, w < k → sumN k (fun u => if w = u then 1 else 0) = 1
  | 0, h => by omega
  | k + 1, h => by
    unfold sumN
    by_cases hk : w = k
    · rw [sumN_congr (g := fun _ => 0) k (fun u hu => if_neg (by omega)), sumN_zero]; simp [hk]
    · rw [sumN_ite w k (by omega)]; simp [hk]
theorem length_eq : ∀ (l : List (Nat × Nat)), (∀ e ∈ l, e.1 < n) → sumN n (fun u => cntw u l) = l.length
  | [], _ => by simp [cntw, sumN_zero]
  | e :: l, h => by
    have h1 : ∀ u, cntw u (e :: l) = (if e.1 = u then 1 else 0) + cntw u l := fun u => by rw [show e :: l = [e] ++ l from rfl, cntw_append, cntw_one]
    simp only [h1]
    rw [sumN_add, sumN_ite e.1 n (h e (by simp)), length_eq l fun x hx => h x (by simp [hx])]
    simp; omega
theorem Ok.first (h : Ok n many c) : ∀ e ∈ c.log, e.1 < n := fun e he => by
  obtain ⟨i, hi, hg⟩ := List.mem_iff_getElem.1 he
  exact (h.log i e.1 e.2 (by rw [List.getElem?_eq_getElem hi, hg])).1
theorem Ok.ann_le (h : Ok n many c) {u : Nat} (hu : u < n) : c.ann u ≤ many := by
  have h1 := h.fin u hu
  unfold Cf.ann
  cases hm : c.mode u with
  | none => simp only [Mode.one]; omega
  | tallied v => simp only [Mode.one]; omega
  | act pc o => have := h.act u pc o hu hm; simp only [Mode.one]; omega
/-- The log has an entry for each announcement at most. -/
theorem Ok.room (h : Ok n many c) : c.log.length ≤ n * many := by
  rw [← length_eq c.log h.first]
  refine Nat.le_trans (sumN_le n fun u hu => (Nat.le_trans (h.cnt u hu).1 (h.ann_le hu))) ?_
  rw [sumN_const]; exact Nat.le_refl _
/-- All threads have ended: what there is then. -/
theorem Ok.ended (h : Ok n many c) (he : ∀ u, u < n → c.fin u = 3 * many) : c.log.length = n * many ∧ ∀ u, u < n → c.mode u = .none := by
  have hm : ∀ u, u < n → c.mode u = .none := fun u hu => by
    have := he u hu
    cases hm : c.mode u with
    | none => rfl
    | tallied v => have := h.tal u v hu hm; omega
    | act pc o => have := h.act u pc o hu hm; omega
  refine ⟨?_, hm⟩
  rw [← length_eq c.log h.first, ← sumN_const]
  refine sumN_congr n fun u hu => ?_
  have := h.cnt u hu
  simp only [Cf.ann, hm u hu, Mode.one, he u hu] at this
  omega
theorem far_le (h : Ok n many c) (ht : t < n) (hf : c.fin t < 3 * many) : far c t ≤ 4 * (n * many) + 12 * many + 4 := by
  have h1 := h.app t ht
  have h2 := h.room
  unfold far
  cases hm : c.mode t with
  | none => simp only [Mode.phase]; omega
  | tallied v => simp only [Mode.phase]; omega
  | act pc o => have := h.act t pc o ht hm; simp only [Mode.phase]; omega

/-- The beginning. -/
def c0 : Cf := ⟨fun _ => 0, fun _ => .none, fun _ => 0, []⟩
theorem ok0 : Ok n many c0 := by
  refine ⟨fun i w m h => ?_, fun u _ => Nat.zero_le _, fun u v _ h => ?_, fun u pc o _ h => ?_, fun u _ => Nat.le_refl _, fun u _ => ?_, fun u _ => ?_, fun u o _ h => ?_, fun u o _ h => ?_⟩
  · simp [c0] at h
  · cases h
  · cases h
  · simp [c0, Cf.ann, cntw, Mode.one]
  · simp [c0, cntw]
  · cases h
  · cases h

/-- What holds of a play in which so many picks of each thread were made. -/
structure Run (n many : Nat) (c : Cf) (k : Nat → Nat) : Prop extends Ok n many c where
  come : ∀ u, u < n → c.fin u = 3 * many ∨ k u ≤ far c u
theorem run0 : Run n many c0 (fun _ => 0) := ⟨ok0, fun _ _ => .inr (Nat.zero_le _)⟩
theorem Run.next {k : Nat → Nat} (h : Run n many c k) (ht : t < n) (hf : c.fin t < 3 * many) (hn : Next n c t c') : Run n many c' (updA k t (k t + 1)) := by
  refine ⟨hn.ok h.toOk ht hf, fun u hu => ?_⟩
  obtain ⟨h1, h2⟩ := hn.far h.toOk ht
  have := h.come u hu
  by_cases hut : u = t
  · subst hut
    rw [updA_eq, if_pos rfl]
    rcases this with h | h
    · omega
    · exact .inr (by omega)
  · obtain ⟨e1, e2, e3⟩ := h2 u hut
    rw [updA_eq, if_neg hut, e1, e2]; exact this
theorem Run.idle {k : Nat → Nat} (h : Run n many c k) (hf : c.fin t = 3 * many) : Run n many c (updA k t (k t + 1)) := by
  refine ⟨h.toOk, fun u hu => ?_⟩
  by_cases hut : u = t
  · subst hut; exact .inl hf
  · rw [updA_eq, if_neg hut]; exact h.come u hu
theorem Run.ended {k : Nat → Nat} (h : Run n many c k) (hn : n ≤ 6) (hk : ∀ u, u < n → 300 * many ≤ k u) : ∀ u, u < n → c.fin u = 3 * many := by
  intro u hu
  rcases h.come u hu with h1 | h1
  · exact h1
  · have := h.fin u hu
    by_cases hf : c.fin u < 3 * many
    · have h2 := far_le h.toOk hu hf
      have h3 := hk u hu
      have h4 : n * many ≤ 6 * many := Nat.mul_le_mul_right _ hn
      omega
    · omega
end Ct
end Go.Proofs.YtpkfimijnkkbjaaGreat
