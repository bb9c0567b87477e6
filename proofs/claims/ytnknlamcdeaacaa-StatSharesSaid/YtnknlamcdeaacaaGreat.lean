/-
  The greatest one of numbers, no program in sight.
-/
import Derived.Test.YtnknlamcdeaacaaFloat
import Derived.Test.YtnknlamcdeaacaaLists
namespace Go.Proofs.Ytnknlamcdeaacaa

def NINF : Nat := 18442240474082181120

def greatest : List Nat → Nat → Nat
  | [], out => out
  | x :: r, out => if nan x then x else greatest r (if aboveF x out then x else out)

theorem greatest_nan (l : List Nat) : ∀ out, (∃ x ∈ l, nan x = true) → nan (greatest l out) = true := by
  induction l with
  | nil => intro out h; obtain ⟨x, hx, _⟩ := h; cases hx
  | cons x r ih =>
    intro out h
    unfold greatest
    by_cases hn : nan x = true
    · rw [if_pos hn]; exact hn
    · rw [if_neg hn]
      refine ih _ ?_
      obtain ⟨y, hy, hyn⟩ := h
      cases hy with
      | head => exact absurd hyn hn
      | tail _ hm => exact ⟨y, hm, hyn⟩

theorem greatest_max (l : List Nat) : ∀ out, (∀ x ∈ l, nan x = false) → nan out = false →
    nan (greatest l out) = false ∧ (greatest l out = out ∨ greatest l out ∈ l) ∧ key2 out ≤ key2 (greatest l out) ∧ ∀ x ∈ l, key2 x ≤ key2 (greatest l out) := by
  induction l with
  | nil => intro out _ ho; exact ⟨ho, .inl rfl, Int.le_refl _, fun x hx => by cases hx⟩
  | cons x r ih =>
    intro out h ho
    have hx := h x (List.mem_cons_self)
    unfold greatest
    rw [if_neg (by rw [hx]; decide)]
    by_cases ha : aboveF x out = true
    · rw [if_pos ha]
      have hk : key2 out < key2 x := by unfold aboveF at ha; simp at ha; exact ha.2
      obtain ⟨i1, i2, i3, i4⟩ := ih x (fun y hy => h y (List.mem_cons_of_mem _ hy)) hx
      refine ⟨i1, .inr ?_, by omega, ?_⟩
      · rcases i2 with i2 | i2
        · rw [i2]; exact List.mem_cons_self
        · exact List.mem_cons_of_mem _ i2
      · intro y hy
        cases hy with
        | head => exact i3
        | tail _ hm => exact i4 y hm
    · rw [if_neg ha]
      have hk : key2 x ≤ key2 out := by unfold aboveF at ha; simp [hx, ho] at ha; exact ha
      obtain ⟨i1, i2, i3, i4⟩ := ih out (fun y hy => h y (List.mem_cons_of_mem _ hy)) ho
      refine ⟨i1, ?_, i3, ?_⟩
      · rcases i2 with i2 | i2
        · exact .inl i2
        · exact .inr (List.mem_cons_of_mem _ i2)
      · intro y hy
        cases hy with
        | head => omega
        | tail _ hm => exact i4 y hm

theorem ninf_min (x : Nat) (h : nan x = false) : key2 NINF ≤ key2 x := by
  have e : key2 NINF = -(INF : Int) - 1 := by decide
  rw [e]
  simp only [nan, decide_eq_false_iff_not] at h
  unfold key2; split <;> omega

theorem greatest_mem (l : List Nat) (hl : ∀ x ∈ l, x < 2 * B63) (hn : ∀ x ∈ l, nan x = false) (h0 : l ≠ []) : greatest l NINF ∈ l := by
  obtain ⟨i1, i2, i3, i4⟩ := greatest_max l NINF hn (by decide)
  rcases i2 with i2 | i2
  · cases l with
    | nil => exact absurd rfl h0
    | cons y r =>
      have hy := i4 y List.mem_cons_self
      rw [i2] at hy
      have hm := ninf_min y (hn y List.mem_cons_self)
      have : y = NINF := key2_inj y NINF (hl y List.mem_cons_self) (by decide) (by omega)
      rw [i2, ← this]; exact List.mem_cons_self
  · exact i2

/-- In (32.5): the greatest one of two lists together is the greater one of theirs. -/
theorem greatest_append (a b : List Nat) (ha : ∀ x ∈ a, nan x = false) (hb : ∀ x ∈ b, nan x = false) (hla : ∀ x ∈ a, x < 2 * B63) (hlb : ∀ x ∈ b, x < 2 * B63) :
    (greatest (a ++ b) NINF = greatest a NINF ∧ key2 (greatest b NINF) ≤ key2 (greatest a NINF)) ∨ (greatest (a ++ b) NINF = greatest b NINF ∧ key2 (greatest a NINF) ≤ key2 (greatest b NINF)) := by
  obtain ⟨a1, a2, a3, a4⟩ := greatest_max a NINF ha (by decide)
  obtain ⟨b1, b2, b3, b4⟩ := greatest_max b NINF hb (by decide)
  have hab : ∀ x ∈ a ++ b, nan x = false := fun x hx => by
    rcases List.mem_append.1 hx with h | h
    · exact ha x h
    · exact hb x h
  obtain ⟨c1, c2, c3, c4⟩ := greatest_max (a ++ b) NINF hab (by decide)
  have lt1 : ∀ l : List Nat, (∀ x ∈ l, x < 2 * B63) → (greatest l NINF = NINF ∨ greatest l NINF ∈ l) → greatest l NINF < 2 * B63 := by
    intro l hl h
    rcases h with h | h
    · rw [h]; decide
    · exact hl _ h
  have la := lt1 a hla a2
  have lb := lt1 b hlb b2
  have lc := lt1 (a ++ b) (fun x hx => by
    rcases List.mem_append.1 hx with h | h
    · exact hla x h
    · exact hlb x h) c2
  have ka : key2 (greatest a NINF) ≤ key2 (greatest (a ++ b) NINF) := by
    rcases a2 with h | h
    · rw [h]; exact c3
    · exact c4 _ (List.mem_append_left _ h)
  have kb : key2 (greatest b NINF) ≤ key2 (greatest (a ++ b) NINF) := by
    rcases b2 with h | h
    · rw [h]; exact c3
    · exact c4 _ (List.mem_append_right _ h)
  have kc : key2 (greatest (a ++ b) NINF) ≤ key2 (greatest a NINF) ∨ key2 (greatest (a ++ b) NINF) ≤ key2 (greatest b NINF) := by
    rcases c2 with h | h
    · rw [h]; exact .inl a3
    · rcases List.mem_append.1 h with h | h
      · exact .inl (a4 _ h)
      · exact .inr (b4 _ h)
  rcases kc with h | h
  · exact .inl ⟨key2_inj _ _ lc la (by omega), by omega⟩
  · exact .inr ⟨key2_inj _ _ lc lb (by omega), by omega⟩

end Go.Proofs.Ytnknlamcdeaacaa
