/-
  What the law StatGreatest looks at, no program in sight.
-/
import Derived.Test.YtnknlamcdeaacaaWKnown
namespace Go.Proofs.Ytnknlamcdeaacaa
open Go.RowKit

/-- On no way is x above z. -/
def NotUp (x z : Nat) : Prop :=
  ((FloatKind.f64.format.order x z == some Ordering.gt) = false ∧ (FloatKind.f64.format.order x 0 == some Ordering.eq) = false) ∨
  ((FloatKind.f64.format.order x z == some Ordering.gt) = false ∧ (FloatKind.f64.format.order x 0 == some Ordering.eq) = true ∧ (FloatKind.f64.format.order z 0 == some Ordering.eq) = false) ∨
  (x = 0 ∧ z = 0) ∨ (x = B63 ∧ z = 0) ∨ (x = B63 ∧ z = B63)

theorem notUp_nan (x z : Nat) (hz : nan z = true) : NotUp x z := by
  have h1 : FloatKind.f64.format.order x z = none := order_nan_right x z hz
  have h2 : FloatKind.f64.format.order z 0 = none := order_nan_left z 0 hz
  cases h : (FloatKind.f64.format.order x 0 == some Ordering.eq)
  · exact .inl ⟨by rw [h1]; rfl, h⟩
  · exact .inr (.inl ⟨by rw [h1]; rfl, h, by rw [h2]; rfl⟩)

theorem notUp_le (x z : Nat) (hlx : x < 2 * B63) (hlz : z < 2 * B63) (hx : nan x = false) (hz : nan z = false) (h : key2 x ≤ key2 z) : NotUp x z := by
  have hk : key x ≤ key z := by
    by_cases hc : key x ≤ key z
    · exact hc
    · have := key2_lt_of z x (by omega); omega
  have h1 : (FloatKind.f64.format.order x z == some Ordering.gt) = false := by
    by_cases he : key x = key z
    · rw [fo_same x z hx hz he]; rfl
    · rw [fo_lt x z hx hz (by omega)]; rfl
  by_cases h0 : key x = 0
  · by_cases h0z : key z = 0
    · rcases key_zero x hlx h0 with rfl | rfl <;> rcases key_zero z hlz h0z with rfl | rfl
      · exact .inr (.inr (.inl ⟨rfl, rfl⟩))
      · exact absurd h (by decide)
      · exact .inr (.inr (.inr (.inl ⟨rfl, rfl⟩)))
      · exact .inr (.inr (.inr (.inr ⟨rfl, rfl⟩)))
    · refine .inr (.inl ⟨h1, by rw [fo_same x 0 hx nan_zero (by rw [key_0]; exact h0)]; rfl, ?_⟩)
      rcases fo_ne z 0 hz nan_zero (by rw [key_0]; exact h0z) with e | e <;> rw [e] <;> rfl
  · refine .inl ⟨h1, ?_⟩
    rcases fo_ne x 0 hx nan_zero (by rw [key_0]; exact h0) with e | e <;> rw [e] <;> rfl

/-- whether z is one of the first ones. -/
def inB (l : List Nat) (z : Nat) (j : Nat) : Bool := (l.take j).any (fun x => sameF x z)
/-- whether one of the first ones is none. -/
def noneB (l : List Nat) (j : Nat) : Bool := (l.take j).any nan

theorem any_take_succ (l : List Nat) (p : Nat → Bool) (j : Nat) (h : j < l.length) : (l.take (j + 1)).any p = ((l.take j).any p || p (nthD 0 l j)) := by
  rw [takeD_snoc 0 l j h, List.any_append]; simp

theorem any_all (l : List Nat) (p : Nat → Bool) : (l.take l.length).any p = l.any p := by rw [List.take_length]

theorem inB_mem (l : List Nat) (z : Nat) (h : z ∈ l) : inB l z l.length = true := by
  unfold inB; rw [any_all]; exact List.any_eq_true.2 ⟨z, h, sameF_refl z⟩

theorem noneB_of (l : List Nat) (h : ∃ x ∈ l, nan x = true) : noneB l l.length = true := by
  unfold noneB; rw [any_all]; exact List.any_eq_true.2 h

end Go.Proofs.Ytnknlamcdeaacaa
