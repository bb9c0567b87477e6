/-
  Keys as lists of integers: how two stand to one another; no program in sight.
-/
import Derived.Test.YthkfplkajlanoaaSrt
namespace Go.Proofs.Ythkfplkajlanoaa

def cmp3 (x y : Int) : Int := if x < y then -1 else if y < x then 1 else 0

/-- How two keys stand to one another: -1, 0 or 1. -/
def cmpK : List Int → List Int → Int
  | [], [] => 0
  | [], _ :: _ => -1
  | _ :: _, [] => 1
  | x :: a, y :: b => if cmp3 x y = 0 then cmpK a b else cmp3 x y

theorem cmp3_anti (x y : Int) : cmp3 y x = - cmp3 x y := by unfold cmp3; split <;> split <;> omega
theorem cmp3_zero {x y : Int} : cmp3 x y = 0 ↔ x = y := by unfold cmp3; split <;> (try split) <;> omega
theorem cmp3_neg {x y : Int} : cmp3 x y < 0 ↔ x < y := by unfold cmp3; split <;> (try split) <;> omega
theorem cmp3_range (x y : Int) : cmp3 x y = -1 ∨ cmp3 x y = 0 ∨ cmp3 x y = 1 := by unfold cmp3; split <;> (try split) <;> omega

theorem cmpK_range : ∀ a b : List Int, cmpK a b = -1 ∨ cmpK a b = 0 ∨ cmpK a b = 1
  | [], [] => .inr (.inl rfl)
  | [], _ :: _ => .inl rfl
  | _ :: _, [] => .inr (.inr rfl)
  | x :: a, y :: b => by
    unfold cmpK
    split
    · exact cmpK_range a b
    · exact cmp3_range x y
theorem cmpK_anti : ∀ a b : List Int, cmpK b a = - cmpK a b
  | [], [] => rfl
  | [], _ :: _ => rfl
  | _ :: _, [] => rfl
  | x :: a, y :: b => by
    unfold cmpK
    have h := cmp3_anti x y
    have ih := cmpK_anti a b
    split <;> split <;> omega
theorem cmpK_self (a : List Int) : cmpK a a = 0 := by have := cmpK_anti a a; omega
theorem cmpK_zero : ∀ {a b : List Int}, cmpK a b = 0 → a = b
  | [], [], _ => rfl
  | [], _ :: _, h => by simp [cmpK] at h
  | _ :: _, [], h => by simp [cmpK] at h
  | x :: a, y :: b, h => by
    unfold cmpK at h
    split at h
    · rename_i h3
      rw [cmp3_zero.1 h3, cmpK_zero h]
    · exact absurd h (by assumption)
theorem cmpK_le : ∀ a b c : List Int, cmpK a b ≤ 0 → cmpK b c ≤ 0 → cmpK a c ≤ 0
  | [], [], [], _, _ => by decide
  | [], _, _ :: _, _, _ => by simp [cmpK]
  | [], _ :: _, [], _, h => by simp [cmpK] at h
  | _ :: _, [], _, h, _ => by simp [cmpK] at h
  | _ :: _, _ :: _, [], _, h => by simp [cmpK] at h
  | x :: a, y :: b, z :: c, h, k => by
    unfold cmpK at *
    have ih := cmpK_le a b c
    have e1 : cmp3 x y = 0 ↔ x = y := cmp3_zero
    have e2 : cmp3 y z = 0 ↔ y = z := cmp3_zero
    have e3 : cmp3 x z = 0 ↔ x = z := cmp3_zero
    have n1 : cmp3 x y < 0 ↔ x < y := cmp3_neg
    have n2 : cmp3 y z < 0 ↔ y < z := cmp3_neg
    have n3 : cmp3 x z < 0 ↔ x < z := cmp3_neg
    split at h <;> split at k <;> split <;> omega

/-- The first ones are alike: the rest tells. -/
theorem cmpK_drop (a b : List Int) (i : Nat) (h1 : i < a.length) (h2 : i < b.length) :
    cmpK (a.drop i) (b.drop i) = if cmp3 (nth a i) (nth b i) = 0 then cmpK (a.drop (i + 1)) (b.drop (i + 1)) else cmp3 (nth a i) (nth b i) := by
  rw [drop_cons a i h1, drop_cons b i h2]; rfl

/-- Among keys, by their numbers. -/
def keyAt (ks : List (List Int)) (i : Int) : List Int := nthD [] ks i.toNat
def cfK (ks : List (List Int)) (x y : Int) : Int := cmpK (keyAt ks x) (keyAt ks y)
theorem cfK_cmp (ks : List (List Int)) : Srt.Cmp (cfK ks) := ⟨fun _ _ => cmpK_anti _ _, fun _ _ _ => cmpK_le _ _ _⟩

end Go.Proofs.Ythkfplkajlanoaa
