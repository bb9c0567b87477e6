/-
  Sums of numbers that are cut, no program in sight.
-/
import Derived.Test.YtnknlamcdeaacaaLists
namespace Go.Proofs.Ytnknlamcdeaacaa

def cutI (lo hi x : Int) : Int := if x < lo then lo else if hi < x then hi else x
def sumC (lo hi : Int) : List Int → Int
  | [] => 0
  | x :: r => cutI lo hi x + sumC lo hi r
def sqC (lo hi : Int) : List Int → Int
  | [] => 0
  | x :: r => cutI lo hi x * cutI lo hi x + sqC lo hi r

theorem sumC_append (lo hi : Int) (a b : List Int) : sumC lo hi (a ++ b) = sumC lo hi a + sumC lo hi b := by
  induction a with
  | nil => simp [sumC]
  | cons x r ih => simp [sumC, ih]; omega
theorem sqC_append (lo hi : Int) (a b : List Int) : sqC lo hi (a ++ b) = sqC lo hi a + sqC lo hi b := by
  induction a with
  | nil => simp [sqC]
  | cons x r ih => simp [sqC, ih]; omega
theorem sumC_succ (lo hi : Int) (l : List Int) (k : Nat) (h : k < l.length) : sumC lo hi (l.take (k + 1)) = sumC lo hi (l.take k) + cutI lo hi (nth l k) := by
  rw [take_snoc l k h, sumC_append]; simp [sumC]
theorem sqC_succ (lo hi : Int) (l : List Int) (k : Nat) (h : k < l.length) : sqC lo hi (l.take (k + 1)) = sqC lo hi (l.take k) + cutI lo hi (nth l k) * cutI lo hi (nth l k) := by
  rw [take_snoc l k h, sqC_append]; simp [sqC]

theorem cutI_bounds (lo hi x : Int) (h : lo ≤ hi) : lo ≤ cutI lo hi x ∧ cutI lo hi x ≤ hi := by
  unfold cutI; split
  · omega
  · split <;> omega

theorem sumC_bounds (lo hi : Int) (h : lo ≤ hi) (l : List Int) : lo * l.length ≤ sumC lo hi l ∧ sumC lo hi l ≤ hi * l.length := by
  induction l with
  | nil => simp [sumC]
  | cons x r ih =>
    have := cutI_bounds lo hi x h
    simp only [sumC, List.length_cons]
    have e1 : lo * ((r.length + 1 : Nat) : Int) = lo * r.length + lo := by rw [Int.natCast_add, Int.mul_add]; simp
    have e2 : hi * ((r.length + 1 : Nat) : Int) = hi * r.length + hi := by rw [Int.natCast_add, Int.mul_add]; simp
    rw [e1, e2]; omega

theorem sq_bounds (hi x : Int) (h0 : 0 ≤ x) (h1 : x ≤ hi) : 0 ≤ x * x ∧ x * x ≤ hi * hi :=
  ⟨Int.mul_nonneg h0 h0, Int.mul_le_mul h1 h1 h0 (by omega)⟩

theorem sqC_bounds (hi : Int) (h : 0 ≤ hi) (l : List Int) : 0 ≤ sqC 0 hi l ∧ sqC 0 hi l ≤ hi * hi * l.length := by
  induction l with
  | nil => simp [sqC]
  | cons x r ih =>
    have c := cutI_bounds 0 hi x h
    have := sq_bounds hi (cutI 0 hi x) c.1 c.2
    simp only [sqC, List.length_cons]
    have e2 : hi * hi * ((r.length + 1 : Nat) : Int) = hi * hi * r.length + hi * hi := by rw [Int.natCast_add, Int.mul_add]; simp
    rw [e2]; omega

theorem sq_nonneg (x : Int) : 0 ≤ x * x := by
  by_cases h : 0 ≤ x
  · exact Int.mul_nonneg h h
  · have := Int.mul_nonneg (a := -x) (b := -x) (by omega) (by omega)
    rw [Int.neg_mul_neg] at this; exact this

/-- The square of a sum is at most as many times the sum of the squares as there are. -/
theorem cauchy (lo hi : Int) (l : List Int) : sumC lo hi l * sumC lo hi l ≤ (l.length : Int) * sqC lo hi l := by
  have key : ∀ (l : List Int) (y : Int), 2 * y * sumC lo hi l ≤ (l.length : Int) * (y * y) + sqC lo hi l := by
    intro l y
    induction l with
    | nil => simp [sumC, sqC]
    | cons x r ih =>
      simp only [sumC, sqC, List.length_cons]
      generalize cutI lo hi x = c
      generalize hs : sumC lo hi r = s at *
      generalize hq : sqC lo hi r = q at *
      have h1 : 0 ≤ (y - c) * (y - c) := sq_nonneg _
      have e1 : (y - c) * (y - c) = y * y - 2 * y * c + c * c := by
        rw [Int.sub_mul, Int.mul_sub, Int.mul_sub, Int.mul_comm c y, Int.mul_assoc 2 y c]; omega
      have e2 : 2 * y * (c + s) = 2 * y * c + 2 * y * s := by rw [Int.mul_add]
      have e3 : ((r.length + 1 : Nat) : Int) * (y * y) = (r.length : Int) * (y * y) + y * y := by rw [Int.natCast_add, Int.add_mul]; simp
      rw [e2, e3]; rw [e1] at h1; omega
  induction l with
  | nil => simp [sumC, sqC]
  | cons x r ih =>
    have k := key r (cutI lo hi x)
    simp only [sumC, sqC, List.length_cons]
    generalize cutI lo hi x = c at *
    generalize hs : sumC lo hi r = s at *
    generalize hq : sqC lo hi r = q at *
    have e1 : (c + s) * (c + s) = c * c + 2 * c * s + s * s := by
      rw [Int.add_mul, Int.mul_add, Int.mul_add, Int.mul_comm s c, Int.mul_assoc 2 c s]; omega
    have e2 : ((r.length + 1 : Nat) : Int) * (c * c + q) = (r.length : Int) * (c * c) + (r.length : Int) * q + (c * c + q) := by
      rw [Int.natCast_add, Int.add_mul, Int.mul_add]; simp
    rw [e1, e2]; omega

end Go.Proofs.Ytnknlamcdeaacaa
