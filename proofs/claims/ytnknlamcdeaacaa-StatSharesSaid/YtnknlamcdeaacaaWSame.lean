/-
  The law's own comparison of two numbers.
-/
import Derived.Test.YtnknlamcdeaacaaChecked
import Derived.Test.YtnknlamcdeaacaaBase
import Derived.Test.YtnknlamcdeaacaaFloat
import Derived.Laws.FloatArith
namespace Go.Proofs.Ytnknlamcdeaacaa
open Go.RowKit

theorem ret_bool {a b : Bool} (h : a = b) : Ending.returned (.bool a) = .returned (.bool b) := by rw [h]

theorem fo_eq (a b : Nat) : FloatKind.f64.format.order a b = Ieee.double.order a b := rfl

theorem fo_nan (a : Nat) (h : nan a = true) : FloatKind.f64.format.order a a = none := order_nan_left a a h
theorem fo_self (a : Nat) (h : nan a = false) : FloatKind.f64.format.order a a = some .eq := order_self a h

theorem fo_lt (a b : Nat) (ha : nan a = false) (hb : nan b = false) (h : key a < key b) : FloatKind.f64.format.order a b = some .lt := by
  rw [fo_eq, order_eq a b ha hb, compare_int, if_pos h]
theorem fo_gt (a b : Nat) (ha : nan a = false) (hb : nan b = false) (h : key b < key a) : FloatKind.f64.format.order a b = some .gt := by
  rw [fo_eq, order_eq a b ha hb, compare_int, if_neg (by omega), if_neg (by omega)]
theorem fo_same (a b : Nat) (ha : nan a = false) (hb : nan b = false) (h : key a = key b) : FloatKind.f64.format.order a b = some .eq := by
  rw [fo_eq, order_eq a b ha hb, compare_int, if_neg (by omega), if_pos h]
theorem fo_ne (a b : Nat) (ha : nan a = false) (hb : nan b = false) (h : key a ≠ key b) : FloatKind.f64.format.order a b = some .lt ∨ FloatKind.f64.format.order a b = some .gt := by
  by_cases h1 : key a < key b
  · exact .inl (fo_lt a b ha hb h1)
  · exact .inr (fo_gt a b ha hb (by omega))

theorem nan_zero : nan 0 = false := by decide
theorem nan_b63 : nan B63 = false := by decide
theorem key_0 : key 0 = 0 := by decide

set_option maxHeartbeats 400000 in
theorem same_any (a b : Nat) (w : World) (hla : a < 2 * B63) (hlb : b < 2 * B63) :
    Calls Try.prog 9 #[.float .f64 a, .float .f64 b] w fun e w' => e = .returned (.bool (sameF a b)) ∧ w' = w := by
  have HLA := Lib.hid hla; clear hla
  have HLB := Lib.hid hlb; clear hlb
  cases ha : nan a
  · cases hb : nan b
    · have f1 := fo_self a ha
      have f2 := fo_self b hb
      by_cases hk : key a = key b
      · have f3 := fo_same a b ha hb hk
        by_cases h0 : key a = 0
        · have za := key_zero a HLA.out h0
          have zb := key_zero b HLB.out (by omega)
          have q1 : ∀ w, (binOp .quo 27 (.float .f64 4607182418800017408) (.float .f64 0)).run Try.prog w = .ok (.float .f64 INF) w := fun w => run_float_arith w .quo 27 .f64 4607182418800017408 0 INF (by decide)
          have q2 : ∀ w, (binOp .quo 27 (.float .f64 4607182418800017408) (.float .f64 B63)).run Try.prog w = .ok (.float .f64 (B63 + INF)) w := fun w => run_float_arith w .quo 27 .f64 4607182418800017408 B63 (B63 + INF) (by decide)
          have o1 : FloatKind.f64.format.order INF 0 = some .gt := by decide
          have o2 : FloatKind.f64.format.order (B63 + INF) 0 = some .lt := by decide
          have o3 : FloatKind.f64.format.order 0 0 = some .eq := by decide
          have o4 : FloatKind.f64.format.order B63 0 = some .eq := by decide
          clear hk h0 ha hb
          rcases za with rfl | rfl <;> rcases zb with rfl | rfl
          all_goals
            go_enter Try.func9, Try.ntmps9
            go_wp2
            go_ret
            exact ⟨ret_bool (by decide), rfl⟩
        · have f4 := fo_ne a 0 ha nan_zero (by rw [key_0]; exact h0)
          have HH : Hid (sameF a b = true) := Lib.hid (by unfold sameF; simp [ha, hb, hk]; left; rw [← hk]; exact h0)
          clear hk h0 ha hb
          rcases f4 with f4 | f4
          all_goals
            go_enter Try.func9, Try.ntmps9
            go_wp2
            go_ret
            exact ⟨by rw [HH.out]; rfl, rfl⟩
      · have f3 := fo_ne a b ha hb hk
        have HH : Hid (sameF a b = false) := Lib.hid (by unfold sameF; simp [ha, hb, hk])
        clear hk ha hb
        rcases f3 with f3 | f3
        all_goals
          go_enter Try.func9, Try.ntmps9
          go_wp2
          go_ret
          exact ⟨by rw [HH.out]; rfl, rfl⟩
    · have f1 := fo_self a ha
      have f2 := fo_nan b hb
      have HH : Hid (sameF a b = false) := Lib.hid (by unfold sameF; simp [ha, hb])
      clear ha hb
      go_enter Try.func9, Try.ntmps9
      go_wp2
      go_ret
      exact ⟨by rw [HH.out]; rfl, rfl⟩
  · have f1 := fo_nan a ha
    cases hb : nan b
    · have f2 := fo_self b hb
      have HH : Hid (sameF a b = false) := Lib.hid (by unfold sameF; simp [ha, hb])
      clear ha hb
      go_enter Try.func9, Try.ntmps9
      go_wp2
      go_ret
      exact ⟨by rw [HH.out]; rfl, rfl⟩
    · have f2 := fo_nan b hb
      have HH : Hid (sameF a b = true) := Lib.hid (sameF_nan a b ha hb)
      clear ha hb
      go_enter Try.func9, Try.ntmps9
      go_wp2
      go_ret
      exact ⟨by rw [HH.out]; rfl, rfl⟩

end Go.Proofs.Ytnknlamcdeaacaa
