/-
  Whether a key lies between two ticks: the program's and the reference's, walked.
-/
import Derived.Test.YthkfplkajlanoaaWAhead
namespace Go.Proofs.Ythkfplkajlanoaa
open Go.RowKit

/-- Does a key lie between two ticks? -/
def withinB (k : List Int) (i r : Int) : Bool := decide (0 < k.length) && (decide (0 ≤ nth k 0) && (decide (i ≤ nth k 0 / 2) && (decide (r = 0) || decide (nth k 0 / 2 + nth k 0 % 2 ≤ r))))

theorem within_nil {k : List Int} {i r : Int} (h : ¬ 0 < k.length) : withinB k i r = false := by unfold withinB; rw [decide_eq_false h]; rfl
theorem within_neg {k : List Int} {i r : Int} (h : nth k 0 < 0) : withinB k i r = false := by unfold withinB; rw [show decide (0 ≤ nth k 0) = false from decide_eq_false (by omega)]; simp
theorem within_low {k : List Int} {i r : Int} (h : nth k 0 / 2 < i) : withinB k i r = false := by unfold withinB; rw [show decide (i ≤ nth k 0 / 2) = false from decide_eq_false (by omega)]; simp
theorem within_zero {k : List Int} {i : Int} (h : 0 < k.length) (h0 : 0 ≤ nth k 0) (hi : i ≤ nth k 0 / 2) : withinB k i 0 = true := by unfold withinB; rw [decide_eq_true h, decide_eq_true h0, decide_eq_true hi]; rfl
theorem within_up {k : List Int} {i r : Int} (h : 0 < k.length) (h0 : 0 ≤ nth k 0) (hi : i ≤ nth k 0 / 2) (hr : r ≠ 0) : withinB k i r = decide (nth k 0 / 2 + nth k 0 % 2 ≤ r) := by
  unfold withinB; rw [decide_eq_true h, decide_eq_true h0, decide_eq_true hi, decide_eq_false hr]; simp

set_option maxHeartbeats 2000000 in
theorem kwithin_any (k : List Int) (pa : Option Addr) (ca : Nat) (i r : Int) (w : World) (ha : IsInts .i64 w pa k) (hg : ∀ x ∈ k, -9223372036854775808 ≤ x ∧ x ≤ 9223372036854775807) (la : k.length ≤ 9223372036854775807) :
    Calls Try.prog 9 #[.slice pa k.length ca, .int .i64 i, .int .i64 r] w fun e w' => e = .returned (.bool (withinB k i r)) ∧ ∃ n, w' = w.drewN n := by
  by_cases hk : 0 < k.length
  · obtain ⟨b, off, rfl, e1⟩ := ha.at hk
    rw [Nat.add_zero] at e1
    obtain ⟨x0, x1⟩ := hg _ (nth_mem k 0 hk)
    have hl0 : ((k.length : Int) == 0) = false := beq_eq_false_iff_ne.2 (by omega)
    by_cases h0 : nth k 0 < 0
    · have HR := Lib.hid (within_neg (i := i) (r := r) h0)
      generalize nth k 0 = x at *
      generalize withinB k i r = v at *
      go_enter Try.func9, Try.ntmps9
      go_wp2_with fail
      go_ret
      exact ⟨ret_bool HR.out.symm, 0, rfl⟩
    · have h0' : 0 ≤ nth k 0 := by omega
      by_cases h1 : nth k 0 / 2 < i
      · have HR := Lib.hid (within_low (r := r) h1)
        generalize nth k 0 = x at *
        generalize withinB k i r = v at *
        have hq : x.tdiv 2 = x / 2 := Int.tdiv_eq_ediv_of_nonneg h0'
        have hd : decide (x < 0) = false := decide_eq_false h0
        have hd1 : decide (x / 2 < i) = true := decide_eq_true h1
        go_enter Try.func9, Try.ntmps9
        go_wp2_with fail
        go_ret
        exact ⟨ret_bool HR.out.symm, 0, rfl⟩
      · by_cases hr : r = 0
        · subst hr
          have HR := Lib.hid (within_zero hk h0' (show i ≤ nth k 0 / 2 by omega))
          generalize nth k 0 = x at *
          generalize withinB k i 0 = v at *
          have hd : decide (x < 0) = false := decide_eq_false h0
          have hd1 : decide (x / 2 < i) = false := decide_eq_false h1
          go_enter Try.func9, Try.ntmps9
          go_wp2_with fail
          go_quiet (fail)
          go_wp2_with fail
          go_ret
          exact ⟨ret_bool HR.out.symm, _, rfl⟩
        · have HR := Lib.hid (within_up hk h0' (show i ≤ nth k 0 / 2 by omega) hr)
          generalize nth k 0 = x at *
          generalize withinB k i r = v at *
          have hd : decide (x < 0) = false := decide_eq_false h0
          have hd1 : decide (x / 2 < i) = false := decide_eq_false h1
          have hd2 : (r == 0) = false := beq_eq_false_iff_ne.2 hr
          have hb : x / 2 + x % 2 ≤ 9223372036854775807 := by omega
          have hb0 : 0 ≤ x / 2 + x % 2 := by omega
          go_enter Try.func9, Try.ntmps9
          go_wp2_with fail
          go_quiet (fail)
          go_wp2_with fail
          go_ret
          exact ⟨ret_bool HR.out.symm, _, rfl⟩
  · have HR := Lib.hid (within_nil (i := i) (r := r) hk)
    have hl : k.length = 0 := by omega
    generalize withinB k i r = v at *
    generalize k.length = n at *
    subst hl
    go_enter Try.func9, Try.ntmps9
    go_wp2_with fail
    go_ret
    exact ⟨ret_bool HR.out.symm, 0, rfl⟩

set_option maxHeartbeats 4000000 in
theorem rwithin_any (k : List Int) (pa : Option Addr) (ca : Nat) (i r : Int) (w : World) (ha : IsInts .i64 w pa k) (hg : ∀ x ∈ k, -9223372036854775808 ≤ x ∧ x ≤ 9223372036854775807) (la : k.length ≤ 9223372036854775807) :
    Calls Try.prog 10 #[.slice pa k.length ca, .int .i64 i, .int .i64 r] w fun e w' => e = .returned (.bool (withinB k i r)) ∧ ∃ n, w' = w.drewN n := by
  by_cases hk : 0 < k.length
  · obtain ⟨b, off, rfl, e1⟩ := ha.at hk
    rw [Nat.add_zero] at e1
    obtain ⟨x0, x1⟩ := hg _ (nth_mem k 0 hk)
    have hl0 : ((k.length : Int) == 0) = false := beq_eq_false_iff_ne.2 (by omega)
    by_cases h0 : nth k 0 < 0
    · have HR := Lib.hid (within_neg (i := i) (r := r) h0)
      generalize nth k 0 = x at *
      generalize withinB k i r = v at *
      go_enter Try.func10, Try.ntmps10
      go_wp2_with fail
      go_ret
      exact ⟨ret_bool HR.out.symm, 0, rfl⟩
    · have h0' : 0 ≤ nth k 0 := by omega
      have HR : Hid (withinB k i r = (decide (i ≤ nth k 0 / 2) && (decide (r = 0) || decide (nth k 0 / 2 + nth k 0 % 2 ≤ r)))) := Lib.hid (by
        unfold withinB; rw [decide_eq_true hk, decide_eq_true h0']; simp)
      generalize nth k 0 = x at *
      generalize withinB k i r = v at *
      have hd : decide (x < 0) = false := decide_eq_false h0
      have hb0 : 0 ≤ x / 2 := by omega
      have hb1 : x / 2 ≤ 4611686018427387904 := by omega
      have hpar : x % 2 = 0 ∨ x % 2 = 1 := by omega
      go_enter Try.func10, Try.ntmps10
      go_wp2_with fail
      go_quiet (fail)
      rcases hpar with hp | hp
      · have t1 : (x % 2 == 1) = false := beq_eq_false_iff_ne.2 (by omega)
        have HP := Lib.hid hp; clear hp
        by_cases h1 : i ≤ x / 2
        · have d1 : decide (x / 2 ≥ i) = true := decide_eq_true h1
          by_cases h2 : r = 0
          · subst h2
            go_wp2_with fail
            go_ret
            exact ⟨ret_bool (by rw [HR.out, decide_eq_true h1]; rfl), _, rfl⟩
          · have d2 : (r == 0) = false := beq_eq_false_iff_ne.2 h2
            have HR2 : Hid (v = decide (x / 2 ≤ r)) := Lib.hid (by rw [HR.out, decide_eq_true h1, decide_eq_false h2, HP.out, Int.add_zero]; simp)
            clear h2
            go_wp2_with fail
            go_ret
            exact ⟨ret_bool (by rw [HR2.out]), _, rfl⟩
        · have d1 : decide (x / 2 ≥ i) = false := decide_eq_false h1
          go_wp2_with fail
          go_ret
          exact ⟨ret_bool (by rw [HR.out, show decide (i ≤ x / 2) = false from decide_eq_false (by omega)]; rfl), _, rfl⟩
      · have t1 : (x % 2 == 1) = true := beq_iff_eq.2 hp
        have HP := Lib.hid hp; clear hp
        by_cases h1 : i ≤ x / 2
        · have d1 : decide (x / 2 ≥ i) = true := decide_eq_true h1
          by_cases h2 : r = 0
          · subst h2
            go_wp2_with fail
            go_ret
            exact ⟨ret_bool (by rw [HR.out, decide_eq_true h1]; rfl), _, rfl⟩
          · have d2 : (r == 0) = false := beq_eq_false_iff_ne.2 h2
            have HR2 : Hid (v = decide (x / 2 + 1 ≤ r)) := Lib.hid (by rw [HR.out, decide_eq_true h1, decide_eq_false h2, HP.out]; simp)
            clear h2
            go_wp2_with fail
            go_ret
            exact ⟨ret_bool (by rw [HR2.out]), _, rfl⟩
        · have d1 : decide (x / 2 ≥ i) = false := decide_eq_false h1
          go_wp2_with fail
          go_ret
          exact ⟨ret_bool (by rw [HR.out, show decide (i ≤ x / 2) = false from decide_eq_false (by omega)]; rfl), _, rfl⟩
  · have HR := Lib.hid (within_nil (i := i) (r := r) hk)
    have hl : k.length = 0 := by omega
    generalize withinB k i r = v at *
    generalize k.length = n at *
    subst hl
    go_enter Try.func10, Try.ntmps10
    go_wp2_with fail
    go_ret
    exact ⟨ret_bool HR.out.symm, 0, rfl⟩

end Go.Proofs.Ythkfplkajlanoaa
