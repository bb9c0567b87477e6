/-
  How two keys stand to one another, walked: slices.Compare, keys.Compare, the reference's Ahead.
-/
import Derived.Test.YthkfplkajlanoaaBase
import Derived.Test.YthkfplkajlanoaaKeys
import Derived.Test.YthkfplkajlanoaaProg
namespace Go.Proofs.Ythkfplkajlanoaa
open Go.RowKit

theorem ret_int {k : IntKind} {a b : Int} (h : a = b) : Ending.returned (.int k a) = .returned (.int k b) := by rw [h]
theorem ret_bool {a b : Bool} (h : a = b) : Ending.returned (.bool a) = .returned (.bool b) := by rw [h]

theorem nan_any (x : Int) (w : World) : Calls Try.prog 18 #[.int .i64 x] w fun e w' => e = .returned (.bool false) ∧ w = w' := by
  go_enter Try.func18, Try.ntmps18
  go_wp2
  go_ret
  exact ⟨by simp, rfl⟩

theorem cmpi_any (x y : Int) (w : World) : Calls Try.prog 16 #[.int .i64 x, .int .i64 y] w fun e w' => e = .returned (.int .i64 (cmp3 x y)) ∧ w = w' := by
  unfold cmp3
  by_cases h1 : x < y
  · go_enter Try.func16, Try.ntmps16
    go_wp2_with (refine (nan_any _ _).mono ?_; rintro e w' ⟨rfl, rfl⟩)
    go_ret
    exact ⟨ret_int (by simp [h1]), rfl⟩
  · by_cases h2 : y < x
    · go_enter Try.func16, Try.ntmps16
      go_wp2_with (refine (nan_any _ _).mono ?_; rintro e w' ⟨rfl, rfl⟩)
      go_ret
      exact ⟨ret_int (by simp [h1, h2]), rfl⟩
    · go_enter Try.func16, Try.ntmps16
      go_wp2_with (refine (nan_any _ _).mono ?_; rintro e w' ⟨rfl, rfl⟩)
      go_ret
      exact ⟨ret_int (by simp [h1, h2]), rfl⟩

theorem cmpK_end (a b : List Int) (h : a.length ≤ b.length) : cmpK (a.drop a.length) (b.drop a.length) = if a.length < b.length then -1 else 0 := by
  rw [List.drop_length]
  split
  · rw [drop_cons b a.length (by omega)]; rfl
  · rw [show b.drop a.length = [] from List.drop_of_length_le (by omega)]; rfl
theorem cmpK_over (a b : List Int) (i : Nat) (h1 : i < a.length) (h2 : i = b.length) : cmpK (a.drop i) (b.drop i) = 1 := by
  rw [show b.drop i = [] from List.drop_of_length_le (by omega), drop_cons a i h1]; rfl

set_option maxHeartbeats 1000000 in
theorem slcmp_any (a b : List Int) (pa : Option Addr) (ca : Nat) (pb : Option Addr) (cb : Nat) (w : World) (ha : IsInts .i64 w pa a) (hb : IsInts .i64 w pb b) (la : a.length ≤ 9223372036854775807) (lb : b.length ≤ 9223372036854775807) :
    Calls Try.prog 13 #[.slice pa a.length ca, .slice pb b.length cb] w fun e w' => e = .returned (.int .i64 (cmpK a b)) ∧ w = w' := by
  have HA := Lib.hid ha; clear ha
  have HB := Lib.hid hb; clear hb
  go_enter Try.func13, Try.ntmps13
  go_wp2
  go_loopw [11] (fun k wr => ∃ i : Nat, i ≤ a.length ∧ i ≤ b.length ∧ k = .int .i64 i ∧ Hid (cmpK a b = cmpK (a.drop i) (b.drop i)) ∧ Hid (wr = w)) (fun k _ => a.length - (intOf k).toNat)
  case atStart => exact ⟨0, Nat.zero_le _, Nat.zero_le _, rfl, Lib.hid rfl, Lib.hid rfl⟩
  case round =>
    obtain ⟨i, hia, hib, rfl, HC, HW⟩ := hrel
    have HAi : Hid (IsInts .i64 wr pa a) := Lib.hid (by rw [HW.out]; exact HA.out)
    have HBi : Hid (IsInts .i64 wr pb b) := Lib.hid (by rw [HW.out]; exact HB.out)
    by_cases hlt : i < a.length
    · obtain ⟨ba, oa, rfl, e1⟩ := HAi.out.at hlt
      by_cases hlb : i < b.length
      · obtain ⟨bb, ob, rfl, e2⟩ := HBi.out.at hlb
        have HD := Lib.hid (cmpK_drop a b i hlt hlb)
        generalize nth a i = x at *
        generalize nth b i = y at *
        go_wp2_with fail
        refine (cmpi_any x y _).mono ?_
        rintro e w' ⟨rfl, rfl⟩
        generalize cmp3 x y = c at *
        by_cases hc : c = 0
        · have HC2 : Hid (cmpK a b = cmpK (a.drop (i + 1)) (b.drop (i + 1))) := Lib.hid (by rw [HC.out, HD.out, if_pos hc])
          have h0 : (c == 0) = true := beq_iff_eq.2 hc
          have h0' : (c != 0) = false := by simp [hc]
          clear hc
          go_wp2_with fail
          go_roundw
          case rel => exact ⟨i + 1, by omega, by omega, by go_num, HC2, HW⟩
          case measure => simp [intOf]; omega
        · have HC2 : Hid (cmpK a b = c) := Lib.hid (by rw [HC.out, HD.out, if_neg hc])
          have h0' : (c != 0) = true := by simp [hc]
          clear hc
          go_wp2_with fail
          go_ret
          exact ⟨ret_int HC2.out.symm, HW.out.symm⟩
      · have HC2 := Lib.hid (HC.out.trans (cmpK_over a b i hlt (by omega)))
        generalize nth a i = x at *
        go_wp2_with fail
        go_ret
        exact ⟨ret_int HC2.out.symm, HW.out.symm⟩
    · have hi : i = a.length := by omega
      have HC2 : Hid (cmpK a b = if a.length < b.length then -1 else 0) := Lib.hid (by rw [HC.out, hi]; exact cmpK_end a b (by omega))
      clear HC
      subst hi
      by_cases hlb : a.length < b.length
      · have hd : decide (a.length < b.length) = true := decide_eq_true hlb
        go_wp2_with fail
        go_ret
        exact ⟨ret_int (by rw [HC2.out, if_pos hlb]), HW.out.symm⟩
      · have hd : decide (a.length < b.length) = false := decide_eq_false hlb
        go_wp2_with fail
        go_ret
        exact ⟨ret_int (by rw [HC2.out, if_neg hlb]), HW.out.symm⟩

theorem kcmp_any (a b : List Int) (pa : Option Addr) (ca : Nat) (pb : Option Addr) (cb : Nat) (w : World) (ha : IsInts .i64 w pa a) (hb : IsInts .i64 w pb b) (la : a.length ≤ 9223372036854775807) (lb : b.length ≤ 9223372036854775807) :
    Calls Try.prog 8 #[.slice pa a.length ca, .slice pb b.length cb] w fun e w' => e = .returned (.int .i64 (cmpK a b)) ∧ w = w' := by
  go_enter Try.func8, Try.ntmps8
  go_wp2_with fail
  refine (slcmp_any a b pa ca pb cb w ha hb la lb).mono ?_
  rintro e w' ⟨rfl, rfl⟩
  go_wp2_with fail
  go_ret
  exact ⟨rfl, rfl⟩

end Go.Proofs.Ythkfplkajlanoaa
