/-
  The reference's sums, as the two laws call them.
-/
import Derived.Test.YtnknlamcdeaacaaWGreat
namespace Go.Proofs.Ytnknlamcdeaacaa
open Go.RowKit

def SumPost (l : List Int) (w : World) (e : Ending) (w' : World) : Prop :=
  ∃ q, e = .returned (.tuple #[.int .i64 (sumC (-1073741824) 1073741824 l), .int .i64 q, .int .i64 l.length]) ∧ w' = w
/-- the first ones of a list, as many as Even looks at. -/
def firsts (l : List Int) : List Int := l.take 4096
def EvenPost (l : List Int) (w : World) (e : Ending) (w' : World) : Prop :=
  e = .returned (.tuple #[.int .i64 (sumC 0 1048576 (firsts l)), .int .i64 (sqC 0 1048576 (firsts l)), .int .i64 (firsts l).length]) ∧ w' = w
/-- at most 4096. -/
def most (j : Nat) : Nat := min j 4096
theorem most_eq (j : Nat) : most j = min j 4096 := rfl
theorem firsts_length (l : List Int) : (firsts l).length ≤ 4096 := by unfold firsts; rw [List.length_take]; omega

set_option maxHeartbeats 400000 in
theorem sum_ratio (a : Option Addr) (cap : Nat) (zs : List Int) (w : World) (hs : IsInts .i64 w a zs) (hlen : zs.length ≤ 100000) :
    Calls Try.prog 8 #[.slice a zs.length cap, .int .i64 (-1073741824), .int .i64 1073741824, .int .i64 zs.length] w (SumPost zs w) := by
  have HS := Lib.hid hs; clear hs
  have HT : Hid (zs.take zs.length = zs) := Lib.hid List.take_length
  go_enter Try.func8, Try.ntmps8
  go_wp2
  go_loop [11, 12, 13, 18] (fun o q n k => ∃ (j : Nat) (s : Int), j ≤ zs.length ∧ k = .int .i64 j ∧ o = .int .i64 (sumC (-1073741824) 1073741824 (zs.take j)) ∧ q = .int .i64 s ∧ n = .int .i64 j) (fun _ _ _ k => zs.length - (intOf k).toNat)
  case atStart => exact ⟨0, 0, Nat.zero_le _, rfl, rfl, rfl, rfl⟩
  case round =>
    obtain ⟨j, s, hj, rfl, rfl, rfl, rfl⟩ := hrel
    have b0 := sumC_bounds (-1073741824) 1073741824 (by omega) (zs.take j)
    rw [List.length_take, Nat.min_eq_left hj] at b0
    by_cases hlt : j < zs.length
    · have H1 := Lib.hid (sumC_succ (-1073741824) 1073741824 zs j hlt)
      obtain ⟨b, off, rfl, hc⟩ := HS.out.at hlt
      have hcb := cutI_bounds (-1073741824) 1073741824 (nth zs j) (by omega)
      go_wp2_with (go_at_call 15; refine (cut_any _ _ _ _).mono ?_; rintro e w' ⟨rfl, rfl⟩)
      go_round
      case rel => exact ⟨j + 1, _, by omega, by go_num, by rw [H1.out], rfl, by go_num⟩
      case measure => simp [intOf]; omega
    · have hje : j = zs.length := by omega
      subst hje
      rw [HT.out]
      go_wp2
      go_ret3
      exact ⟨s, rfl, rfl⟩

set_option maxRecDepth 20000 in
set_option maxHeartbeats 400000 in
theorem sum_even (a : Option Addr) (cap : Nat) (zs : List Int) (w : World) (hs : IsInts .i64 w a zs) (hlen : zs.length ≤ 9223372036854775807) :
    Calls Try.prog 8 #[.slice a zs.length cap, .int .i64 0, .int .i64 1048576, .int .i64 4096] w (EvenPost zs w) := by
  have HS := Lib.hid hs; clear hs
  go_enter Try.func8, Try.ntmps8
  go_wp2
  go_loop [11, 12, 13, 18] (fun o q n k => ∃ (j m : Nat), j ≤ zs.length ∧ k = .int .i64 j ∧ m ≤ 4096 ∧ Hid (m = most j) ∧ o = .int .i64 (sumC 0 1048576 (zs.take m)) ∧ q = .int .i64 (sqC 0 1048576 (zs.take m)) ∧ n = .int .i64 m) (fun _ _ _ k => zs.length - (intOf k).toNat)
  case atStart => exact ⟨0, 0, Nat.zero_le _, rfl, by omega, Lib.hid rfl, rfl, rfl, rfl⟩
  case round =>
    obtain ⟨j, m, hj, rfl, hm4, HJ, rfl, rfl, rfl⟩ := hrel
    have b0 := sumC_bounds 0 1048576 (by omega) (zs.take m)
    have b1 := sqC_bounds 1048576 (by omega) (zs.take m)
    rw [List.length_take, Nat.min_eq_left (by have := HJ.out; rw [most_eq] at this; omega)] at b0 b1
    by_cases hlt : j < zs.length
    · by_cases hlm : j < 4096
      · have hjm : j = m := by have := HJ.out; rw [most_eq] at this; omega
        subst hjm
        have H1 := Lib.hid (sumC_succ 0 1048576 zs j hlt)
        have H2 := Lib.hid (sqC_succ 0 1048576 zs j hlt)
        obtain ⟨b, off, rfl, hc⟩ := HS.out.at hlt
        have hcb := cutI_bounds 0 1048576 (nth zs j) (by omega)
        have hqb := sq_bounds 1048576 (cutI 0 1048576 (nth zs j)) hcb.1 hcb.2
        go_wp2_with (go_at_call 15; refine (cut_any _ _ _ _).mono ?_; rintro e w' ⟨rfl, rfl⟩)
        go_round
        case rel => exact ⟨j + 1, j + 1, by omega, by go_num, by omega, Lib.hid (by rw [most_eq]; omega), by rw [H1.out], by rw [H2.out], by go_num⟩
        case measure => simp [intOf]; omega
      · go_wp2
        go_round
        case rel => exact ⟨j + 1, m, by omega, by go_num, by omega, Lib.hid (by have := HJ.out; rw [most_eq] at this ⊢; omega), rfl, rfl, rfl⟩
        case measure => simp [intOf]; omega
    · have hje : j = zs.length := by omega
      go_wp2
      go_ret3
      have ht : zs.take m = zs.take 4096 := by
        have := HJ.out
        rw [most_eq] at this
        rw [this, hje]
        by_cases h4 : zs.length ≤ 4096
        · rw [Nat.min_eq_left h4, List.take_length, List.take_of_length_le h4]
        · rw [Nat.min_eq_right (by omega)]
      have hl : m = (zs.take 4096).length := by rw [List.length_take, HJ.out, hje, most_eq, Nat.min_comm]
      refine ⟨?_, rfl⟩
      unfold firsts
      rw [← ht]
      rw [← ht] at hl
      rw [← hl]; rfl

end Go.Proofs.Ytnknlamcdeaacaa
