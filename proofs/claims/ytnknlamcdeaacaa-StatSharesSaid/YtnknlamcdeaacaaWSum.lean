/-
  Ratio, Mean, and the reference's sums.
-/
import Derived.Test.YtnknlamcdeaacaaWSame
import Derived.Test.YtnknlamcdeaacaaSums
import Derived.Deep.Draws
namespace Go.Proofs.Ytnknlamcdeaacaa
open Go.RowKit

def fl (n : Int) : Nat := floatOfInt .f64 n

/-- r is the quotient's word: the very one, or none of whatever bits. -/
def IsQuo (x y r : Nat) : Prop := r < 2 * B63 ∧ (Ieee.double.div x y = some r ∨ (Ieee.double.div x y = none ∧ nan r = true))

theorem quo_same {x y r s : Nat} (h1 : IsQuo x y r) (h2 : IsQuo x y s) : sameF r s = true := by
  rcases h1.2 with a | ⟨a, na⟩ <;> rcases h2.2 with b | ⟨b, nb⟩
  · rw [a] at b; cases b; exact sameF_refl r
  · rw [a] at b; cases b
  · rw [a] at b; cases b
  · exact sameF_nan r s na nb

theorem some_lt {x y r : Nat} (h : Ieee.double.div x y = some r) : r < 2 * B63 := by
  have := Ieee.double.div_lt h
  have e : 2 ^ Ieee.double.width = 2 * B63 := by decide
  rw [e] at this; exact this

theorem run_quo (P : Program) (w : World) (t : TypeId) (x y : Nat) : ∃ r m, (binOp .quo t (.float .f64 x) (.float .f64 y)).run P w = .ok (.float .f64 r) (w.drewN m) ∧ IsQuo x y r := by
  cases h : Ieee.double.div x y with
  | some r => exact ⟨r, 0, run_float_arith w .quo t .f64 x y r h, some_lt h, .inl h⟩
  | none =>
    have h' : FloatKind.f64.format.div x y = none := h
    refine ⟨(Question.nanBits .f64 x y).cut (w.tape w.drawn (.nanBits .f64 x y)), 1, ?_, cut_lt _, .inr ⟨h, nan_cut _⟩⟩
    simp [binOp, Op.floatArith, h', Question.forced]; rfl

/-- What stat.Ratio answers. -/
def RatioPost (a b : Int) (w : World) (e : Ending) (w' : World) : Prop := ∃ r m, e = .returned (.float .f64 r) ∧ w' = w.drewN m ∧ IsQuo (fl a) (fl b) r

set_option maxHeartbeats 400000 in
theorem ratio_any (a b : Int) (w : World) : Calls Try.prog 10 #[.int .i64 a, .int .i64 b] w (RatioPost a b w) := by
  obtain ⟨r, m, hr, hq⟩ := run_quo Try.prog w 27 (fl a) (fl b)
  have HQ := Lib.hid hq; clear hq
  unfold fl at hr
  go_enter Try.func10, Try.ntmps10
  go_wp2
  go_ret
  exact ⟨r, m, rfl, rfl, HQ.out⟩

set_option maxHeartbeats 400000 in
theorem cut_any (x lo hi : Int) (w : World) : Calls Try.prog 15 #[.int .i64 x, .int .i64 lo, .int .i64 hi] w fun e w' => e = .returned (.int .i64 (cutI lo hi x)) ∧ w' = w := by
  by_cases h1 : x < lo
  · have H : Hid (cutI lo hi x = lo) := Lib.hid (by unfold cutI; rw [if_pos h1])
    go_enter Try.func15, Try.ntmps15
    go_wp2
    go_ret
    exact ⟨by rw [H.out]; rfl, rfl⟩
  · by_cases h2 : hi < x
    · have H : Hid (cutI lo hi x = hi) := Lib.hid (by unfold cutI; rw [if_neg h1, if_pos h2])
      go_enter Try.func15, Try.ntmps15
      go_wp2
      go_ret
      exact ⟨by rw [H.out]; rfl, rfl⟩
    · have H : Hid (cutI lo hi x = x) := Lib.hid (by unfold cutI; rw [if_neg h1, if_neg h2])
      go_enter Try.func15, Try.ntmps15
      go_wp2
      go_ret
      exact ⟨by rw [H.out]; rfl, rfl⟩

set_option maxHeartbeats 400000 in
theorem mean_any (a : Option Addr) (cap : Nat) (zs : List Int) (w : World) (hs : IsInts .i64 w a zs) (hlen : zs.length ≤ 100000) :
    Calls Try.prog 11 #[.slice a zs.length cap] w (RatioPost (sumC (-1073741824) 1073741824 zs) zs.length w) := by
  have HS := Lib.hid hs; clear hs
  have HT : Hid (zs.take zs.length = zs) := Lib.hid List.take_length
  go_enter Try.func11, Try.ntmps11
  go_wp2
  go_loop [3, 8] (fun o k => ∃ j : Nat, j ≤ zs.length ∧ k = .int .i64 j ∧ o = .int .i64 (sumC (-1073741824) 1073741824 (zs.take j))) (fun _ k => zs.length - (intOf k).toNat)
  case atStart => exact ⟨0, Nat.zero_le _, rfl, rfl⟩
  case round =>
    obtain ⟨j, hj, rfl, rfl⟩ := hrel
    have b0 := sumC_bounds (-1073741824) 1073741824 (by omega) (zs.take j)
    rw [List.length_take, Nat.min_eq_left hj] at b0
    by_cases hlt : j < zs.length
    · have H1 := Lib.hid (sumC_succ (-1073741824) 1073741824 zs j hlt)
      obtain ⟨b, off, rfl, hc⟩ := HS.out.at hlt
      by_cases h1 : nth zs j ≤ -1073741824
      · have H : Hid (cutI (-1073741824) 1073741824 (nth zs j) = -1073741824) := Lib.hid (by unfold cutI; split <;> (try split) <;> omega)
        go_wp2
        go_round
        case rel => exact ⟨j + 1, by omega, by go_num, by rw [H1.out, H.out]⟩
        case measure => simp [intOf]; omega
      · by_cases h2 : 1073741824 < nth zs j
        · have H : Hid (cutI (-1073741824) 1073741824 (nth zs j) = 1073741824) := Lib.hid (by unfold cutI; rw [if_neg (by omega), if_pos h2])
          go_wp2
          go_round
          case rel => exact ⟨j + 1, by omega, by go_num, by rw [H1.out, H.out]⟩
          case measure => simp [intOf]; omega
        · have H : Hid (cutI (-1073741824) 1073741824 (nth zs j) = nth zs j) := Lib.hid (by unfold cutI; rw [if_neg (by omega), if_neg h2])
          have h3 : -1073741824 < nth zs j := by omega
          go_wp2
          go_round
          case rel => exact ⟨j + 1, by omega, by go_num, by rw [H1.out, H.out]⟩
          case measure => simp [intOf]; omega
    · have hje : j = zs.length := by omega
      subst hje
      rw [HT.out]
      go_wp2_with (go_at_call 10; refine (ratio_any _ _ _).mono ?_; rintro e w' ⟨r, m, rfl, rfl, hq⟩)
      go_ret
      exact ⟨r, m, rfl, rfl, hq⟩

end Go.Proofs.Ytnknlamcdeaacaa
