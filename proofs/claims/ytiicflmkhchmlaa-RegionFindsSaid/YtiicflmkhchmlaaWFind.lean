/-
  Which region has an address: region.Find and the reference's Has.
-/
import Derived.Test.YtiicflmkhchmlaaWLay
namespace Go.Proofs.Ytiicflmkhchmlaa
open Go.RowKit

/-- What region.Find answers. -/
def FindPost (zs : List Int) (x : Int) (w : World) (e : Ending) (w' : World) : Prop :=
  Ext w w' ∧ e = .returned (.tuple #[.int .i64 (find zs x).1, .int .i64 (find zs x).2.1, .bool (find zs x).2.2])

theorem findPost_no {zs : List Int} {x : Int} (h : wrong zs 0 ≠ 0 ∨ x < 0 ∨ sum zs ≤ x) : find zs x = (0, 0, false) := by unfold find; rw [if_pos h]
theorem findPost_yes {zs : List Int} {x : Int} (h : ¬ (wrong zs 0 ≠ 0 ∨ x < 0 ∨ sum zs ≤ x)) : find zs x = ((findFrom zs x (zs.length - 1)).1, (findFrom zs x (zs.length - 1)).2, true) := by unfold find; rw [if_neg h]
theorem findFrom_succ (zs : List Int) (x : Int) (i : Nat) : findFrom zs x (i + 1) = if 0 < nth zs (i + 1) ∧ sum (zs.take (i + 1)) ≤ x then (((i + 1 : Nat) : Int), x - sum (zs.take (i + 1))) else findFrom zs x i := rfl

set_option maxHeartbeats 400000 in
theorem find_any (x : Int) (a : Option Addr) (cap : Nat) (zs : List Int) (n : Nat) (w : World) (hn : n = zs.length) (hs : IsInts .i64 w a zs) (hlen : zs.length ≤ 1000000)
    (hz : ∀ i, i < zs.length → -9223372036854775808 ≤ nth zs i ∧ nth zs i ≤ 9223372036854775807) (hx1 : -9223372036854775808 ≤ x) (hx2 : x ≤ 9223372036854775807) :
    Calls Try.prog 9 #[.int .i64 x, .slice a n cap] w (FindPost zs x w) := by
  have hlay := lay_any a cap zs n w hn hs hlen hz
  have HN := Lib.hid hn; clear hn
  have HS := Lib.hid hs; clear hs
  have HZ := Lib.hid hz; clear hz
  have HL := Lib.hid hlay; clear hlay
  go_enter Try.func9, Try.ntmps9
  go_wp2_with fail
  refine HL.out.mono ?_
  rintro e w1 ⟨hext, ⟨hw, rfl⟩ | ⟨hw, a', cap', rfl, hi⟩⟩
  · have HW := Lib.hid hw; clear hw
    have hne : (wrong zs 0 != 0) = true := by simpa using HW.out
    go_wp2
    go_ret3
    exact ⟨hext, by rw [findPost_no (.inl HW.out)]; rfl⟩
  · have HW := Lib.hid hw; clear hw
    by_cases h0 : x < 0
    · go_wp2
      go_ret3
      exact ⟨hext, by rw [findPost_no (.inr (.inl h0))]; rfl⟩
    · by_cases h1 : sum zs ≤ x
      · go_wp2
        go_ret3
        exact ⟨hext, by rw [findPost_no (.inr (.inr h1))]; rfl⟩
      · have hf := findPost_yes (zs := zs) (x := x) (by intro h; rcases h with h | h | h; exact h HW.out; exact h0 h; exact h1 h)
        have HF := Lib.hid hf; clear hf
        have hpos : 0 < zs.length := by
          cases zs with
          | nil => simp [sum] at h1; omega
          | cons _ _ => simp
        have hh0 : 0 ≤ x := by omega
        have hh1 : x < sum zs := by omega
        clear h0 h1
        go_wp2
        go_loop [10] (fun k => ∃ j : Nat, j < zs.length ∧ k = .int .i64 j ∧ Hid (findFrom zs x j = findFrom zs x (zs.length - 1))) (fun k => (intOf k).toNat)
        case atStart => exact ⟨zs.length - 1, by omega, by go_num, Lib.hid rfl⟩
        case round =>
          obtain ⟨j, hj, rfl, HJ⟩ := hrel
          by_cases hj0 : 0 < j
          · obtain ⟨b, off, rfl, hc⟩ := (HS.out.ext hext).at hj
            have hbl : (begins zs 0).length = zs.length := begins_length zs 0
            have HBL := Lib.hid hbl; clear hbl
            obtain ⟨b', off', rfl, hc'⟩ := hi.at (i := j) (by rw [HBL.out]; exact hj)
            rw [begins_getD zs j hj] at hc'
            have hjn : j < n := by have := HN.out; omega
            obtain ⟨q1, q2⟩ := HZ.out j hj
            have hbd := right_bounds zs 0 (by omega) (by omega) HW.out j (by omega)
            simp only [Int.zero_add] at hbd
            obtain ⟨m, rfl⟩ : ∃ m, j = m + 1 := ⟨j - 1, by omega⟩
            have HJ1 := Lib.hid (findFrom_succ zs x m)
            by_cases g1 : 0 < nth zs (m + 1)
            · by_cases g2 : sum (zs.take (m + 1)) ≤ x
              · go_wp2
                go_quiet (fail)
                go_wp2
                go_ret3
                refine ⟨hext.drewN _, ?_⟩
                rw [HF.out, ← HJ.out, HJ1.out, if_pos ⟨g1, g2⟩]; rfl
              · go_wp2
                go_round
                case rel => exact ⟨m, by omega, by go_num, Lib.hid (by rw [← HJ.out, HJ1.out, if_neg (by omega)])⟩
                case measure => simp [intOf]
            · go_wp2
              go_round
              case rel => exact ⟨m, by omega, by go_num, Lib.hid (by rw [← HJ.out, HJ1.out, if_neg (by omega)])⟩
              case measure => simp [intOf]
          · go_wp2
            go_ret3
            refine ⟨hext, ?_⟩
            have : j = 0 := by omega
            subst this
            rw [HF.out, ← HJ.out]; rfl

end Go.Proofs.Ytiicflmkhchmlaa
