/-
  The reference's Has, and the law's own example.
-/
import Derived.Test.YtiicflmkhchmlaaWFind
namespace Go.Proofs.Ytiicflmkhchmlaa
open Go.RowKit

theorem ret_bool {a b : Bool} (h : a = b) : Ending.returned (.bool a) = .returned (.bool b) := by rw [h]

set_option maxHeartbeats 400000 in
theorem has_any (a : Option Addr) (cap : Nat) (zs : List Int) (n i : Nat) (x : Int) (w : World) (hn : n = zs.length) (hs : IsInts .i64 w a zs) (hi : i < zs.length) (hlen : zs.length ≤ 1000000)
    (hb : ∀ j, j ≤ zs.length → 0 ≤ sum (zs.take j) ∧ sum (zs.take j) ≤ 65536) :
    Calls Try.prog 10 #[.slice a n cap, .int .i64 i, .int .i64 x] w fun e w' => e = .returned (.bool (has zs i x)) ∧ ∃ m, w' = w.drewN m := by
  have hbe := fun w' hs' => begin_any a cap zs n i w' hn hs' (by omega) hlen hb
  have hE : ∀ m, IsInts .i64 (w.drewN m) a zs := fun m => hs.ext ((Ext.refl w).drewN m)
  have b0 := hb i (by omega)
  have b1 := hb (i + 1) (by omega)
  rw [sum_take_succ zs i hi] at b1
  obtain ⟨b, off, rfl, hc⟩ := hs.at hi
  have hin : i < n := by omega
  have HN := Lib.hid hn; clear hn
  have HS := Lib.hid hE; clear hE
  have HB := Lib.hid hb; clear hb
  have HC := Lib.hid hbe; clear hbe hs
  by_cases g1 : sum (zs.take i) ≤ x
  · have d1 : decide (sum (zs.take i) ≤ x) = true := by simpa using g1
    go_enter Try.func10, Try.ntmps10
    go_wp2
    go_quiet ((go_at_call 8; exact Calls.quiet_of_same (HC.out _ (HS.out 0))))
    go_wp2
    go_ret
    exact ⟨ret_bool (by simp [has, g1]), _, rfl⟩
  · have d1 : decide (sum (zs.take i) ≤ x) = false := by simpa using g1
    go_enter Try.func10, Try.ntmps10
    go_wp2
    go_quiet ((go_at_call 8; exact Calls.quiet_of_same (HC.out _ (HS.out 0))))
    go_wp2
    go_ret
    exact ⟨ret_bool (by simp [has]; omega), _, rfl⟩

set_option maxHeartbeats 400000 in
theorem three_any (w : World) : Calls Try.prog 5 #[] w fun e w' => e = .returned (.bool true) ∧ Ext w w' := by
  have hz : ∀ i, i < [(2 : Int), 0, 3].length → -9223372036854775808 ≤ nth [2, 0, 3] i ∧ nth [2, 0, 3] i ≤ 9223372036854775807 := by
    intro i hi
    match i, hi with
    | 0, _ => decide
    | 1, _ => decide
    | 2, _ => decide
  have HZ := Lib.hid hz; clear hz
  have hs : ∀ (w : World) (g : Nat), w.cell? ⟨g, 0, none⟩ = some (.int .i64 2) → w.cell? ⟨g, 1, none⟩ = some (.int .i64 0) → w.cell? ⟨g, 2, none⟩ = some (.int .i64 3) → IsInts .i64 w (some ⟨g, 0, none⟩) [2, 0, 3] := by
    intro w g h0 h1 h2
    refine .inr ⟨g, 0, rfl, ?_⟩
    intro i hi
    match i, hi with
    | 0, _ => exact h0
    | 1, _ => exact h1
    | 2, _ => exact h2
  have HS := Lib.hid hs; clear hs
  go_enter Try.func5, Try.ntmps5
  go_wp2_with fail
  refine (lay_any _ _ [2, 0, 3] 3 _ rfl (HS.out _ _ (by simp) (by simp) (by simp)) (by decide) HZ.out).mono ?_
  rintro e w1 ⟨hext, ⟨hw, rfl⟩ | ⟨_, a', cap', rfl, hi⟩⟩
  · exact absurd (by decide) hw
  go_wp2_with fail
  refine (find_any 4 _ _ [2, 0, 3] 3 _ rfl (HS.out _ _ (by simp) (by simp) (by simp)) (by decide) HZ.out (by decide) (by decide)).mono ?_
  rintro e w2 ⟨hext2, rfl⟩
  have hi2 := (hi.ext ((Ext.refl _).alloc _)).ext hext2
  obtain ⟨b, off, rfl, c0⟩ := hi2.at (i := 1) (by decide)
  obtain ⟨b', off', hbb, c1⟩ := hi2.at (i := 2) (by decide)
  obtain ⟨rfl, rfl⟩ : b = b' ∧ off = off' := by simpa using hbb
  have e1 : nth (begins [2, 0, 3] 0) 1 = 2 := by decide
  have e2 : nth (begins [2, 0, 3] 0) 2 = 2 := by decide
  rw [e1] at c0; rw [e2] at c1
  have f1 : find [2, 0, 3] 4 = (2, 2, true) := by decide
  have f2 : sum [2, 0, 3] = 5 := by decide
  rw [f1, f2]
  clear e1 e2 f1 f2 hbb
  go_wp2
  go_ret
  exact ⟨rfl, (((Ext.refl _).alloc _).trans hext).trans (((Ext.refl _).alloc _).trans hext2)⟩

end Go.Proofs.Ytiicflmkhchmlaa
