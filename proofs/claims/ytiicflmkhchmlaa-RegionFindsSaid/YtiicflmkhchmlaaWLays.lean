/-
  The law RegionLays: it answers true, and nothing that was there turns.
-/
import Derived.Test.YtiicflmkhchmlaaWThree
namespace Go.Proofs.Ytiicflmkhchmlaa
open Go.RowKit

theorem Ext.below {w w' : World} (h : Ext w w') : Below w.heap.size w w' := h

set_option maxHeartbeats 400000 in
theorem lays_walk (a : Option Addr) (cap : Nat) (zs : List Int) (w : World) (hs : IsInts .i64 w a zs)
    (hz : ∀ i, i < zs.length → -9223372036854775808 ≤ nth zs i ∧ nth zs i ≤ 9223372036854775807) :
    Calls Try.prog 3 #[.slice a zs.length cap] w fun e w' => e = .returned (.bool true) ∧ Ext w w' := by
  by_cases hbig : 1000 < zs.length
  · go_enter Try.func3, Try.ntmps3
    go_wp2_with (go_at_call 5; refine (three_any _).mono ?_; rintro e w' ⟨rfl, hext⟩)
    go_ret
    exact ⟨rfl, hext⟩
  · have hlay := lay_any a cap zs _ w rfl hs (by omega) hz
    have HW := fun w hs => Lib.hid (wrong_any a cap zs _ w rfl hs (by omega) hz)
    have HS := Lib.hid hs; clear hs
    have HZ := Lib.hid hz; clear hz
    have HL := Lib.hid hlay; clear hlay
    go_enter Try.func3, Try.ntmps3
    go_wp2_with fail
    refine HL.out.mono ?_
    rintro e w1 ⟨hext, ⟨hw, rfl⟩ | ⟨hw, a', cap', rfl, hi⟩⟩
    · have H0 := Lib.hid hw; clear hw
      go_wp2_with fail
      refine ((HW _ (HS.out.ext hext)).out).mono ?_
      rintro e w' ⟨rfl, rfl⟩
      have hne : (wrong zs 0 != 0) = true := by simpa using H0.out
      go_wp2_with (go_at_call 5; refine (three_any _).mono ?_; rintro e w' ⟨rfl, hext2⟩)
      go_ret
      exact ⟨rfl, hext.trans hext2⟩
    · have H0 := Lib.hid hw; clear hw
      have hb : ∀ j, j ≤ zs.length → 0 ≤ sum (zs.take j) ∧ sum (zs.take j) ≤ 65536 := fun j hj => by
        have := right_bounds zs 0 (by omega) (by omega) H0.out j hj; simpa using this
      have hbe := fun w' i hi (hs' : IsInts .i64 w' a zs) => Lib.hid (begin_any a cap zs _ i w' rfl hs' hi (by omega) hb)
      have HB := Lib.hid hb; clear hb
      have hls : zs.take zs.length = zs := List.take_length
      have HLS := Lib.hid hls; clear hls
      go_wp2_with fail
      refine ((HW _ (HS.out.ext hext)).out).mono ?_
      rintro e w' ⟨rfl, rfl⟩
      rw [H0.out]
      go_wp2_with fail
      refine ((hbe _ _ (Nat.le_refl _) (HS.out.ext hext)).out).mono ?_
      rintro e w' ⟨rfl, rfl⟩
      rw [HLS.out]
      go_wp2_with fail
      go_loopw [7, 56] (fun _ k wr => ∃ j : Nat, j ≤ zs.length ∧ k = .int .i64 j ∧ Ext w wr ∧ IsInts .i64 wr a' (begins zs 0)) (fun _ k _ => zs.length - (intOf k).toNat)
      case atStart => exact ⟨0, Nat.zero_le _, rfl, hext, hi⟩
      case round =>
        obtain ⟨j, hj, rfl, hxr, hir⟩ := hrel
        by_cases hlt : j < zs.length
        · have hbl : (begins zs 0).length = zs.length := begins_length zs 0
          have HBL := Lib.hid hbl; clear hbl
          obtain ⟨b', off', rfl, hc'⟩ := hir.at (i := j) (by rw [HBL.out]; exact hlt)
          rw [begins_getD zs j hlt] at hc'
          have hbj := fun w' (hs' : IsInts .i64 w' a zs) => (hbe w' j hj hs').out
          have hE : ∀ m, IsInts .i64 (wr.drewN m) a zs := fun m => HS.out.ext (hxr.drewN m)
          have HE := Lib.hid hE; clear hE
          have HJ := Lib.hid hbj; clear hbj hbe
          have HC := Lib.hid hir; clear hir
          clear hi
          go_wp2
          go_quiet ((go_at_call 8; exact Calls.quiet_of_same (HJ.out _ (HE.out 0))))
          go_wp2
          go_roundw
          case rel => exact ⟨j + 1, by omega, by go_num, hxr.drewN _, HC.out.ext ((Ext.refl _).drewN _)⟩
          case measure => simp [intOf]; omega
        · go_wp2_with (go_at_call 5; refine (three_any _).mono ?_; rintro e w' ⟨rfl, hext2⟩)
          go_ret
          exact ⟨rfl, hxr.trans hext2⟩

end Go.Proofs.Ytiicflmkhchmlaa
