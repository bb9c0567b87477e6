/-
  The reference's Before, walked.
-/
import Derived.Test.YthkfplkajlanoaaWKeys
namespace Go.Proofs.Ythkfplkajlanoaa
open Go.RowKit

/-- Does the k-th key come ahead of the i-th one, in order? -/
def comesB (ks : List (List Int)) (k i : Int) : Bool := aheadB (keyAt ks k) (keyAt ks i) || (decide (k < i) && !aheadB (keyAt ks i) (keyAt ks k))

theorem comesB_lt (ks : List (List Int)) (k i : Int) : comesB ks k i = true ↔ Srt.Lt (cfK ks) k i := by
  have h := cmpK_anti (keyAt ks k) (keyAt ks i)
  unfold comesB aheadB Srt.Lt cfK
  simp only [Bool.or_eq_true, Bool.and_eq_true, decide_eq_true_eq, Bool.not_eq_true', decide_eq_false_iff_not]
  omega

/-- How many come ahead, of the first ones. -/
def comesN (ks : List (List Int)) (i : Int) (j : Nat) : Nat := (Srt.ids j).countP (fun k => comesB ks k i)
theorem comesN_succ (ks : List (List Int)) (i : Int) (j : Nat) : comesN ks i (j + 1) = comesN ks i j + if comesB ks j i then 1 else 0 := by
  unfold comesN Srt.ids
  rw [List.range_succ, List.map_append, List.countP_append]
  simp [List.countP_cons]
theorem comesN_le (ks : List (List Int)) (i : Int) (j : Nat) : comesN ks i j ≤ j := by
  have := List.countP_le_length (p := fun k => comesB ks k i) (l := Srt.ids j)
  rwa [Srt.ids_len] at this

set_option maxRecDepth 100000 in
set_option maxHeartbeats 4000000 in
theorem before_any (ms : List KM) (a : Option Addr) (c : Nat) (i : Nat) (w : World) (hk : KeysAt ms a w) (hl : ms.length ≤ 9223372036854775807) (hi : i < ms.length) :
    Calls Try.prog 12 #[.slice a ms.length c, .int .i64 i] w fun e w' => e = .returned (.int .i64 (comesN (keysOf ms) i ms.length : Nat)) ∧ ∃ n, w' = w.drewN n := by
  have HK := Lib.hid hk; clear hk
  go_enter Try.func12, Try.ntmps12
  go_wp2_with fail
  go_loopw [5, 9] (fun u v wr => ∃ j : Nat, j ≤ ms.length ∧ v = .int .i64 (j : Int) ∧ u = .int .i64 (comesN (keysOf ms) i j : Nat) ∧ Hid (∃ n, wr = w.drewN n)) (fun _ v _ => ms.length - (intOf v).toNat)
  case atStart => exact ⟨0, Nat.zero_le _, rfl, rfl, Lib.hid ⟨0, rfl⟩⟩
  case round =>
    obtain ⟨j, hj, rfl, rfl, HW⟩ := hrel
    by_cases hlt : j < ms.length
    · have hwx : Ext w wr := by obtain ⟨n, rfl⟩ := HW.out; exact (Ext.refl w).drewN n
      obtain ⟨b, off, rfl, e1, i1, l1⟩ := (HK.out.ext hwx).at hlt
      obtain ⟨b', off', hbb, e2, i2, l2⟩ := (HK.out.ext hwx).at hi
      simp only [Option.some.injEq, Addr.mk.injEq, and_true] at hbb
      obtain ⟨rfl, rfl⟩ := hbb
      have HS := Lib.hid (comesN_succ (keysOf ms) i j)
      have HB : Hid (comesB (keysOf ms) j i = (aheadB (nthD km0 ms j).l (nthD km0 ms i).l || (decide ((j : Int) < i) && !aheadB (nthD km0 ms i).l (nthD km0 ms j).l))) := Lib.hid (by unfold comesB; rw [keyAt_of, keyAt_of])
      have hle := comesN_le (keysOf ms) i j
      generalize comesN (keysOf ms) i j = n1 at *
      generalize comesB (keysOf ms) j i = cb at *
      generalize nthD km0 ms j = m1 at *
      generalize nthD km0 ms i = m2 at *
      obtain ⟨k1, a1, c1⟩ := m1
      obtain ⟨k2, a2, c2⟩ := m2
      simp only at e1 e2 i1 i2 l1 l2 HB
      have hA := fun n => ahead_any k1 k2 a1 c1 a2 c2 (wr.drewN n) (i1.ext ((Ext.refl _).drewN n)) (i2.ext ((Ext.refl _).drewN n)) l1 l2
      have hB := fun n => ahead_any k2 k1 a2 c2 a1 c1 (wr.drewN n) (i2.ext ((Ext.refl _).drewN n)) (i1.ext ((Ext.refl _).drewN n)) l2 l1
      generalize aheadB k1 k2 = x1 at *
      generalize aheadB k2 k1 = x2 at *
      have HA := Lib.hid hA
      have HBB := Lib.hid hB
      clear hA hB i1 i2 hwx
      cases x1 with
      | true =>
        have HN : Hid (comesN (keysOf ms) i (j + 1) = n1 + 1) := Lib.hid (by rw [HS.out, HB.out]; rfl)
        go_wp2_with fail
        go_quiet ((first | (go_at_call 7; with_reducible exact Calls.quiet_of (HA.out _))))
        go_wp2_with fail
        go_roundw
        case rel => exact ⟨j + 1, by omega, by go_num, by rw [HN.out]; go_num, Lib.hid (by obtain ⟨n, hn⟩ := HW.out; rw [hn]; exact ⟨n + nq, World.drewN_drewN _ _ _⟩)⟩
        case measure => simp [intOf]; omega
      | false =>
        by_cases hji : j < i
        · have hjz : (j : Int) < (i : Int) := by omega
          have hjd : decide (j < i) = true := decide_eq_true hji
          have hjd2 : decide ((j : Int) < (i : Int)) = true := decide_eq_true hjz
          cases x2 with
          | true =>
            have HN : Hid (comesN (keysOf ms) i (j + 1) = n1) := Lib.hid (by rw [HS.out, HB.out]; simp)
            go_wp2_with fail
            go_quiet ((first | (go_at_call 7; with_reducible exact Calls.quiet_of (HA.out _)) | (go_at_call 7; with_reducible exact Calls.quiet_of (HBB.out _))))
            go_wp2_with fail
            go_roundw
            case rel => exact ⟨j + 1, by omega, by go_num, by rw [HN.out], Lib.hid (by obtain ⟨n, hn⟩ := HW.out; rw [hn]; exact ⟨n + nq, World.drewN_drewN _ _ _⟩)⟩
            case measure => simp [intOf]; omega
          | false =>
            have HN : Hid (comesN (keysOf ms) i (j + 1) = n1 + 1) := Lib.hid (by rw [HS.out, HB.out, hjd2]; rfl)
            go_wp2_with fail
            go_quiet ((first | (go_at_call 7; with_reducible exact Calls.quiet_of (HA.out _)) | (go_at_call 7; with_reducible exact Calls.quiet_of (HBB.out _))))
            go_wp2_with fail
            go_roundw
            case rel => exact ⟨j + 1, by omega, by go_num, by rw [HN.out]; go_num, Lib.hid (by obtain ⟨n, hn⟩ := HW.out; rw [hn]; exact ⟨n + nq, World.drewN_drewN _ _ _⟩)⟩
            case measure => simp [intOf]; omega
        · have hjd : decide (j < i) = false := decide_eq_false hji
          have hjd2 : decide ((j : Int) < (i : Int)) = false := decide_eq_false (by omega)
          have HN : Hid (comesN (keysOf ms) i (j + 1) = n1) := Lib.hid (by rw [HS.out, HB.out, hjd2]; rfl)
          go_wp2_with fail
          go_quiet ((first | (go_at_call 7; with_reducible exact Calls.quiet_of (HA.out _)) | (go_at_call 7; with_reducible exact Calls.quiet_of (HBB.out _))))
          go_wp2_with fail
          go_roundw
          case rel => exact ⟨j + 1, by omega, by go_num, by rw [HN.out], Lib.hid (by obtain ⟨n, hn⟩ := HW.out; rw [hn]; exact ⟨n + nq, World.drewN_drewN _ _ _⟩)⟩
          case measure => simp [intOf]; omega
    · obtain rfl : j = ms.length := by omega
      go_wp2_with fail
      go_ret
      exact ⟨rfl, HW.out⟩

end Go.Proofs.Ythkfplkajlanoaa
