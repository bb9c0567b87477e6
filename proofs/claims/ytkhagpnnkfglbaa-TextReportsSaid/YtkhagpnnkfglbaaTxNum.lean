/-
  text's numbers; the reference's.
-/
import Derived.Test.YtkhagpnnkfglbaaTxDig
import Derived.Laws.BytesArg
namespace Go.Proofs.Ytkhagpnnkfglbaa
open Go.RowKit

theorem neg_wrap (x : Int) (h0 : -9223372036854775808 ≤ x) (h1 : x < 0) : IntKind.u64.wrap (-IntKind.u64.wrap x) = -x := by
  simp [IntKind.wrap, IntKind.bits, IntKind.signed]; omega

theorem one_run (w : World) (v : Int) (g : Nat) (hg : g = w.heap.size) (n : Nat) :
    (convert 74 9 (.slice (some ⟨g, 0, none⟩) 1 n)).run Try.prog (w.alloc (.cells #[.int .u8 v] 5)) = .ok (.string (St [UInt8.ofNat v.toNat])) (w.alloc (.cells #[.int .u8 v] 5)) := by
  subst hg
  have hc : ∀ i, i < 1 → (w.alloc (.cells #[.int .u8 v] 5)).cell? ⟨w.heap.size, 0 + i, none⟩ = some (.int .u8 ([v].getD i 0)) := fun i hi => by
    obtain rfl : i = 0 := by omega
    rw [World.cell?_alloc_at _ _ _ _ rfl]
    rfl
  exact run_convert_bytes_arg (P := Try.prog) (w.alloc (.cells #[.int .u8 v] 5)) 74 5 Try.underlying74 Try.underlying5 w.heap.size 0 1 n [v] rfl hc 9 Try.underlying9

set_option maxHeartbeats 400000 in
theorem num_int_any (x : Int) (w : World) (h0 : -9223372036854775808 ≤ x) (h1 : x ≤ 9223372036854775807) :
    Calls Try.prog 18 #[.int .i64 x] w fun e w' => e = .returned (.string (St (Tx.numT x))) ∧ w' = w := by
  by_cases h : x < 0
  · have hd := digs_len 20 (-x).toNat
    have HT := Lib.hid (Tx.numT_neg h)
    go_enter Try.func18, Try.ntmps18
    go_wp2_with fail
    rw [neg_wrap x h0 h]
    refine (digits_any (-x) _ (by omega) (by omega)).mono ?_
    rintro e w' ⟨rfl, rfl⟩
    go_wp2_with fail
    go_ret
    exact ⟨ret_str (by rw [HT.out]), rfl⟩
  · have HT := Lib.hid (Tx.numT_pos (x := x) (by omega))
    go_enter Try.func18, Try.ntmps18
    go_wp2_with fail
    refine (digits_any x _ (by omega) (by omega)).mono ?_
    rintro e w' ⟨rfl, rfl⟩
    go_wp2_with fail
    go_ret
    exact ⟨ret_str (by rw [HT.out]), rfl⟩

set_option maxHeartbeats 400000 in
theorem num_err_any (x : Int) (w : World) (h0 : -9223372036854775808 ≤ x) (h1 : x ≤ 9223372036854775807) :
    Calls Try.prog 19 #[.int .i64 x] w fun e w' => e = .returned (.string (St (Tx.numT x))) ∧ w' = w := by
  by_cases h : x < 0
  · have hd := digs_len 20 (-x).toNat
    have HT := Lib.hid (Tx.numT_neg h)
    go_enter Try.func19, Try.ntmps19
    go_wp2_with fail
    rw [neg_wrap x h0 h]
    refine (digits_any (-x) _ (by omega) (by omega)).mono ?_
    rintro e w' ⟨rfl, rfl⟩
    go_wp2_with fail
    go_ret
    exact ⟨ret_str (by rw [HT.out]), rfl⟩
  · have HT := Lib.hid (Tx.numT_pos (x := x) (by omega))
    go_enter Try.func19, Try.ntmps19
    go_wp2_with fail
    refine (digits_any x _ (by omega) (by omega)).mono ?_
    rintro e w' ⟨rfl, rfl⟩
    go_wp2_with fail
    go_ret
    exact ⟨ret_str (by rw [HT.out]), rfl⟩

set_option maxHeartbeats 400000 in
theorem num_u64_any (x : Int) (w : World) (h0 : 0 ≤ x) (h1 : x ≤ 18446744073709551615) :
    Calls Try.prog 20 #[.int .u64 x] w fun e w' => e = .returned (.string (St (Tx.numT x))) ∧ w' = w := by
  have HT := Lib.hid (Tx.numT_pos (x := x) (by omega))
  go_enter Try.func20, Try.ntmps20
  go_wp2_with fail
  refine (digits_any x _ (by omega) (by omega)).mono ?_
  rintro e w' ⟨rfl, rfl⟩
  go_wp2_with fail
  go_ret
  exact ⟨ret_str (by rw [HT.out]), rfl⟩

theorem pow20 : (10 : Int) ^ 20 = 100000000000000000000 := by decide
theorem pow_step (k : Nat) (h : k < 20) : (10 : Int) ^ (20 - k) = 10 * 10 ^ (20 - (k + 1)) := by
  rw [show 20 - k = (20 - (k + 1)) + 1 by omega, Int.pow_succ]; omega

set_option maxHeartbeats 400000 in
theorem rdigits_any (x : Int) (w : World) (h0 : 0 ≤ x) (h1 : x ≤ 18446744073709551615) :
    Calls Try.prog 24 #[.int .u64 x] w fun e w' => e = .returned (.string (St (Tx.digs 20 x.toNat))) ∧ Ext w w' := by
  have hx20 : x < 10 ^ (20 - 0) := by rw [show (20 - 0 : Nat) = 20 from rfl, pow20]; omega
  have HX20 := Lib.hid hx20; clear hx20
  go_enter Try.func24, Try.ntmps24
  go_wp2
  go_loopw [0, 3, 4] (fun a s i wr => ∃ (k : Nat) (y : Int) (t : List UInt8), k < 20 ∧ i = .int .i64 k ∧ 0 ≤ y ∧ y ≤ 18446744073709551615 ∧ a = .int .u64 y ∧ s = .string (St t) ∧ t.length ≤ 21 ∧ Hid (y < 10 ^ (20 - k)) ∧ Hid (Tx.digs 20 x.toNat = Tx.digs 20 y.toNat ++ t) ∧ Ext w wr) (fun _ _ i _ => 20 - (intOf i).toNat)
  case atStart => exact ⟨0, x, [], by omega, rfl, h0, h1, rfl, rfl, by simp, HX20, Lib.hid (by simp), Ext.refl w⟩
  case round =>
    obtain ⟨k, y, t, hk, rfl, hy0, hy1, rfl, rfl, ht, HY, HD, HX⟩ := hrel
    have hl : (Tx.digs 20 x.toNat).length ≤ 21 := digs_len 20 _
    have ht20 : t.length ≤ 20 := by
      have := HD.out
      rw [this, List.length_append] at hl
      have := List.length_pos_iff.2 (Tx.digs_ne 20 y.toNat)
      omega
    have hr := fun (w : World) => one_run w (48 + y % 10) w.heap.size rfl 1
    have HXR := Lib.hid HX; clear HX
    by_cases hz : y / 10 = 0
    · have hz' : (y / 10 == 0) = true := beq_iff_eq.2 hz
      have HZ := Lib.hid hz; clear hz
      have HF : Hid (Tx.digs 20 x.toNat = UInt8.ofNat (48 + y % 10).toNat :: t) := Lib.hid (by
        have hz := HZ.out
        rw [HD.out, Tx.digs_small (x := y.toNat) (by omega), show (48 + y % 10).toNat = 48 + y.toNat by omega]
        rfl)
      go_wp2
      go_ret
      exact ⟨ret_str (by rw [HF.out]), HXR.out.alloc _⟩
    · have hz' : (y / 10 == 0) = false := beq_eq_false_iff_ne.2 hz
      have hy10 : 10 ≤ y := by omega
      have HP : Hid (k + 1 < 20) := Lib.hid (by
        rcases Nat.lt_or_ge (k + 1) 20 with h | h
        · exact h
        · have h1 := HY.out
          rw [show 20 - k = 1 by omega] at h1
          have : (10 : Int) ^ 1 = 10 := by decide
          omega)
      have HY2 : Hid (y / 10 < 10 ^ (20 - (k + 1))) := Lib.hid (by
        have h1 := HY.out
        rw [pow_step k hk] at h1
        omega)
      have HF : Hid (Tx.digs 20 x.toNat = Tx.digs 20 (y / 10).toNat ++ ([UInt8.ofNat (48 + y % 10).toNat] ++ t)) := Lib.hid (by
        rw [HD.out, Tx.digs_big (x := y.toNat) (by omega) (Tx.big21 (by omega)), List.append_assoc, show y.toNat / 10 = (y / 10).toNat by omega, show (48 + y % 10).toNat = 48 + y.toNat % 10 by omega]
        rfl)
      clear hz
      go_wp2
      go_roundw
      case rel => exact ⟨k + 1, y / 10, _, HP.out, by go_num, by omega, by omega, rfl, rfl, by simp; omega, HY2, HF, HXR.out.alloc _⟩
      case measure => simp [intOf]; omega

set_option maxHeartbeats 400000 in
theorem rint_any (x : Int) (w : World) (h0 : -9223372036854775808 ≤ x) (h1 : x ≤ 9223372036854775807) :
    Calls Try.prog 23 #[.int .i64 x] w fun e w' => e = .returned (.string (St (Tx.numT x))) ∧ Ext w w' := by
  by_cases h : x < 0
  · have hd := digs_len 20 (-(x + 1) + 1).toNat
    have HT := Lib.hid (Tx.numT_neg h)
    have HE := Lib.hid (show (-(x + 1) + 1).toNat = (-x).toNat by omega)
    go_enter Try.func23, Try.ntmps23
    go_wp2_with fail
    refine (rdigits_any (-(x + 1) + 1) _ (by omega) (by omega)).mono ?_
    rintro e w' ⟨rfl, hx⟩
    have HX := Lib.hid hx; clear hx
    go_wp2_with fail
    go_ret
    exact ⟨ret_str (by rw [HT.out, HE.out]), HX.out⟩
  · have HT := Lib.hid (Tx.numT_pos (x := x) (by omega))
    go_enter Try.func23, Try.ntmps23
    go_wp2_with fail
    refine (rdigits_any x _ (by omega) (by omega)).mono ?_
    rintro e w' ⟨rfl, hx⟩
    have HX := Lib.hid hx; clear hx
    go_wp2_with fail
    go_ret
    exact ⟨ret_str (by rw [HT.out]), HX.out⟩

end Go.Proofs.Ytkhagpnnkfglbaa
