/-
  script's reader: the next number.
-/
import Derived.Test.YtcfbcffmlinlaaaDoorScrTwo2
namespace Go.Proofs.YtcfbcffmlinlaaaDoor
open Go.RowKit

theorem pNum_byte (i : Nat) (w acc : Int) (l : List Int) : pNum i w acc l = match pByte l with
    | none => none
    | some (x, r) => if (9 ≤ i ∧ 1 < x) ∨ (x = 0 ∧ i ≠ 0) then none else if x ≤ 127 then some (acc + x * w, r) else pNum (i + 1) (w * 128) (acc + x % 128 * w) r := by
  cases l with
  | nil => rfl
  | cons x r => rw [pNum]; rfl

theorem bits_or_comm (k : IntKind) (x y : Int) : bits .or k x y = bits .or k y x := by
  simp only [bits, BitVec.or_comm]

theorem weight_two (i : Nat) : weight i = 2 ^ (7 * i) := by
  unfold weight
  rw [Int.pow_mul]; rfl

theorem num_or (i : Nat) (acc x : Int) (hi : i ≤ 8 ∨ (i ≤ 9 ∧ x ≤ 1)) (h0 : 0 ≤ acc) (h1 : acc < weight i) (x0 : 0 ≤ x) (x1 : x ≤ 255) :
    bits .or .u64 acc (IntKind.u64.wrap (x % 128 * 2 ^ (7 * i))) = acc + x % 128 * weight i ∧ acc + x % 128 * weight i < weight (i + 1) ∧ 0 ≤ acc + x % 128 * weight i := by
  have hm : 0 ≤ x % 128 ∧ x % 128 < 128 := ⟨Int.emod_nonneg _ (by decide), Int.emod_lt_of_pos _ (by decide)⟩
  have hp := weight_pos i
  have hnn : 0 ≤ x % 128 * weight i := Int.mul_nonneg hm.1 (Int.le_of_lt hp)
  have hup : x % 128 * weight i ≤ 127 * weight i := Int.mul_le_mul_of_nonneg_right (by omega) (Int.le_of_lt hp)
  have hlt : x % 128 * weight i < 18446744073709551616 := by
    rcases hi with hi | ⟨hi, hx⟩
    · have := weight_mono hi
      have e8 : weight 8 = 72057594037927936 := by decide
      omega
    · have := weight_mono hi
      rw [weight_nine] at this
      have : x % 128 * weight i ≤ 1 * weight i := Int.mul_le_mul_of_nonneg_right (by omega) (Int.le_of_lt hp)
      omega
  have hacc : acc < 18446744073709551616 := by
    have := weight_mono (show i ≤ 9 by omega)
    rw [weight_nine] at this
    omega
  refine ⟨?_, by rw [weight_succ]; omega, by omega⟩
  rw [← weight_two, wraps_u64 _ hnn (by omega), bits_or_comm]
  rw [bits_join .u64 64 (by decide) wraps_u64 (7 * i) (x % 128 * weight i) acc hnn (by rw [weight_two]; exact Int.mul_emod_left _ _) (by omega) h0 (by rw [← weight_two]; exact h1) (by omega)]
  omega

set_option maxHeartbeats 400000 in
theorem number_read (w : World) (R : Nat) (l : List Int) (ba : Option Addr) (bc j : Nat) (h : Rd w R l ba bc j) (hb : ∀ b ∈ l, byteOk b) (hl : l.length ≤ 9223372036854775807) (h11 : l ≠ [1, 1]) :
    Calls Tryd.prog 51 #[.pointer (some ⟨R, 0, none⟩)] w (ReadPost w R l ba bc (pNum 0 1 0 (l.drop j)) (retInt .u64)) := by
  have HB := Lib.hid hb
  go_enter Tryd.func51, Tryd.ntmps51
  go_wp2_with fail
  go_loopw [3, 4] (fun v s wr => ∃ (i q : Nat) (acc : Int), v = .int .u64 acc ∧ s = .int .u64 (7 * (i : Int)) ∧ i ≤ 9 ∧ 0 ≤ acc ∧ Hid (acc < weight i) ∧ Hid (pNum 0 1 0 (l.drop j) = pNum i (weight i) acc (l.drop q)) ∧ Keep R w wr ∧ Rd wr R l ba bc q) (fun _ s _ => 100 - (intOf s).toNat)
  case atStart => exact ⟨0, j, 0, rfl, rfl, by omega, by omega, Lib.hid (by rw [weight_zero]; omega), Lib.hid rfl, Keep.refl R w, h⟩
  case round =>
    clear h hb
    obtain ⟨i, q, acc, rfl, rfl, hi, ha0, HA, HP, hk, hr⟩ := hrel
    have HC := Lib.hid (byte_any wr R l ba bc q hr HB.out hl)
    have HK := Lib.hid hk; clear hk
    clear hr
    go_wp2_with fail
    refine HC.out.mono ?_
    rintro e w1 ⟨hk1, ⟨hn, p, r, rfl, hbad⟩ | ⟨x, j1, hs, rfl, hr1⟩⟩
    · refine ⟨rfl, HK.out.trans hk1, .inl ⟨?_, p, r, rfl, hbad⟩⟩
      rw [HP.out, pNum_byte, hn]
    · obtain ⟨hj1, -, -, x0, x1⟩ := byte_next hs hr1.le HB.out
      have hj1a : 1 ≤ j1 := by omega
      have hle := hr1.le
      clear hj1
      have g1 := hr1.c1
      have hlt := hr1.lt
      have HR1 := Lib.hid hr1; clear hr1
      have HK1 := Lib.hid (HK.out.trans hk1); clear hk1
      have HPP : Hid (pNum 0 1 0 (l.drop j) = if (9 ≤ i ∧ 1 < x) ∨ (x = 0 ∧ i ≠ 0) then none else if x ≤ 127 then some (acc + x * weight i, l.drop j1) else pNum (i + 1) (weight i * 128) (acc + x % 128 * weight i) (l.drop j1)) :=
        Lib.hid (by rw [HP.out, pNum_byte, hs])
      clear hs HC
      by_cases c1 : 9 ≤ i ∧ 1 < x
      · obtain ⟨ca, cb⟩ := c1
        have d1 : decide (7 * (i : Int) < 63) = false := decide_eq_false (by omega)
        have d2 : decide (x ≤ 1) = false := decide_eq_false (by omega)
        go_wp2_with fail
        refine (insist_no _ _ _).mono ?_
        rintro e w2 ⟨rfl, rfl⟩
        refine ⟨rfl, HK1.out, .inl ⟨?_, Bad.mk l _ _ (by omega) (by omega) (by decide) (fun h => absurd h h11)⟩⟩
        rw [HPP.out, if_pos (.inl ⟨ca, cb⟩)]
      · by_cases c2 : x = 0 ∧ i ≠ 0
        · obtain ⟨rfl, cb⟩ := c2
          have hz : (7 * (i : Int) == 0) = false := by simp; omega
          clear c1
          have hi9 : i ≤ 8 ∨ 9 ≤ i := by omega
          rcases hi9 with hi9 | hi9
          · have d1 : decide (7 * (i : Int) < 63) = true := decide_eq_true (by omega)
            go_wp2_with fail
            refine (insist_ok _ _ _).mono ?_
            rintro e w2 ⟨rfl, rfl⟩
            go_wp2_with fail
            refine (insist_no _ _ _).mono ?_
            rintro e w2 ⟨rfl, rfl⟩
            refine ⟨rfl, HK1.out, .inl ⟨?_, Bad.mk l _ _ (by omega) (by omega) (by decide) (fun h => absurd h h11)⟩⟩
            rw [HPP.out, if_pos (Or.inr (by first | exact ⟨rfl, cb⟩ | exact ⟨trivial, cb⟩))]
          · have d1 : decide (7 * (i : Int) < 63) = false := decide_eq_false (by omega)
            go_wp2_with fail
            refine (insist_ok _ _ _).mono ?_
            rintro e w2 ⟨rfl, rfl⟩
            go_wp2_with fail
            refine (insist_no _ _ _).mono ?_
            rintro e w2 ⟨rfl, rfl⟩
            refine ⟨rfl, HK1.out, .inl ⟨?_, Bad.mk l _ _ (by omega) (by omega) (by decide) (fun h => absurd h h11)⟩⟩
            rw [HPP.out, if_pos (Or.inr (by first | exact ⟨rfl, cb⟩ | exact ⟨trivial, cb⟩))]
        · have HO := Lib.hid (num_or i acc x (by omega) ha0 HA.out x0 x1)
          have HPN := Lib.hid (fun hx : 127 < x => (show pNum 0 1 0 (l.drop j) = pNum (i + 1) (weight (i + 1)) (acc + x % 128 * weight i) (l.drop j1) by rw [HPP.out, if_neg (by omega), if_neg (by omega), weight_succ]))
          have b1 := u64_and127 x x0 (by omega)
          rcases (show (i ≤ 8 ∧ x ≠ 0) ∨ (i = 0 ∧ x = 0) ∨ (9 ≤ i ∧ x = 1) by omega) with ⟨hi8, hx⟩ | ⟨hi0, hx⟩ | ⟨hi9, hx⟩
          · have hxb : (x != 0) = true := by simpa using hx
            have d1 : decide (7 * (i : Int) < 63) = true := decide_eq_true (by omega)
            clear c1 c2
            go_wp2_with fail
            refine (insist_ok _ _ _).mono ?_
            rintro e w2 ⟨rfl, rfl⟩
            go_wp2_with fail
            refine (insist_ok _ _ _).mono ?_
            rintro e w2 ⟨rfl, rfl⟩
            go_wp2_with fail
            · go_ret
              refine ⟨HK1.out, .inr ⟨acc + x * weight i, j1, ?_, ?_, HR1.out⟩⟩
              · rw [HPP.out, if_neg (by omega), if_pos (by omega)]
              · have e := HO.out.1
                have e2 : x % 128 * weight i = x * weight i := by rw [show x % 128 = x by omega]
                rw [e2] at e
                exact ret_int e
            · go_roundw
              case rel => exact ⟨i + 1, j1, _, rfl, by go_num, by omega, by rw [HO.out.1]; exact HO.out.2.2, Lib.hid (by rw [HO.out.1]; exact HO.out.2.1), Lib.hid (by rw [HO.out.1]; exact HPN.out (by omega)), HK1.out, HR1.out⟩
              case measure => simp [intOf]; omega
          · have hxb : (x != 0) = false := by rw [hx]; rfl
            have hib : (7 * (i : Int) == 0) = true := by rw [hi0]; rfl
            have d1 : decide (7 * (i : Int) < 63) = true := decide_eq_true (by omega)
            have hx1 : x ≤ 0 := by omega
            have hi1 : i ≤ 0 := by omega
            have d3 : decide (x ≤ 127) = true := decide_eq_true (by omega)
            clear hx hi0
            clear c1 c2
            go_wp2_with fail
            refine (insist_ok _ _ _).mono ?_
            rintro e w2 ⟨rfl, rfl⟩
            go_wp2_with fail
            refine (insist_ok _ _ _).mono ?_
            rintro e w2 ⟨rfl, rfl⟩
            go_wp2_with fail
            go_ret
            refine ⟨HK1.out, .inr ⟨acc + x * weight i, j1, ?_, ?_, HR1.out⟩⟩
            · rw [HPP.out, if_neg (by omega), if_pos (by omega)]
            · have e := HO.out.1
              have e2 : x % 128 * weight i = x * weight i := by rw [show x % 128 = x by omega]
              rw [e2] at e
              exact ret_int e
          · have hxb : (x != 0) = true := by rw [hx]; rfl
            have d1 : decide (7 * (i : Int) < 63) = false := decide_eq_false (by omega)
            have hx1 : x ≤ 1 := by omega
            have hx2 : 1 ≤ x := by omega
            have d3 : decide (x ≤ 127) = true := decide_eq_true (by omega)
            clear hx
            clear c1 c2
            go_wp2_with fail
            refine (insist_ok _ _ _).mono ?_
            rintro e w2 ⟨rfl, rfl⟩
            go_wp2_with fail
            refine (insist_ok _ _ _).mono ?_
            rintro e w2 ⟨rfl, rfl⟩
            go_wp2_with fail
            go_ret
            refine ⟨HK1.out, .inr ⟨acc + x * weight i, j1, ?_, ?_, HR1.out⟩⟩
            · rw [HPP.out, if_neg (by omega), if_pos (by omega)]
            · have e := HO.out.1
              have e2 : x % 128 * weight i = x * weight i := by rw [show x % 128 = x by omega]
              rw [e2] at e
              exact ret_int e

end Go.Proofs.YtcfbcffmlinlaaaDoor
