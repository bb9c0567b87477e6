/-
  KeyOrders, walked.
-/
import Derived.Test.YthkfplkajlanoaaWKnown
namespace Go.Proofs.Ythkfplkajlanoaa
open Go.RowKit

set_option maxRecDepth 100000 in
set_option maxHeartbeats 4000000 in
theorem orders_any (hS : SymAll) (ms : List KM) (a : Option Addr) (cap : Nat) (w : World) (hk : KeysAt ms a w) (hl : ms.length ≤ 9223372036854775807) :
    Calls Try.prog 4 #[.slice a ms.length cap] w fun e w' => e = .returned (.bool true) ∧ Ext w w' := by
  have HK := Lib.hid hk
  have hkn : ∀ w : World, Calls Try.prog 6 #[] w fun e w' => e = .returned (.bool true) ∧ Ext w w' := fun w => known_any hS w
  have HKN := Lib.hid hkn
  have HS := Lib.hid hS
  clear hk hkn hS
  by_cases h100 : ms.length ≤ 100
  · have d1 : decide ((ms.length : Int) > 100) = false := decide_eq_false (by omega)
    go_enter Try.func4, Try.ntmps4
    go_wp2_with fail
    clear d1
    go_loopw [13] (fun v wr => ∃ i : Nat, i ≤ ms.length ∧ v = .int .i64 (i : Int) ∧ Hid (wr = w)) (fun v _ => ms.length - (intOf v).toNat)
    case atStart => exact ⟨0, Nat.zero_le _, rfl, Lib.hid rfl⟩
    case round =>
      obtain ⟨i, hi, rfl, HW⟩ := hrel
      have hkw : KeysAt ms a wr := by rw [HW.out]; exact HK.out
      by_cases hlt : i < ms.length
      · obtain ⟨b, off, rfl, e1, i1, l1⟩ := hkw.at hlt
        clear hkw i1
        generalize nthD km0 ms i = m1 at *
        obtain ⟨k1, a1, c1⟩ := m1
        simp only at e1 l1
        by_cases h1 : k1.length ≤ 100
        · have d1 : decide ((k1.length : Int) > 100) = false := decide_eq_false (by omega)
          go_wp2_with fail
          go_roundw
          case rel => exact ⟨i + 1, by omega, by go_num, HW⟩
          case measure => simp [intOf]; omega
        · have d1 : decide ((k1.length : Int) > 100) = true := decide_eq_true (by omega)
          go_wp2_with fail
          refine (HKN.out _).mono ?_
          rintro e w1 ⟨rfl, hx⟩
          have HX : Hid (Ext w w1) := Lib.hid (by rw [HW.out] at hx; exact hx)
          clear hx
          go_wp2_with fail
          go_ret
          exact ⟨rfl, HX.out⟩
      · obtain rfl : i = ms.length := by omega
        have HO := Lib.hid (order_any HS.out ms a cap wr hkw (by omega))
        have HKW := Lib.hid hkw
        clear hkw
        go_wp2_with fail
        refine HO.out.mono ?_
        rintro e w1 ⟨rfl, o, hs, hp, hx, hio⟩
        have HP := Lib.hid (fun i (hi : i < ms.length) => comes_pos hs hp i hi)
        have HOL : Hid (o.length = ms.length) := Lib.hid (by rw [hp.length_eq, Srt.ids_len])
        have HX1 : Hid (Ext w w1) := Lib.hid (by rw [HW.out] at hx; exact hx)
        have HIO := Lib.hid hio
        have HK1 := Lib.hid (HKW.out.ext hx)
        clear hs hp hx hio HO HKW
        generalize wr.heap.size + 1 = B at *
        have d2 : ((ms.length : Int) != (ms.length : Int)) = false := by simp
        go_wp2_with fail
        go_loopw [33] (fun v wr => ∃ i : Nat, i ≤ ms.length ∧ v = .int .i64 (i : Int) ∧ Hid (Ext w1 wr)) (fun v _ => ms.length - (intOf v).toNat)
        case atStart => exact ⟨0, Nat.zero_le _, rfl, Lib.hid (Ext.refl _)⟩
        case round =>
          obtain ⟨i, hi, rfl, HWi⟩ := hrel
          by_cases hlt2 : i < ms.length
          · have HB := Lib.hid (before_any ms a cap i wr (HK1.out.ext HWi.out) hl hlt2)
            obtain ⟨hk1, hk2⟩ := HP.out i hlt2
            rw [HOL.out] at hk1
            go_wp2_with fail
            refine HB.out.mono ?_
            rintro e w2 ⟨rfl, n, rfl⟩
            have HW2 := Lib.hid (HWi.out.drewN n)
            clear HB HWi
            generalize wr.drewN n = w2 at *
            generalize comesN (keysOf ms) i ms.length = k at *
            obtain ⟨b', f', hbb, c1⟩ := (HIO.out.ext HW2.out).at (i := k) (by rw [HOL.out]; exact hk1)
            simp only [Option.some.injEq, Addr.mk.injEq, and_true] at hbb
            obtain ⟨rfl, rfl⟩ := hbb
            rw [hk2, Nat.zero_add] at c1
            clear hk2
            have t1 : decide ((k : Int) < 0) = false := decide_eq_false (by omega)
            have t2 : decide ((k : Int) ≥ (ms.length : Int)) = false := decide_eq_false (by omega)
            have t3 : ((i : Int) != (i : Int)) = false := by simp
            go_wp2_with fail
            go_roundw
            case rel => exact ⟨i + 1, by omega, by go_num, HW2⟩
            case measure => simp [intOf]; omega
          · obtain rfl : i = ms.length := by omega
            go_wp2_with fail
            refine (HKN.out _).mono ?_
            rintro e w3 ⟨rfl, hx⟩
            have HX := Lib.hid (HX1.out.trans (HWi.out.trans hx))
            clear hx
            go_wp2_with fail
            go_ret
            exact ⟨rfl, HX.out⟩
  · have d1 : decide ((ms.length : Int) > 100) = true := decide_eq_true (by omega)
    go_enter Try.func4, Try.ntmps4
    go_wp2_with fail
    refine (HKN.out _).mono ?_
    rintro e w1 ⟨rfl, hx⟩
    have HX := Lib.hid hx; clear hx
    go_wp2_with fail
    go_ret
    exact ⟨rfl, HX.out⟩

end Go.Proofs.Ythkfplkajlanoaa
