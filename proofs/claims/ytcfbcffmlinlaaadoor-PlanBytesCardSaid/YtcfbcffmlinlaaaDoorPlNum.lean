/-
  plan.number, walked.
-/
import Derived.Test.YtcfbcffmlinlaaaDoorPlGive
import Derived.Test.YtcfbcffmlinlaaaDoorPlPure
import Derived.Deep.DeepCutAuto
import Derived.Deep.CutBlock
import Derived.Lib.ConvBytes
namespace Go.Proofs.YtcfbcffmlinlaaaDoor
open Go.RowKit

theorem bytes_ext (w : World) (e : TypeId) (s : ByteArray) : Ext w (Lib.bytesWorld w e s) :=
  ⟨rfl, rfl, rfl, by rw [Lib.bytesWorld_size]; omega, fun k hk => Lib.bytesWorld_at_old w e s k hk⟩

theorem drop_byte (l : List UInt8) (i : Nat) (h : i < l.length) : l.drop i = l.getD i 0 :: l.drop (i + 1) := by
  rw [List.drop_eq_getElem_cons h, List.getD_eq_getElem?_getD, List.getElem?_eq_getElem h]; rfl

/-- A number that is read, as Go has it. -/
def numV : Option Nat → Value
  | some v => .tuple #[.int .u64 v, .bool true]
  | none => .tuple #[.int .u64 0, .bool false]

set_option maxRecDepth 100000 in
set_option maxHeartbeats 2000000 in
theorem pnumber_any (l : List UInt8) (w : World) (hl : l.length ≤ 1000000) :
    Calls Tryd.prog 55 #[.string (St l)] w fun e w' => e = .returned (numV (Pl.numP l)) ∧ Ext w w' := by
  by_cases h0 : l = []
  · subst h0
    go_enter Tryd.func55, Tryd.ntmps55
    go_wp2_with fail
    go_ret2
    exact ⟨rfl, Ext.refl _⟩
  · obtain ⟨c, t, rfl⟩ : ∃ c t, l = c :: t := by
      cases l with
      | nil => exact absurd rfl h0
      | cons c t => exact ⟨c, t, rfl⟩
    have hl2 : t.length ≤ 1000000 := by simp at hl; omega
    by_cases hz : 0 < t.length ∧ c.toNat = 48
    · obtain ⟨hz1, hz2⟩ := hz
      have HN : Hid (Pl.numP (c :: t) = none) := Lib.hid (by
        unfold Pl.numP
        rw [if_pos (.inr ⟨by simp; omega, by
          show some c = some 48
          rw [show c = 48 from UInt8.toNat_inj.1 hz2]⟩)])
      have hb : ((c.toNat : Int) == 48) = true := beq_iff_eq.2 (by omega)
      have hd : decide ((0 : Int) < (t.length : Int)) = true := decide_eq_true (by omega)
      clear hz2
      go_enter Tryd.func55, Tryd.ntmps55
      go_wp2_with fail
      go_ret2
      exact ⟨by rw [HN.out]; rfl, Ext.refl _⟩
    · have HN : Hid (Pl.numP (c :: t) = Pl.numGo (c :: t) 0) := Lib.hid (by
        unfold Pl.numP
        rw [if_neg]
        rintro (h | ⟨h1, h2⟩)
        · cases h
        · have h2 : some c = some 48 := h2
          simp only [Option.some.injEq] at h2
          exact hz ⟨by simp at h1; omega, by rw [h2]; rfl⟩)
      have hcv := Lib.run_convert_string_bytes (P := Tryd.prog) w 9 43 5 (St (c :: t)) Tryd.underlying9 Tryd.underlying43 Tryd.underlying5
      have hcell := fun j (hj : j < (St (c :: t)).size) => Lib.bytesWorld_cell w 5 (St (c :: t)) j hj
      have hx := bytes_ext w 5 (St (c :: t))
      rw [St_size] at hcv
      have HCELL := Lib.hid hcell
      have HX := Lib.hid hx
      have HCV := Lib.hid hcv
      have hcases : t.length = 0 ∨ (0 < t.length ∧ c.toNat ≠ 48) := by omega
      clear hcell hx hcv hz
      go_enter Tryd.func55, Tryd.ntmps55
      generalize grownCap w (St (c :: t)).size 0 5 = cap at *
      have hcv := HCV.out
      generalize Lib.bytesWorld w 5 (St (c :: t)) = W1 at *
      rcases hcases with h1 | ⟨h1, h2⟩
      rotate_left
      have hb : ((c.toNat : Int) == 48) = false := beq_eq_false_iff_ne.2 (by omega)
      have hd : decide ((0 : Int) < (t.length : Int)) = true := decide_eq_true (by omega)
      have hdn : decide (0 < t.length) = true := decide_eq_true (by omega)
      rotate_left
      have hd : decide ((0 : Int) < (t.length : Int)) = false := decide_eq_false (by omega)
      have hdn : decide (0 < t.length) = false := decide_eq_false (by omega)
      have hnn : ¬ 0 < t.length := by omega
      have hni : ¬ (0 : Int) < (t.length : Int) := by omega
      have H1 := Lib.hid h1
      clear h1
      all_goals
        go_wp2_with fail
        clear hcv hd hdn
        try clear hnn hni
        have hll : (c :: t).length = t.length + 1 := by simp
        have HLL := Lib.hid hll; clear hll
        generalize hlg : c :: t = l at *
        have HLG := Lib.hid hlg; clear hlg
        go_loopw [4, 23] (fun u v wr => ∃ i x : Nat, i ≤ t.length + 1 ∧ v = .int .i64 (i : Int) ∧ u = .int .u64 (x : Int) ∧ (x : Int) ≤ 18446744073709551615 ∧ Hid (Pl.numGo l 0 = Pl.numGo (l.drop i) x) ∧ Hid (wr = W1)) (fun _ v _ => t.length + 1 - (intOf v).toNat)
        case atStart => exact ⟨0, 0, Nat.zero_le _, rfl, rfl, by omega, Lib.hid rfl, Lib.hid rfl⟩
        case round =>
          obtain ⟨i, x, hi, rfl, rfl, hx, HG, HW⟩ := hrel
          by_cases hlt : i < t.length + 1
          · have hc : wr.cell? ⟨w.heap.size, i, none⟩ = some (.int .u8 ((l.getD i 0).toNat : Int)) := by
              have := HCELL.out i (by rw [St_size, HLL.out]; exact hlt)
              rw [St_list] at this
              rw [HW.out]; exact this
            have HS : Hid (Pl.numGo (l.drop i) x = if Tx.isD (l.getD i 0) = true ∧ x * 10 + Tx.dv (l.getD i 0) ≤ 18446744073709551615 then Pl.numGo (l.drop (i + 1)) (x * 10 + Tx.dv (l.getD i 0)) else none) := Lib.hid (by rw [drop_byte l i (by rw [HLL.out]; exact hlt), Pl.numGo_cons])
            generalize l.getD i 0 = d at *
            unfold Tx.isD Tx.dv at HS
            have hdn := UInt8.toNat_lt d
            generalize d.toNat = n at *
            clear d
            by_cases hA : n < 48
            · have HS2 : Hid (Pl.numGo (l.drop i) x = none) := Lib.hid (by rw [HS.out, if_neg]; simp; omega)
              clear HS
              have hd1 : decide ((n : Int) < 48) = true := decide_eq_true (by omega)
              go_wp2_with fail
              go_ret2
              exact ⟨by rw [HLG.out, HN.out, HG.out, HS2.out]; rfl, by rw [HW.out]; exact HX.out⟩
            · by_cases hB : 57 < n
              · have HS2 : Hid (Pl.numGo (l.drop i) x = none) := Lib.hid (by rw [HS.out, if_neg]; simp; omega)
                clear HS
                have hd1 : decide ((n : Int) < 48) = false := decide_eq_false (by omega)
                have hd2 : decide ((57 : Int) < (n : Int)) = true := decide_eq_true (by omega)
                go_wp2_with fail
                go_ret2
                exact ⟨by rw [HLG.out, HN.out, HG.out, HS2.out]; rfl, by rw [HW.out]; exact HX.out⟩
              · have hd1 : decide ((n : Int) < 48) = false := decide_eq_false (by omega)
                have hd2 : decide ((57 : Int) < (n : Int)) = false := decide_eq_false (by omega)
                have hA1 : 48 ≤ n := by omega
                have hA2 : n ≤ 57 := by omega
                clear hA hB hdn
                go_wp2_with fail
                · have hC : (18446744073709551615 - ((n : Int) - 48)) / 10 < (x : Int) := by assumption
                  go_ret2
                  exact ⟨by rw [HLG.out, HN.out, HG.out, HS.out, if_neg (by simp; omega)]; rfl, by rw [HW.out]; exact HX.out⟩
                · have hC : (x : Int) ≤ (18446744073709551615 - ((n : Int) - 48)) / 10 := by assumption
                  go_roundw
                  case rel => exact ⟨i + 1, x * 10 + (n - 48), by omega, by go_num, by go_num, by omega, Lib.hid (by rw [HG.out, HS.out, if_pos (by simp; omega)]), HW⟩
                  case measure => simp [intOf]; omega
          · obtain rfl : i = t.length + 1 := by omega
            have HE : Hid (Pl.numGo (l.drop (t.length + 1)) x = some x) := Lib.hid (by rw [List.drop_of_length_le (by rw [HLL.out]; omega)]; rfl)
            go_wp2_with fail
            go_ret2
            exact ⟨by rw [HLG.out, HN.out, HG.out, HE.out]; rfl, by rw [HW.out]; exact HX.out⟩

end Go.Proofs.YtcfbcffmlinlaaaDoor
