/-
  text's reader: digits, numbers.
-/
import Derived.Test.YtkhagpnnkfglbaaTxRd
namespace Go.Proofs.Ytkhagpnnkfglbaa
open Go.RowKit

theorem vi {k : IntKind} {a b : Int} (h : a = b) : Value.int k a = Value.int k b := by rw [h]

set_option maxRecDepth 100000 in
set_option maxHeartbeats 2000000 in
theorem rdigits_rd (M : Nat) (w : World) (R : Nat) (s : List UInt8) (r : Tx.Rd) (hM0 : 9 ≤ M) (hM : M ≤ 18446744073709551615) (h : RdAt w R s r) (hs : s.length ≤ 1000000) (m : Int) (hm : m = M) :
    Calls Try.prog 43 #[.pointer (some ⟨R, 0, none⟩), .int .u64 m] w (RdPost w R s (Tx.digitsF M r).2 (.int .u64 (Tx.digitsF M r).1)) := by
  have hm0 : 9 ≤ m := by omega
  have hm1 : m ≤ 18446744073709551615 := by omega
  have HMM := Lib.hid hm; clear hm
  have hR := h.lt
  by_cases hbad : r.bad = true
  · have HE := Lib.hid (Tx.digitsF_bad M r hbad)
    have HR := Lib.hid h
    obtain ⟨k, hk, hr, hb⟩ := h
    rw [hbad] at hb
    have c2 := hb.cell 2 rfl
    clear hb hr hbad
    go_enter Try.func43, Try.ntmps43
    go_wp2_with fail
    go_ret
    rw [HE.out]
    exact ⟨rfl, HR.out, Keep.refl R w⟩
  · have hbad' : r.bad = false := by simpa using hbad
    have HE : Hid (Tx.digitsF M r = ((Tx.digGo M r.rest 0 0).1, ⟨(Tx.digGo M r.rest 0 0).2.1, (Tx.digGo M r.rest 0 0).2.2⟩)) := Lib.hid (by unfold Tx.digitsF; rw [if_neg hbad])
    have HR : Hid (RdAt w R s ⟨r.rest, false⟩) := Lib.hid (by rw [← hbad']; exact h)
    have hl : r.rest.length ≤ s.length := by
      obtain ⟨k, hk, hr, hb⟩ := h
      rw [hr, List.length_drop]; omega
    obtain ⟨k, hk, hr, hb⟩ := h
    rw [hbad'] at hb
    have c2 := hb.cell 2 rfl
    clear hb hr hbad hbad' hk
    go_enter Try.func43, Try.ntmps43
    go_wp2_with fail
    clear c2
    go_loopw [5, 6] (fun x n wr => ∃ (cur : List UInt8) (nn xx : Nat), xx ≤ M ∧ nn + cur.length = r.rest.length ∧ x = .int .u64 xx ∧ n = .int .i64 nn ∧ Hid (Tx.digGo M r.rest 0 0 = Tx.digGo M cur nn xx) ∧ Hid (RdAt wr R s ⟨cur, false⟩) ∧ Hid (Keep R w wr)) (fun _ n _ => 2000000 - (intOf n).toNat)
    case atStart => exact ⟨r.rest, 0, 0, by omega, by omega, rfl, rfl, Lib.hid rfl, HR, Lib.hid (Keep.refl R w)⟩
    case round =>
      obtain ⟨cur, nn, xx, hxM, hnl, rfl, rfl, HG, HRc, HK⟩ := hrel
      have hxm : (xx : Int) ≤ m := by rw [HMM.out]; omega
      have hnn : nn ≤ 1000000 := by omega
      have hcl : cur.length + nn ≤ 1000000 := by omega
      have HNL := Lib.hid hnl
      have HXM := Lib.hid hxM
      clear hnl hxM
      have hnx := next_any wr R s ⟨cur, false⟩ HRc.out hs
      have HNX := Lib.hid hnx; clear hnx
      cases cur with
      | nil =>
        have HNX : Hid (Calls Try.prog 44 #[.pointer (some ⟨R, 0, none⟩)] wr fun e w' => e = .returned (.int .u8 0) ∧ Ext wr w') := HNX
        have HD := Lib.hid (show Tx.digGo M [] nn xx = (xx, [], nn == 0) from rfl)
        go_wp2_with fail
        refine HNX.out.mono ?_
        rintro e w1 ⟨rfl, hx⟩
        have HX1 := Lib.hid hx; clear hx
        have HR1 := Lib.hid (HRc.out.ext HX1.out)
        obtain ⟨k, hk, hr, hb⟩ := HR1.out
        have c2 := hb.cell 2 rfl
        have f2 := hb.fz 2
        have hlt1 := hb.lt
        have HB := Lib.hid hb
        have HRr := Lib.hid hr
        clear hb hr
        by_cases h0 : nn = 0
        · have h0' : ((nn : Int) == 0) = true := by rw [beq_iff_eq]; omega
          have H0 := Lib.hid h0; clear h0
          go_wp2_with fail
          go_ret
          rw [HE.out, HG.out, HD.out, H0.out]
          exact ⟨rfl, ⟨k, hk, HRr.out, HB.out.set 2 (.bool true)⟩, HK.out.trans ((Keep.of_ext HX1.out).trans (keep_set R 2 w1 _))⟩
        · have h0' : ((nn : Int) == 0) = false := by rw [beq_eq_false_iff_ne]; omega
          have H0 := Lib.hid h0; clear h0
          go_wp2_with fail
          go_ret
          rw [HE.out, HG.out, HD.out, beq_eq_false_iff_ne.2 H0.out]
          exact ⟨rfl, ⟨k, hk, HRr.out, HB.out⟩, HK.out.trans (Keep.of_ext HX1.out)⟩
      | cons c t =>
        have HNX : Hid (Calls Try.prog 44 #[.pointer (some ⟨R, 0, none⟩)] wr fun e w' => e = .returned (.int .u8 c.toNat) ∧ Ext wr w') := HNX
        have HD := Lib.hid (Tx.digGo_cons M c t nn xx)
        have hc255 : c.toNat < 256 := c.toNat_lt
        by_cases hd : Tx.isD c = true
        · have hd2 : 48 ≤ c.toNat ∧ c.toNat ≤ 57 := by unfold Tx.isD at hd; simpa using hd
          have HV : Hid (Tx.dv c = c.toNat - 48) := Lib.hid rfl
          have HIS := Lib.hid hd; clear hd
          obtain ⟨y, hy⟩ : ∃ y : Int, y = (c.toNat : Int) := ⟨_, rfl⟩
          have hy0 : 48 ≤ y := by omega
          have hy1 : y ≤ 57 := by omega
          have hy2 : c.toNat = y.toNat := by omega
          have HY2 := Lib.hid hy2
          have HY := Lib.hid hy
          rw [← hy] at HNX
          clear hy hy2 hd2 hc255
          by_cases hbd : (0 < nn ∧ xx = 0) ∨ M < 10 * xx + Tx.dv c
          · have HD2 : Hid (Tx.digGo M r.rest 0 0 = (0, c :: t, true)) := Lib.hid (by rw [HG.out, HD.out, if_pos HIS.out, if_pos hbd])
            have fin : ∀ w1 : World, Ext wr w1 → ∀ (w2 : World), w2 = w1.setCell ⟨R, 2, none⟩ (.bool true) → RdPost w R s (Tx.digitsF M r).2 (.int .u64 (Tx.digitsF M r).1) (.returned (.int .u64 0)) w2 := by
              rintro w1 hx w2 rfl
              rw [HE.out, HD2.out]
              obtain ⟨k, hk, hr, hb⟩ := HRc.out.ext hx
              exact ⟨rfl, ⟨k, hk, hr, hb.set 2 (.bool true)⟩, HK.out.trans ((Keep.of_ext hx).trans (keep_set R 2 w1 _))⟩
            have FIN := Lib.hid fin; clear fin
            have hcases : (0 < nn ∧ xx = 0) ∨ (¬ (0 < nn ∧ xx = 0) ∧ m / 10 < xx) ∨ (¬ (0 < nn ∧ xx = 0) ∧ (xx : Int) ≤ m / 10 ∧ m - (y - 48) < xx * 10) := by
              have h1 := HV.out
              have h2 := HMM.out
              have h3 := HY2.out
              by_cases hz : 0 < nn ∧ xx = 0
              · exact .inl hz
              · have := hbd.resolve_left hz
                by_cases hq : m / 10 < xx
                · exact .inr (.inl ⟨hz, hq⟩)
                · exact .inr (.inr ⟨hz, by omega, by omega⟩)
            clear hbd HD HG HD2
            rcases hcases with ⟨hz1, hz2⟩ | ⟨hz, hq⟩ | ⟨hz, hq, hq2⟩
            · have hz2' : ((xx : Int) == 0) = true := by rw [beq_iff_eq]; omega
              clear hz2
              go_wp2_with fail
              refine HNX.out.mono ?_
              rintro e w1 ⟨rfl, hx⟩
              have HX1 := Lib.hid hx; clear hx
              obtain ⟨k, hk, hr, hb⟩ := HRc.out.ext HX1.out
              have c2 := hb.cell 2 rfl
              have f2 := hb.fz 2
              have hlt1 := hb.lt
              clear hb hr
              go_wp2_with fail
              go_ret
              exact FIN.out w1 HX1.out _ rfl
            · by_cases hn0 : 0 < nn
              · have hz2' : ((xx : Int) == 0) = false := by rw [beq_eq_false_iff_ne]; omega
                clear hz
                go_wp2_with fail
                refine HNX.out.mono ?_
                rintro e w1 ⟨rfl, hx⟩
                have HX1 := Lib.hid hx; clear hx
                obtain ⟨k, hk, hr, hb⟩ := HRc.out.ext HX1.out
                have c2 := hb.cell 2 rfl
                have f2 := hb.fz 2
                have hlt1 := hb.lt
                clear hb hr
                go_wp2_with fail
                go_ret
                exact FIN.out w1 HX1.out _ rfl
              · clear hz
                go_wp2_with fail
                refine HNX.out.mono ?_
                rintro e w1 ⟨rfl, hx⟩
                have HX1 := Lib.hid hx; clear hx
                obtain ⟨k, hk, hr, hb⟩ := HRc.out.ext HX1.out
                have c2 := hb.cell 2 rfl
                have f2 := hb.fz 2
                have hlt1 := hb.lt
                clear hb hr
                go_wp2_with fail
                go_ret
                exact FIN.out w1 HX1.out _ rfl
            · by_cases hn0 : 0 < nn
              · have hz2' : ((xx : Int) == 0) = false := by rw [beq_eq_false_iff_ne]; omega
                clear hz
                go_wp2_with fail
                refine HNX.out.mono ?_
                rintro e w1 ⟨rfl, hx⟩
                have HX1 := Lib.hid hx; clear hx
                obtain ⟨k, hk, hr, hb⟩ := HRc.out.ext HX1.out
                have c2 := hb.cell 2 rfl
                have f2 := hb.fz 2
                have hlt1 := hb.lt
                clear hb hr
                go_wp2_with fail
                go_ret
                exact FIN.out w1 HX1.out _ rfl
              · clear hz
                go_wp2_with fail
                refine HNX.out.mono ?_
                rintro e w1 ⟨rfl, hx⟩
                have HX1 := Lib.hid hx; clear hx
                obtain ⟨k, hk, hr, hb⟩ := HRc.out.ext HX1.out
                have c2 := hb.cell 2 rfl
                have f2 := hb.fz 2
                have hlt1 := hb.lt
                clear hb hr
                go_wp2_with fail
                go_ret
                exact FIN.out w1 HX1.out _ rfl
          · have HD2 : Hid (Tx.digGo M r.rest 0 0 = Tx.digGo M t (nn + 1) (10 * xx + Tx.dv c)) := Lib.hid (by rw [HG.out, HD.out, if_pos HIS.out, if_neg hbd])
            have hq : (xx : Int) ≤ m / 10 ∧ (xx : Int) * 10 ≤ m - (y - 48) := by
              have h1 := HV.out
              have h2 := HMM.out
              have h3 := HY2.out
              omega
            have HQ : Hid (10 * xx + Tx.dv c ≤ M ∧ (xx : Int) * 10 + (y - 48) = ((10 * xx + Tx.dv c : Nat) : Int)) := Lib.hid (by
              have h1 := HV.out
              have h2 := HMM.out
              have h3 := HY2.out
              omega)
            obtain ⟨hq1, hq2⟩ := hq
            have hz : ¬ (0 < nn ∧ xx = 0) := fun h => hbd (.inl h)
            clear hbd HD HG
            have fin : ∀ w1 : World, Ext wr w1 → ∀ k : Nat, k ≤ s.length → c :: t = s.drop k → Blk w1 R #[.string (St s), .int .i64 k, .bool false] 61 → RdAt (w1.setCell ⟨R, 1, none⟩ (.int .i64 ((k : Int) + 1))) R s ⟨t, false⟩ ∧ Keep R w (w1.setCell ⟨R, 1, none⟩ (.int .i64 ((k : Int) + 1))) := fun w1 hx k hk hr hb => by
              have hkl : k < s.length := by
                rcases Nat.lt_or_ge k s.length with h | h
                · exact h
                · rw [List.drop_eq_nil_iff.2 h] at hr; cases hr
              rw [List.drop_eq_getElem_cons hkl] at hr
              refine ⟨⟨k + 1, by omega, (List.cons.inj hr).2, ?_⟩, HK.out.trans ((Keep.of_ext hx).trans (keep_set R 1 w1 _))⟩
              exact hb.set 1 (.int .i64 ((k : Int) + 1))
            have FIN := Lib.hid fin; clear fin
            by_cases hn0 : 0 < nn
            · have hz2' : ((xx : Int) == 0) = false := by rw [beq_eq_false_iff_ne]; omega
              clear hz
              go_wp2_with fail
              refine HNX.out.mono ?_
              rintro e w1 ⟨rfl, hx⟩
              have HX1 := Lib.hid hx; clear hx
              obtain ⟨k, hk, hr, hb⟩ := HRc.out.ext HX1.out
              have c1 := hb.cell 1 rfl
              have f1 := hb.fz 1
              have hlt1 := hb.lt
              have HF := Lib.hid (FIN.out w1 HX1.out k hk hr hb)
              clear hb hr
              go_wp2_with fail
              go_roundw
              case rel => exact ⟨t, nn + 1, 10 * xx + Tx.dv c, HQ.out.1, by have := HNL.out; simp at this; omega, vi HQ.out.2, by go_num, HD2, Lib.hid HF.out.1, Lib.hid HF.out.2⟩
              case measure => simp [intOf]; omega
            · clear hz
              go_wp2_with fail
              refine HNX.out.mono ?_
              rintro e w1 ⟨rfl, hx⟩
              have HX1 := Lib.hid hx; clear hx
              obtain ⟨k, hk, hr, hb⟩ := HRc.out.ext HX1.out
              have c1 := hb.cell 1 rfl
              have f1 := hb.fz 1
              have hlt1 := hb.lt
              have HF := Lib.hid (FIN.out w1 HX1.out k hk hr hb)
              clear hb hr
              go_wp2_with fail
              go_roundw
              case rel => exact ⟨t, nn + 1, 10 * xx + Tx.dv c, HQ.out.1, by have := HNL.out; simp at this; omega, vi HQ.out.2, by go_num, HD2, Lib.hid HF.out.1, Lib.hid HF.out.2⟩
              case measure => simp [intOf]; omega
        · have HD2 : Hid (Tx.digGo M r.rest 0 0 = (xx, c :: t, nn == 0)) := Lib.hid (by rw [HG.out, HD.out, if_neg hd])
          have hd2 : (c.toNat : Int) < 48 ∨ 57 < (c.toNat : Int) := by
            by_cases h1 : c.toNat < 48
            · exact .inl (by omega)
            · right
              rcases Nat.lt_or_ge 57 c.toNat with h | h
              · omega
              · exfalso; apply hd; unfold Tx.isD; simp; omega
          have hy255 : (c.toNat : Int) < 256 := by omega
          clear hd HD HG hc255
          generalize (c.toNat : Int) = y at *
          have fin : ∀ w1 : World, Ext wr w1 → RdAt w1 R s ⟨c :: t, false⟩ ∧ Keep R w w1 := fun w1 hx => ⟨HRc.out.ext hx, HK.out.trans (Keep.of_ext hx)⟩
          have FIN := Lib.hid fin; clear fin
          have finT : nn = 0 → ∀ w1 : World, Ext wr w1 → RdPost w R s (Tx.digitsF M r).2 (.int .u64 (Tx.digitsF M r).1) (.returned (.int .u64 xx)) (w1.setCell ⟨R, 2, none⟩ (.bool true)) := fun h0 w1 hx => by
            rw [HE.out, HD2.out, h0]
            obtain ⟨k, hk, hr, hb⟩ := HRc.out.ext hx
            exact ⟨rfl, ⟨k, hk, hr, hb.set 2 (.bool true)⟩, HK.out.trans ((Keep.of_ext hx).trans (keep_set R 2 w1 _))⟩
          have finF : nn ≠ 0 → ∀ w1 : World, Ext wr w1 → RdPost w R s (Tx.digitsF M r).2 (.int .u64 (Tx.digitsF M r).1) (.returned (.int .u64 xx)) w1 := fun h0 w1 hx => by
            rw [HE.out, HD2.out, beq_eq_false_iff_ne.2 h0]
            exact ⟨rfl, HRc.out.ext hx, HK.out.trans (Keep.of_ext hx)⟩
          have FT := Lib.hid finT; clear finT
          have FF := Lib.hid finF; clear finF
          rcases hd2 with hd2 | hd2
          · by_cases h0 : nn = 0
            · have h0' : ((nn : Int) == 0) = true := by rw [beq_iff_eq]; omega
              have H0 := Lib.hid h0; clear h0
              go_wp2_with fail
              refine HNX.out.mono ?_
              rintro e w1 ⟨rfl, hx⟩
              have HX1 := Lib.hid hx; clear hx
              obtain ⟨k, hk, hr, hb⟩ := HRc.out.ext HX1.out
              have c2 := hb.cell 2 rfl
              have f2 := hb.fz 2
              have hlt1 := hb.lt
              clear hb hr
              go_wp2_with fail
              go_ret
              exact FT.out H0.out w1 HX1.out
            · have h0' : ((nn : Int) == 0) = false := by rw [beq_eq_false_iff_ne]; omega
              have H0 := Lib.hid h0; clear h0
              go_wp2_with fail
              refine HNX.out.mono ?_
              rintro e w1 ⟨rfl, hx⟩
              have HX1 := Lib.hid hx; clear hx
              go_wp2_with fail
              go_ret
              exact FF.out H0.out w1 HX1.out
          · by_cases h0 : nn = 0
            · have h0' : ((nn : Int) == 0) = true := by rw [beq_iff_eq]; omega
              have H0 := Lib.hid h0; clear h0
              go_wp2_with fail
              refine HNX.out.mono ?_
              rintro e w1 ⟨rfl, hx⟩
              have HX1 := Lib.hid hx; clear hx
              obtain ⟨k, hk, hr, hb⟩ := HRc.out.ext HX1.out
              have c2 := hb.cell 2 rfl
              have f2 := hb.fz 2
              have hlt1 := hb.lt
              clear hb hr
              go_wp2_with fail
              go_ret
              exact FT.out H0.out w1 HX1.out
            · have h0' : ((nn : Int) == 0) = false := by rw [beq_eq_false_iff_ne]; omega
              have H0 := Lib.hid h0; clear h0
              go_wp2_with fail
              refine HNX.out.mono ?_
              rintro e w1 ⟨rfl, hx⟩
              have HX1 := Lib.hid hx; clear hx
              go_wp2_with fail
              go_ret
              exact FF.out H0.out w1 HX1.out

end Go.Proofs.Ytkhagpnnkfglbaa
