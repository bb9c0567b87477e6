/-
  The reference's line: digits, numbers.
-/
import Derived.Test.YtkhagpnnkfglbaaTxLn
import Derived.Test.YtkhagpnnkfglbaaTxRd3
import Derived.IntWalk
namespace Go.Proofs.Ytkhagpnnkfglbaa
open Go.RowKit

theorem extract_St (s : List UInt8) (a b : Nat) : (St s).extract a b = St ((s.drop a).take (b - a)) := by
  apply ByteArray.ext
  show ((St s).extract a b).data = ((s.drop a).take (b - a)).toArray
  rw [ByteArray.data_extract]
  simp [St, List.extract_eq_take_drop]

set_option maxRecDepth 100000 in
set_option maxHeartbeats 2000000 in
theorem ldigits_any (M : Nat) (w : World) (R : Nat) (s : List UInt8) (r : Tx.Rd) (hM0 : 9 ≤ M) (hM : M ≤ 18446744073709551615) (h : LnAt w R s r) (hs : s.length ≤ 1000000) :
    Calls Try.prog 34 #[.pointer (some ⟨R, 0, none⟩), .string (St (Tx.digs 20 M))] w (LnPost w R s (Tx.rdigitsF M r).2 (.int .u64 (Tx.rdigitsF M r).1)) := by
  have hR := h.lt
  have hML := digs_len 20 M
  obtain ⟨k, hk, hr, hb⟩ := h
  cases hbad : r.bad with
  | true =>
    have HE : Hid (Tx.rdigitsF M r = (0, r)) := Lib.hid (by unfold Tx.rdigitsF; rw [if_pos hbad])
    rw [hbad] at hb
    have c1 := hb.cell 1 rfl
    have c2 := hb.cell 2 rfl
    have f2 := hb.fz 2
    have HB : Hid (Blk (w.drewN 0) R #[.string (St s), .int .i64 k, .bool true] 39) := Lib.hid hb
    have HR : Hid (r.rest = s.drop k ∧ r.bad = true) := Lib.hid ⟨hr, hbad⟩
    clear hb hr hbad
    go_enter Try.func34, Try.ntmps34
    go_wp2_with fail
    refine wp_loop_rounds 1 ?_
    rw [rounds_succ]
    go_wp2_with fail
    go_quiet (fail)
    go_wp2_with fail
    go_ret
    rw [HE.out]
    refine ⟨rfl, ⟨k, hk, HR.out.1, ?_⟩, ((Keep.refl R w).drewN nq).trans (keep_set R 2 _ _)⟩
    rw [HR.out.2]
    exact ((show Blk w R _ _ from HB.out).ext ((Ext.refl w).drewN nq)).set 2 (.bool true)
  | false =>
    have HE : Hid (Tx.rdigitsF M r = ((Tx.rdigGo M (s.drop k) 0 0).1, ⟨(Tx.rdigGo M (s.drop k) 0 0).2.1, (Tx.rdigGo M (s.drop k) 0 0).2.2⟩)) := Lib.hid (by unfold Tx.rdigitsF; rw [hbad, hr]; rfl)
    rw [hbad] at hb
    have c1 := hb.cell 1 rfl
    have HB : Hid (Blk w R #[.string (St s), .int .i64 ((k + 0 : Nat)), .bool false] 39) := Lib.hid hb
    clear hb hr hbad
    go_enter Try.func34, Try.ntmps34
    go_wp2_with fail
    clear c1
    go_loopw [6, 11] (fun x i wr => ∃ (n xx : Nat), n ≤ 21 ∧ k + n ≤ s.length ∧ xx ≤ M ∧ x = .int .u64 xx ∧ i = .int .i64 n ∧ Hid ((n = 0 → xx = 0) ∧ (0 < n → (s.drop k).take n = Tx.digs 20 xx)) ∧
      Hid (Tx.rdigGo M (s.drop k) 0 0 = Tx.rdigGo M (s.drop (k + n)) n xx) ∧ Hid (Blk wr R #[.string (St s), .int .i64 ((k + n : Nat)), .bool false] 39) ∧ Hid (Keep R w wr)) (fun _ i _ => 30 - (intOf i).toNat)
    case atStart => exact ⟨0, 0, by omega, by omega, by omega, rfl, rfl, Lib.hid ⟨fun _ => rfl, fun h => by omega⟩, Lib.hid rfl, HB, Lib.hid (Keep.refl R w)⟩
    case round =>
      obtain ⟨n, xx, hn, hkn, hxM, rfl, rfl, HP, HG, HBr, HK⟩ := hrel
      obtain ⟨K, hK⟩ : ∃ K : Nat, K = k + n := ⟨_, rfl⟩
      have HKK := Lib.hid hK
      rw [← hK] at hkn HG HBr
      have hKk : k ≤ K := by omega
      have hKn : K ≤ k + n := by omega
      have hKn' : k + n ≤ K := by omega
      clear hK
      have c0 := HBr.out.cell 0 (v := .string (St s)) rfl
      have c1 := HBr.out.cell 1 (v := .int .i64 K) rfl
      have c2 := HBr.out.cell 2 (v := .bool false) rfl
      have f1 := HBr.out.fz 1
      have f2 := HBr.out.fz 2
      have l1 := HBr.out.lt
      -- what is left when the digits end at K
      have fin : ∀ (m : Nat) (b : Bool), (b = (n == 0)) → Tx.rdigGo M (s.drop K) n xx = (xx, s.drop K, n == 0) → ∀ w2 : World, (w2 = if n = 0 then (wr.drewN m).setCell ⟨R, 2, none⟩ (.bool true) else wr.drewN m) →
          LnPost w R s (Tx.rdigitsF M r).2 (.int .u64 (Tx.rdigitsF M r).1) (.returned (.int .u64 xx)) w2 := by
        rintro m b hb hg w2 rfl
        rw [HE.out, HG.out, hg]
        have hbl := HBr.out.ext ((Ext.refl wr).drewN m)
        have hkp := HK.out.trans ((Keep.refl R wr).drewN m)
        by_cases h0 : n = 0
        · rw [if_pos h0, h0]
          exact ⟨rfl, ⟨K, hkn, rfl, hbl.set 2 (.bool true)⟩, hkp.trans (keep_set R 2 _ _)⟩
        · rw [if_neg h0, beq_eq_false_iff_ne.2 h0]
          exact ⟨rfl, ⟨K, hkn, rfl, hbl⟩, hkp⟩
      have FIN := Lib.hid fin; clear fin
      have world : ∀ m : Nat, Blk (wr.drewN m) R #[.string (St s), .int .i64 K, .bool false] 39 ∧ Keep R w (wr.drewN m) := fun m => ⟨HBr.out.ext ((Ext.refl wr).drewN m), HK.out.trans ((Keep.refl R wr).drewN m)⟩
      have WORLD := Lib.hid world; clear world
      by_cases hlt : K < s.length
      · obtain ⟨y, hy⟩ : ∃ y : Int, y = (s[K].toNat : Int) := ⟨_, rfl⟩
        have HY := Lib.hid hy
        have hidx : (s[K].toNat : Int) = y := hy.symm
        have hge : decide (s.length ≤ K) = false := by simp; omega
        have hD : s.drop K = s[K] :: s.drop (K + 1) := List.drop_eq_getElem_cons hlt
        have HD := Lib.hid hD
        have hy255 : s[K].toNat < 256 := s[K].toNat_lt
        by_cases hd : Tx.isD s[K] = true
        · have hV : Tx.dv s[K] = s[K].toNat - 48 := rfl
          have hd2 : 48 ≤ s[K].toNat ∧ s[K].toNat ≤ 57 := by unfold Tx.isD at hd; simpa using hd
          have hy0 : 48 ≤ y := by omega
          have hy1 : y ≤ 57 := by omega
          have HVY : Hid ((Tx.dv s[K] : Int) = y - 48) := Lib.hid (by omega)
          have hfit := Tx.fits_step (M := M) (x := xx) (n := n) (p := (s.drop k).take n) (c := s[K]) (by omega) (Tx.lt20 (by omega)) hd (fun h => ⟨HP.out.1 h, by rw [h]; rfl⟩) (fun h => ⟨HP.out.2 h, hxM⟩)
          have hpc : (s.drop k).take (n + 1) = (s.drop k).take n ++ [s[K]] := by
            have hln : n < (s.drop k).length := by rw [List.length_drop]; omega
            rw [List.take_succ_eq_append_getElem hln]
            congr 2
            rw [List.getElem_drop]
            congr 1
            exact HKK.out.symm
          have hext : (St s).extract k (K + 1) = St ((s.drop k).take n ++ [s[K]]) := by
            rw [extract_St, show K + 1 - k = n + 1 by omega, hpc]
          have hplen : ((s.drop k).take n ++ [s[K]]).length ≤ 1000000 := by rw [List.length_append, List.length_take]; simp; omega
          have HPC := Lib.hid hpc
          have hsl : ∀ w0 : World, (Instr.slice 9 (.string (St s)) (some (.int .i64 k)) (some (.int .i64 ((K : Int) + 1))) none).run Try.prog w0 = .ok (.string (St ((s.drop k).take n ++ [s[K]]))) w0 := fun w0 => by
            rw [run_slice_string w0 9 (St s) .i64 .i64 (k : Int) ((K : Int) + 1) Try.underlying9 (by omega) (by omega) (by rw [St_size]; omega), ← hext]
            congr 3
          have HSL := Lib.hid hsl
          clear hext hsl
          have hgc := Tx.rdigGo_cons M s[K] (s.drop (K + 1)) n xx
          rw [if_pos hd] at hgc
          have HGC := Lib.hid hgc
          generalize hpp : (s.drop k).take n ++ [s[K]] = pp at *
          have HPP := Lib.hid hpp
          have hfa := fun w0 : World => fits_any pp (Tx.digs 20 M) w0 hplen (by omega)
          have HFA := Lib.hid hfa
          have HIS := Lib.hid hd
          clear hy hD hd hd2 hV hpc hgc hpp hplen hfa hy255
          by_cases hbd : (0 < n ∧ xx = 0) ∨ M < 10 * xx + Tx.dv s[K]
          · rw [decide_eq_false (fun h => h hbd)] at hfit
            rw [hfit] at HFA
            have HG2 : Hid (Tx.rdigGo M (s.drop K) n xx = (xx, s.drop K, true)) := Lib.hid (by rw [HD.out, HGC.out, if_pos hbd])
            have fin2 : ∀ (w0 : World), (Blk w0 R #[.string (St s), .int .i64 K, .bool false] 39 ∧ Keep R w w0) → ∀ m : Nat, LnPost w R s (Tx.rdigitsF M r).2 (.int .u64 (Tx.rdigitsF M r).1) (.returned (.int .u64 xx)) ((w0.drewN m).setCell ⟨R, 2, none⟩ (.bool true)) ∧ LnPost w R s (Tx.rdigitsF M r).2 (.int .u64 (Tx.rdigitsF M r).1) (.returned (.int .u64 xx)) (((w0.drewN m).setCell ⟨R, 2, none⟩ (.bool true)).setCell ⟨R, 2, none⟩ (.bool true)) := by
              rintro w0 ⟨hb0, hk0⟩ m
              rw [HE.out, HG.out, HG2.out]
              have hbl := hb0.ext ((Ext.refl w0).drewN m)
              have hkp := hk0.trans ((Keep.refl R w0).drewN m)
              exact ⟨⟨rfl, ⟨K, hkn, rfl, hbl.set 2 (.bool true)⟩, hkp.trans (keep_set R 2 _ _)⟩, ⟨rfl, ⟨K, hkn, rfl, (hbl.set 2 (.bool true)).set 2 (.bool true)⟩, (hkp.trans (keep_set R 2 _ _)).trans (keep_set R 2 _ _)⟩⟩
            have FIN2 := Lib.hid fin2
            have dd1 : decide (y < 48) = false := by simp; omega
            have dd2 : decide (57 < y) = false := by simp; omega
            clear hfit hbd fin2 HPC HPP HVY HGC HIS HD HP HG FIN HY
            by_cases h0 : n = 0
            · have hz : ((K : Int) == (k : Int)) = true := by rw [beq_iff_eq]; omega
              clear h0
              go_wp2_with fail
              go_quiet (fail)
              have HW := Lib.hid (WORLD.out nq)
              clear c0 c1 c2 f1 f2 l1
              generalize wr.drewN nq = w0 at *
              have c0 := HW.out.1.cell 0 (v := .string (St s)) rfl
              have c1 := HW.out.1.cell 1 (v := .int .i64 K) rfl
              have c2 := HW.out.1.cell 2 (v := .bool false) rfl
              have f1 := HW.out.1.fz 1
              have f2 := HW.out.1.fz 2
              have l1 := HW.out.1.lt
              have hw1 : IntKind.i64.wrap ((K : Int) + 1) = (K : Int) + 1 := IntWalk.i64_in _ (by omega)
              have hsl := HSL.out
              go_wp2_with fail
              go_quiet ((go_at_call 45; exact Calls.quiet_of_same (HFA.out _)))
              clear hsl hw1
              go_wp2_with fail
              go_ret
              exact (FIN2.out w0 HW.out nq).2
            · have hz : ((K : Int) == (k : Int)) = false := by rw [beq_eq_false_iff_ne]; omega
              clear h0
              go_wp2_with fail
              go_quiet (fail)
              have HW := Lib.hid (WORLD.out nq)
              clear c0 c1 c2 f1 f2 l1
              generalize wr.drewN nq = w0 at *
              have c0 := HW.out.1.cell 0 (v := .string (St s)) rfl
              have c1 := HW.out.1.cell 1 (v := .int .i64 K) rfl
              have c2 := HW.out.1.cell 2 (v := .bool false) rfl
              have f1 := HW.out.1.fz 1
              have f2 := HW.out.1.fz 2
              have l1 := HW.out.1.lt
              have hw1 : IntKind.i64.wrap ((K : Int) + 1) = (K : Int) + 1 := IntWalk.i64_in _ (by omega)
              have hsl := HSL.out
              go_wp2_with fail
              go_quiet ((go_at_call 45; exact Calls.quiet_of_same (HFA.out _)))
              clear hsl hw1
              go_wp2_with fail
              go_ret
              exact (FIN2.out w0 HW.out nq).1
          · rw [decide_eq_true hbd] at hfit
            rw [hfit] at HFA
            have hq : 10 * xx + Tx.dv s[K] ≤ M := by omega
            have HQ : Hid (10 * xx + Tx.dv s[K] ≤ M ∧ 10 * (xx : Int) + (y - 48) = ((10 * xx + Tx.dv s[K] : Nat) : Int)) := Lib.hid ⟨hq, by have := HVY.out; omega⟩
            have HG2 : Hid (Tx.rdigGo M (s.drop k) 0 0 = Tx.rdigGo M (s.drop (k + (n + 1))) (n + 1) (10 * xx + Tx.dv s[K])) := Lib.hid (by rw [HG.out, HD.out, HGC.out, if_neg hbd, show k + (n + 1) = K + 1 by omega])
            have HP2 : Hid ((n + 1 = 0 → 10 * xx + Tx.dv s[K] = 0) ∧ (0 < n + 1 → (s.drop k).take (n + 1) = Tx.digs 20 (10 * xx + Tx.dv s[K]))) := Lib.hid ⟨fun h => by omega, fun _ => by
              rw [HPC.out, ← HPP.out]
              obtain ⟨e1, e2⟩ := Tx.ch_dv HIS.out
              have h21 := Tx.big21 (x := 10 * xx + Tx.dv s[K]) (by omega)
              by_cases h0 : n = 0
              · subst h0
                rw [HP.out.1 rfl, show 10 * 0 + Tx.dv s[K] = Tx.dv s[K] by omega, Tx.digs_small e2, e1]; rfl
              · rw [HP.out.2 (by omega), Tx.digs_step (by omega) e2 h21, e1]⟩
            have HN : Hid (n + 1 ≤ 21) := Lib.hid (by
              have h1 := HP2.out.2 (by omega)
              have h2 := congrArg List.length h1
              rw [List.length_take, List.length_drop] at h2
              have h3 := digs_len 20 (10 * xx + Tx.dv s[K])
              omega)
            have hq1 : 10 * (xx : Int) ≤ 18446744073709551615 := by omega
            have hq2 : 10 * (xx : Int) + (y - 48) ≤ 18446744073709551615 := by have := HVY.out; omega
            have HQM := Lib.hid hq1
            have dd1 : decide (y < 48) = false := by simp; omega
            have dd2 : decide (57 < y) = false := by simp; omega
            clear hfit hbd HPC HPP HVY HGC HIS HD HP HG FIN HY hq
            go_wp2_with fail
            go_quiet (fail)
            have HW := Lib.hid (WORLD.out nq)
            clear c0 c1 c2 f1 f2 l1
            generalize wr.drewN nq = w0 at *
            have c0 := HW.out.1.cell 0 (v := .string (St s)) rfl
            have c1 := HW.out.1.cell 1 (v := .int .i64 K) rfl
            have c2 := HW.out.1.cell 2 (v := .bool false) rfl
            have f1 := HW.out.1.fz 1
            have f2 := HW.out.1.fz 2
            have l1 := HW.out.1.lt
            have hw1 : IntKind.i64.wrap ((K : Int) + 1) = (K : Int) + 1 := IntWalk.i64_in _ (by omega)
            have hsl := HSL.out
            go_wp2_with fail
            go_quiet ((go_at_call 45; exact Calls.quiet_of_same (HFA.out _)))
            have HW2 : Hid (Blk (w0.drewN nq) R #[.string (St s), .int .i64 K, .bool false] 39 ∧ Keep R w (w0.drewN nq)) := Lib.hid ⟨HW.out.1.ext ((Ext.refl _).drewN nq), HW.out.2.trans ((Keep.refl R _).drewN nq)⟩
            clear c0 c1 c2 f1 f2 l1 HW hsl hw1
            generalize w0.drewN nq = w9 at *
            have c0 := HW2.out.1.cell 0 (v := .string (St s)) rfl
            have c1 := HW2.out.1.cell 1 (v := .int .i64 K) rfl
            have f1 := HW2.out.1.fz 1
            have l1 := HW2.out.1.lt
            go_wp2_with fail
            go_quiet (fail)
            have HW3 : Hid (Blk (w9.drewN nq) R #[.string (St s), .int .i64 K, .bool false] 39 ∧ Keep R w (w9.drewN nq)) := Lib.hid ⟨HW2.out.1.ext ((Ext.refl _).drewN nq), HW2.out.2.trans ((Keep.refl R _).drewN nq)⟩
            clear c0 c1 f1 l1 HW2
            generalize w9.drewN nq = w10 at *
            have c1 := HW3.out.1.cell 1 (v := .int .i64 K) rfl
            have f1 := HW3.out.1.fz 1
            have l1 := HW3.out.1.lt
            go_wp2_with fail
            go_roundw
            case rel => exact ⟨n + 1, 10 * xx + Tx.dv s[K], HN.out, by omega, HQ.out.1, vi HQ.out.2, by go_num, HP2, HG2, Lib.hid (by
              have := HW3.out.1.set 1 (.int .i64 ((K : Int) + 1))
              rw [show k + (n + 1) = K + 1 by omega]
              exact this), Lib.hid (HW3.out.2.trans (keep_set R 1 _ _))⟩
            case measure => simp [intOf]; omega
        · have HE2 : Hid (Tx.rdigGo M (s.drop K) n xx = (xx, s.drop K, n == 0)) := Lib.hid (by rw [hD, Tx.rdigGo_cons, if_neg hd])
          have hd2 : y < 48 ∨ 57 < y := by
            by_cases h1 : s[K].toNat < 48
            · exact .inl (by omega)
            · right
              rcases Nat.lt_or_ge 57 s[K].toNat with h | h
              · omega
              · exfalso; apply hd; unfold Tx.isD; simp; omega
          have hy2 : 0 ≤ y := by omega
          have hy3 : y < 256 := by omega
          clear hy hD hd hy255
          rcases hd2 with hd2 | hd2
          · have dd1 : decide (y < 48) = true := by simpa using hd2
            by_cases h0 : n = 0
            · have hz : ((K : Int) == (k : Int)) = true := by rw [beq_iff_eq]; omega
              have H0 := Lib.hid h0; clear h0
              go_wp2_with fail
              go_quiet (fail)
              go_wp2_with fail
              go_ret
              exact FIN.out nq _ rfl HE2.out _ (by rw [if_pos H0.out])
            · have hz : ((K : Int) == (k : Int)) = false := by rw [beq_eq_false_iff_ne]; omega
              have H0 := Lib.hid h0; clear h0
              go_wp2_with fail
              go_quiet (fail)
              go_wp2_with fail
              go_ret
              exact FIN.out nq _ rfl HE2.out _ (by rw [if_neg H0.out])
          · have dd1 : decide (y < 48) = false := by simp; omega
            have dd2 : decide (57 < y) = true := by simpa using hd2
            by_cases h0 : n = 0
            · have hz : ((K : Int) == (k : Int)) = true := by rw [beq_iff_eq]; omega
              have H0 := Lib.hid h0; clear h0
              go_wp2_with fail
              go_quiet (fail)
              go_wp2_with fail
              go_ret
              exact FIN.out nq _ rfl HE2.out _ (by rw [if_pos H0.out])
            · have hz : ((K : Int) == (k : Int)) = false := by rw [beq_eq_false_iff_ne]; omega
              have H0 := Lib.hid h0; clear h0
              go_wp2_with fail
              go_quiet (fail)
              go_wp2_with fail
              go_ret
              exact FIN.out nq _ rfl HE2.out _ (by rw [if_neg H0.out])
      · have HE2 : Hid (Tx.rdigGo M (s.drop K) n xx = (xx, s.drop K, n == 0)) := Lib.hid (by rw [List.drop_eq_nil_iff.2 (by omega)]; rfl)
        have hge : decide (s.length ≤ K) = true := by simp; omega
        have hge2 : ¬ K < s.length := hlt
        by_cases h0 : n = 0
        · have hz : ((K : Int) == (k : Int)) = true := by rw [beq_iff_eq]; omega
          have H0 := Lib.hid h0; clear h0
          go_wp2_with fail
          go_quiet (fail)
          go_wp2_with fail
          go_ret
          exact FIN.out nq _ rfl HE2.out _ (by rw [if_pos H0.out])
        · have hz : ((K : Int) == (k : Int)) = false := by rw [beq_eq_false_iff_ne]; omega
          have H0 := Lib.hid h0; clear h0
          go_wp2_with fail
          go_quiet (fail)
          go_wp2_with fail
          go_ret
          exact FIN.out nq _ rfl HE2.out _ (by rw [if_neg H0.out])

end Go.Proofs.Ytkhagpnnkfglbaa
