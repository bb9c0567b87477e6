/-
  slices.symMergeCmpFunc where the other side has one number alone, walked.
-/
import Derived.Test.YthkfplkajlanoaaWSym1
namespace Go.Proofs.Ythkfplkajlanoaa
open Go.RowKit
open Srt (Sorted Lt Before)

set_option maxRecDepth 100000 in
set_option maxHeartbeats 4000000 in
theorem sym_last (cf : Int → Int → Int) (n L c N : Nat) (w0 w : World) (P A S : List Int) (y : Int) (hcmp : CmpAt cf n L w0) (h : StS w0 (P ++ (A ++ ([y] ++ S))) w) (hT : Two cf n A [y]) (hA : 2 ≤ A.length)
    (a m b : Nat) (ha : a = P.length) (hm : m = P.length + A.length) (hb : b = P.length + A.length + 1) (hN : N = P.length + (A.length + (1 + S.length))) (hsz : N ≤ 1000000) :
    Calls Try.prog 20 #[.slice (some ⟨w0.heap.size, 0, none⟩) N c, .int .i64 a, .int .i64 m, .int .i64 b, .func (.func 15) #[] #[.pointer (some ⟨L, 0, none⟩)]] w (SortPost cf w0 P (A ++ [y]) S) := by
  have HC := Lib.hid hcmp
  have HS := Lib.hid h
  have HT := Lib.hid hT
  have HD : Hid (a = P.length ∧ m = a + A.length ∧ b = m + 1 ∧ N = P.length + (A.length + (1 + S.length))) := Lib.hid ⟨ha, by omega, by omega, hN⟩
  have hma : a + 2 ≤ m := by omega
  have hbm : b = m + 1 := by omega
  have hbN : b ≤ N := by omega
  have hx := hT.rb y (by simp)
  clear hcmp h hT ha hm hb hN
  subst hbm
  have t1 : IntKind.i64.wrap ((m : Int) - (a : Int)) = (m : Int) - (a : Int) := by rw [IntKind.wrap_i64]; omega
  have t2 : ((m : Int) - (a : Int) == 1) = false := beq_eq_false_iff_ne.2 (by omega)
  have t3 : IntKind.i64.wrap ((m : Int) + 1 - (m : Int)) = 1 := by rw [IntKind.wrap_i64]; omega
  have t4 : ((m : Int) + 1 - (m : Int) == 1) = true := beq_iff_eq.2 (by omega)
  go_enter Try.func20, Try.ntmps20
  go_wp2_with fail
  clear t1 t2 t3 t4
  go_loopw [14, 15] (fun u v wr => ∃ i j : Nat, u = .int .i64 i ∧ v = .int .i64 j ∧ a ≤ i ∧ i ≤ j ∧ j ≤ m ∧ Hid (i = a ∨ Lt cf (nth A (i - a - 1)) y) ∧ Hid (j = m ∨ Lt cf y (nth A (j - a))) ∧ Hid (StS w0 (P ++ (A ++ ([y] ++ S))) wr)) (fun u v _ => (intOf v).toNat - (intOf u).toNat)
  case atStart => exact ⟨a, m, rfl, rfl, Nat.le_refl _, by omega, Nat.le_refl _, Lib.hid (.inl rfl), Lib.hid (.inl rfl), HS⟩
  case round =>
    clear HS
    obtain ⟨i, j, rfl, rfl, hai, hij, hjb, H1, H2, HS⟩ := hrel
    by_cases hlt : i < j
    · obtain ⟨h, hh⟩ : ∃ h : Nat, ((i : Int) + (j : Int)) / 2 = h := ⟨(i + j) / 2, by omega⟩
      have hih : i ≤ h := by omega
      have hhj : h < j := by omega
      have hsl : (P ++ (A ++ ([y] ++ S))).length = N := by
        have := HD.out
        simp only [List.length_append, List.length_cons, List.length_nil]; omega
      have HB : Hid (nth (P ++ (A ++ ([y] ++ S))) h = nth A (h - a)) := Lib.hid (by
        have hd := HD.out
        have := nth_mid P A ([y] ++ S) (h - a) (by omega)
        rw [show P.length + (h - a) = h by omega] at this
        exact this)
      have HA : Hid (nth (P ++ (A ++ ([y] ++ S))) m = y) := Lib.hid (by
        have hd := HD.out
        have := nth_mid (P ++ A) [y] S 0 (by simp)
        rw [Nat.add_zero, List.length_append, ← hd.1, ← hd.2.1, List.append_assoc] at this
        exact this)
      have ch := HS.out.c (i := h) (by omega)
      have ca := HS.out.c (i := m) (by omega)
      rw [HB.out] at ch
      rw [HA.out] at ca
      have hyB : nth A (h - a) ∈ A := nth_mem A _ (by have := HD.out; omega)
      have hxy := HT.out.bef _ hyB y (by simp)
      have hyr := HT.out.ra _ hyB
      generalize hy : nth A (h - a) = x at *
      have HY := Lib.hid hy
      clear hy hyB
      have e1 : ((h : Int)).toNat = h := by omega
      go_upto_region 17 with (fail)
      have HH := Lib.hid hh; clear hh
      by_cases hc : cf y x < 0
      · have hd2 : decide (cf y x < 0) = true := decide_eq_true hc
        have H2' : Hid (h = m ∨ Lt cf y (nth A (h - a))) := Lib.hid (.inr (by rw [HY.out]; exact .inl hc))
        go_quiet ((go_at_call 15; exact Calls.quiet_of (HC.out _ y x (HS.out.ext.drewN _) hx.1 hx.2 hyr.1 hyr.2)))
        go_wp2_with fail
        go_roundw
        case rel => exact ⟨i, h, rfl, rfl, hai, hih, by omega, H1, H2', Lib.hid (HS.out.drewN _)⟩
        case measure => simp [intOf]; omega
      · have hd2 : decide (cf y x < 0) = false := decide_eq_false hc
        have H1' : Hid (h + 1 = a ∨ Lt cf (nth A (h + 1 - a - 1)) y) := Lib.hid (.inr (by rw [show h + 1 - a - 1 = h - a by omega, HY.out]; exact HT.out.C.no hxy hc))
        go_quiet ((go_at_call 15; exact Calls.quiet_of (HC.out _ y x (HS.out.ext.drewN _) hx.1 hx.2 hyr.1 hyr.2)))
        go_wp2_with fail
        go_roundw
        case rel => exact ⟨h + 1, j, by go_num, rfl, by omega, by omega, hjb, H1', H2, Lib.hid (HS.out.drewN _)⟩
        case measure => simp [intOf]; omega
    · obtain rfl : i = j := by omega
      have HI := Lib.hid (one_in HT.out.C HT.out.sa (x := y) (i - a) (by have := HD.out; omega) (by
        rcases H1.out with h | h
        · left; omega
        · exact .inr h) (by
        rcases H2.out with h | h
        · left; have := HD.out; omega
        · exact .inr h))
      have HS0 : Hid (StS w0 (dat P (A.take A.length) y (A.drop A.length ++ S)) wr) := Lib.hid (by simpa [dat] using HS.out)
      have HM : Hid (a + A.length = m) := Lib.hid (by have := HD.out; omega)
      have hmA : i - a ≤ A.length := by have := HD.out; omega
      go_wp2_with fail
      go_loopw [17] (fun v wr => ∃ e : Nat, v = .int .i64 ((a + e : Nat) : Int) ∧ i - a ≤ e ∧ e ≤ A.length ∧ Hid (StS w0 (dat P (A.take e) y (A.drop e ++ S)) wr)) (fun v _ => (intOf v).toNat)
      case atStart => exact ⟨A.length, by rw [HM.out], hmA, Nat.le_refl _, HS0⟩
      case round =>
        clear HS0 HS
        obtain ⟨e, rfl, hie, heA, HS⟩ := hrel
        by_cases hlt2 : i - a < e
        · obtain ⟨t, rfl⟩ : ∃ t, e = t + 1 := ⟨e - 1, by omega⟩
          have hd := HD.out
          have htB : t < A.length := by omega
          have htl : (A.take t).length = t := by rw [List.length_take]; omega
          have HE := Lib.hid (drop_cons A t htB)
          have HTS := Lib.hid (take_snoc A t htB)
          rw [HTS.out, dat_back] at HS
          have hsl : (dat P (A.take t) (nth A t) (y :: (A.drop (t + 1) ++ S))).length = N := by
            rw [dat_len, htl]; simp only [List.length_append, List.length_drop, List.length_cons]; omega
          have HAT1 := Lib.hid (dat_at P (A.take t) (nth A t) (y :: (A.drop (t + 1) ++ S)))
          have HAT2 := Lib.hid (dat_at2 P (A.take t) (nth A t) y (A.drop (t + 1) ++ S))
          have HSW : Hid (sw (dat P (A.take t) (nth A t) (y :: (A.drop (t + 1) ++ S))) (P.length + (A.take t).length + 1) (P.length + (A.take t).length) = dat P (A.take t) y (A.drop t ++ S)) := Lib.hid (by rw [HE.out, List.cons_append]; exact dat_sw P (A.take t) (nth A t) y (A.drop (t + 1) ++ S))
          rw [htl, ← hd.1] at HAT1 HAT2 HSW
          generalize dat P (A.take t) (nth A t) (y :: (A.drop (t + 1) ++ S)) = d at *
          have k1 := HS.out.c (i := a + t) (by omega)
          have k2 := HS.out.c (i := a + t + 1) (by omega)
          have f1 := HS.out.f (a + t)
          have f2 := HS.out.f (a + t + 1)
          have k3 := (HS.out.set (i := a + t + 1) (by omega) (nth A t)).c (i := a + t) (by rw [List.length_set]; omega)
          have hsw := HS.out.swap (i := a + t + 1) (k := a + t) (by omega) (by omega)
          rw [HAT1.out, HAT2.out, HSW.out] at hsw
          rw [HAT1.out] at k1
          rw [HAT2.out] at k2
          have HSWP := Lib.hid hsw
          clear hsw
          obtain ⟨q, hq⟩ : ∃ q, q = a + t := ⟨_, rfl⟩
          have hq2 : a + (t + 1) = q + 1 := by omega
          rw [hq2]
          rw [← hq] at k1 k2 f1 f2 k3 HSWP
          have hiq : i < q + 1 := by omega
          have hlt3 : (i : Int) < (q : Int) + 1 := by omega
          have p1 : (0 : Int) ≤ (q : Int) + 1 := by omega
          have b1 : (q : Int) < (N : Int) := by omega
          have b2 : (q : Int) + 1 < (N : Int) := by omega
          have r1 : IntKind.i64.wrap ((q : Int) + 1 - 1) = (q : Int) := by rw [IntKind.wrap_i64]; omega
          have e2 : ((q : Int) + 1).toNat = q + 1 := by omega
          have HQ := Lib.hid hq
          clear hd htl hsl hq hq2
          generalize nth A t = x at *
          generalize nth (d.set (q + 1) x) q = z at *
          go_wp2_with fail
          go_region
          all_goals go_wp2_with fail
          go_roundw
          case rel => exact ⟨t, by rw [HQ.out], by omega, by omega, Lib.hid (HSWP.out.drewN 1)⟩
          case measure => simp [intOf]
        · have ht2 : e = i - a := by omega
          have HFIN : Hid (StS w0 (P ++ ((A.take (i - a) ++ y :: A.drop (i - a)) ++ S)) wr) := Lib.hid (by
            have := HS.out
            rw [ht2] at this
            simpa [dat] using this)
          have HP2 : Hid ((A.take (i - a) ++ y :: A.drop (i - a)).Perm (A ++ [y])) := Lib.hid (HI.out.2.trans (List.perm_append_singleton y A).symm)
          have hge : ¬ (i : Int) < (a : Int) + (e : Int) := by omega
          clear ht2
          go_wp2_with fail
          go_end0
          unfold SortPost
          exact ⟨rfl, _, HP2.out, HI.out.1, HFIN.out⟩

end Go.Proofs.Ythkfplkajlanoaa
