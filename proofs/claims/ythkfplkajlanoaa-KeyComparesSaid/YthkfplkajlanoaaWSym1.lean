/-
  slices.symMergeCmpFunc where one side has one number alone, walked.
-/
import Derived.Test.YthkfplkajlanoaaWRot2
import Derived.Test.YthkfplkajlanoaaSymPure
import Derived.Deep.DeepCutAuto
namespace Go.Proofs.Ythkfplkajlanoaa
open Go.RowKit
open Srt (Sorted Lt Before)

theorem nth_mid (P X S : List Int) (q : Nat) (h : q < X.length) : nth (P ++ (X ++ S)) (P.length + q) = nth X q := by
  unfold nth
  rw [List.getD_eq_getElem?_getD, List.getElem?_append_right (by omega), Nat.add_sub_cancel_left, List.getElem?_append_left h, List.getD_eq_getElem?_getD]

theorem sw_comm (d : List Int) (i k : Nat) (h : i ≠ k) : sw d i k = sw d k i := by
  unfold sw; exact List.set_comm _ _ h
theorem dat_sw2 (P Y : List Int) (l x : Int) (Z : List Int) : sw (dat P Y l (x :: Z)) (P.length + Y.length) (P.length + Y.length + 1) = dat P (Y ++ [x]) l Z := by
  rw [sw_comm _ _ _ (by omega), dat_sw, dat_back]
theorem dat_at2 (P Y : List Int) (l x : Int) (Z : List Int) : nth (dat P Y l (x :: Z)) (P.length + Y.length + 1) = x := by
  rw [← dat_back]; have := dat_at P (Y ++ [l]) x Z; rw [List.length_append] at this; exact this

/-- What is known of two pieces that are merged. -/
structure Two (cf : Int → Int → Int) (n : Nat) (A B : List Int) : Prop where
  C : Srt.Cmp cf
  sa : Sorted cf A
  sb : Sorted cf B
  bef : Before A B
  ra : ∀ x ∈ A, 0 ≤ x ∧ x < n
  rb : ∀ x ∈ B, 0 ≤ x ∧ x < n

set_option maxRecDepth 100000 in
set_option maxHeartbeats 4000000 in
theorem sym_first (cf : Int → Int → Int) (n L c N : Nat) (w0 w : World) (P B S : List Int) (x : Int) (hcmp : CmpAt cf n L w0) (h : StS w0 (P ++ ([x] ++ (B ++ S))) w) (hT : Two cf n [x] B)
    (a m b : Nat) (ha : a = P.length) (hm : m = P.length + 1) (hb : b = P.length + 1 + B.length) (hN : N = P.length + (1 + (B.length + S.length))) (hsz : N ≤ 1000000) :
    Calls Try.prog 20 #[.slice (some ⟨w0.heap.size, 0, none⟩) N c, .int .i64 a, .int .i64 m, .int .i64 b, .func (.func 15) #[] #[.pointer (some ⟨L, 0, none⟩)]] w (SortPost cf w0 P ([x] ++ B) S) := by
  have HC := Lib.hid hcmp
  have HS := Lib.hid h
  have HT := Lib.hid hT
  have HD : Hid (a = P.length ∧ m = a + 1 ∧ b = a + 1 + B.length ∧ N = P.length + (1 + (B.length + S.length))) := Lib.hid ⟨ha, by omega, by omega, hN⟩
  have hma : m = a + 1 := by omega
  have hbm : m ≤ b := by omega
  have hbN : b ≤ N := by omega
  have hx := hT.ra x (by simp)
  clear hcmp h hT ha hm hb hN
  subst hma
  have t1 : IntKind.i64.wrap ((a : Int) + 1 - (a : Int)) = 1 := by rw [IntKind.wrap_i64]; omega
  have t2 : ((a : Int) + 1 - (a : Int) == 1) = true := beq_iff_eq.2 (by omega)
  go_enter Try.func20, Try.ntmps20
  go_wp2_with fail
  clear t1 t2
  go_loopw [10, 11] (fun u v wr => ∃ i j : Nat, u = .int .i64 i ∧ v = .int .i64 j ∧ a + 1 ≤ i ∧ i ≤ j ∧ j ≤ b ∧ Hid (i = a + 1 ∨ Lt cf (nth B (i - (a + 1) - 1)) x) ∧ Hid (j = b ∨ Lt cf x (nth B (j - (a + 1)))) ∧ Hid (StS w0 (P ++ ([x] ++ (B ++ S))) wr)) (fun u v _ => (intOf v).toNat - (intOf u).toNat)
  case atStart => exact ⟨a + 1, b, by go_num, rfl, Nat.le_refl _, by omega, Nat.le_refl _, Lib.hid (.inl rfl), Lib.hid (.inl rfl), HS⟩
  case round =>
    clear HS
    obtain ⟨i, j, rfl, rfl, hai, hij, hjb, H1, H2, HS⟩ := hrel
    by_cases hlt : i < j
    · obtain ⟨h, hh⟩ : ∃ h : Nat, ((i : Int) + (j : Int)) / 2 = h := ⟨(i + j) / 2, by omega⟩
      have hih : i ≤ h := by omega
      have hhj : h < j := by omega
      have hsl : (P ++ ([x] ++ (B ++ S))).length = N := by
        have := HD.out
        simp only [List.length_append, List.length_cons, List.length_nil]; omega
      have HB : Hid (nth (P ++ ([x] ++ (B ++ S))) h = nth B (h - (a + 1))) := Lib.hid (by
        have hd := HD.out
        have := nth_mid (P ++ [x]) B S (h - (a + 1)) (by omega)
        rw [List.length_append, List.append_assoc, show P.length + [x].length + (h - (a + 1)) = h by simp; omega] at this
        exact this)
      have HA : Hid (nth (P ++ ([x] ++ (B ++ S))) a = x) := Lib.hid (by
        have hd := HD.out
        have := nth_mid P [x] (B ++ S) 0 (by simp)
        rw [Nat.add_zero, ← hd.1] at this
        exact this)
      have ch := HS.out.c (i := h) (by omega)
      have ca := HS.out.c (i := a) (by omega)
      rw [HB.out] at ch
      rw [HA.out] at ca
      have hyB : nth B (h - (a + 1)) ∈ B := nth_mem B _ (by have := HD.out; omega)
      have hxy := HT.out.bef x (by simp) _ hyB
      have hyr := HT.out.rb _ hyB
      generalize hy : nth B (h - (a + 1)) = y at *
      have HY := Lib.hid hy
      clear hy hyB
      have e1 : ((h : Int)).toNat = h := by omega
      go_upto_region 5 with (fail)
      have HH := Lib.hid hh; clear hh
      by_cases hc : cf y x < 0
      · have hd2 : decide (cf y x < 0) = true := decide_eq_true hc
        have H1' : Hid (h + 1 = a + 1 ∨ Lt cf (nth B (h + 1 - (a + 1) - 1)) x) := Lib.hid (.inr (by rw [show h + 1 - (a + 1) - 1 = h - (a + 1) by omega, HY.out]; exact .inl hc))
        go_quiet ((go_at_call 15; exact Calls.quiet_of (HC.out _ y x (HS.out.ext.drewN _) hyr.1 hyr.2 hx.1 hx.2)))
        go_wp2_with fail
        go_roundw
        case rel => exact ⟨h + 1, j, by go_num, rfl, by omega, by omega, hjb, H1', H2, Lib.hid (HS.out.drewN _)⟩
        case measure => simp [intOf]; omega
      · have hd2 : decide (cf y x < 0) = false := decide_eq_false hc
        have H2' : Hid (h = b ∨ Lt cf x (nth B (h - (a + 1)))) := Lib.hid (.inr (by rw [HY.out]; exact HT.out.C.no hxy hc))
        go_quiet ((go_at_call 15; exact Calls.quiet_of (HC.out _ y x (HS.out.ext.drewN _) hyr.1 hyr.2 hx.1 hx.2)))
        go_wp2_with fail
        go_roundw
        case rel => exact ⟨i, h, rfl, rfl, hai, hih, by omega, H1, H2', Lib.hid (HS.out.drewN _)⟩
        case measure => simp [intOf]; omega
    · obtain rfl : i = j := by omega
      have HI := Lib.hid (one_in HT.out.C HT.out.sb (x := x) (i - (a + 1)) (by have := HD.out; omega) (by
        rcases H1.out with h | h
        · left; omega
        · exact .inr h) (by
        rcases H2.out with h | h
        · left; have := HD.out; omega
        · exact .inr h))
      have HS0 : Hid (StS w0 (dat P (B.take 0) x (B.drop 0 ++ S)) wr) := Lib.hid (by simpa [dat] using HS.out)
      go_wp2_with fail
      go_loopw [13] (fun v wr => ∃ t : Nat, v = .int .i64 ((a + t : Nat) : Int) ∧ t ≤ i - (a + 1) ∧ Hid (StS w0 (dat P (B.take t) x (B.drop t ++ S)) wr)) (fun v _ => i - (intOf v).toNat)
      case atStart => exact ⟨0, rfl, Nat.zero_le _, HS0⟩
      case round =>
        clear HS0 HS
        obtain ⟨t, rfl, ht, HS⟩ := hrel
        by_cases hlt2 : t < i - (a + 1)
        · have hd := HD.out
          have htB : t < B.length := by omega
          have htl : (B.take t).length = t := by rw [List.length_take]; omega
          have HE := Lib.hid (drop_cons B t htB)
          have HTS := Lib.hid (take_snoc B t htB)
          rw [HE.out, List.cons_append] at HS
          have hsl : (dat P (B.take t) x (nth B t :: (B.drop (t + 1) ++ S))).length = N := by
            rw [dat_len, htl]; simp only [List.length_append, List.length_drop, List.length_cons]; omega
          have HAT1 := Lib.hid (dat_at P (B.take t) x (nth B t :: (B.drop (t + 1) ++ S)))
          have HAT2 := Lib.hid (dat_at2 P (B.take t) x (nth B t) (B.drop (t + 1) ++ S))
          have HSW := Lib.hid (dat_sw2 P (B.take t) x (nth B t) (B.drop (t + 1) ++ S))
          rw [← HTS.out] at HSW
          rw [htl, ← hd.1] at HAT1 HAT2 HSW
          generalize dat P (B.take t) x (nth B t :: (B.drop (t + 1) ++ S)) = d at *
          have k1 := HS.out.c (i := a + t) (by omega)
          have k2 := HS.out.c (i := a + t + 1) (by omega)
          have f1 := HS.out.f (a + t)
          have f2 := HS.out.f (a + t + 1)
          have k3 := (HS.out.set (i := a + t) (by omega) (nth B t)).c (i := a + t + 1) (by rw [List.length_set]; omega)
          have hsw := HS.out.swap (i := a + t) (k := a + t + 1) (by omega) (by omega)
          rw [HAT1.out, HAT2.out, HSW.out] at hsw
          rw [HAT1.out] at k1
          rw [HAT2.out] at k2
          have HSWP := Lib.hid hsw
          clear hsw
          have hlt3 : (a : Int) + (t : Int) < (i : Int) - 1 := by omega
          have p1 : (0 : Int) ≤ (a : Int) + (t : Int) := by omega
          have b1 : (a : Int) + (t : Int) < (N : Int) := by omega
          have b2 : (a : Int) + (t : Int) + 1 < (N : Int) := by omega
          have r1 : IntKind.i64.wrap ((a : Int) + (t : Int) + 1) = (a : Int) + (t : Int) + 1 := by rw [IntKind.wrap_i64]; omega
          have e1 : ((a : Int) + (t : Int)).toNat = a + t := by omega
          have e2 : ((a : Int) + (t : Int) + 1).toNat = a + t + 1 := by omega
          clear hd htl hsl
          generalize nth B t = y at *
          generalize nth (d.set (a + t) y) (a + t + 1) = z at *
          go_wp2_with fail
          go_region
          all_goals go_wp2_with fail
          go_roundw
          case rel => exact ⟨t + 1, by go_num, by omega, Lib.hid (HSWP.out.drewN 1)⟩
          case measure => simp [intOf]; omega
        · have ht2 : t = i - (a + 1) := by omega
          have HFIN : Hid (StS w0 (P ++ ((B.take (i - (a + 1)) ++ x :: B.drop (i - (a + 1))) ++ S)) wr) := Lib.hid (by
            have := HS.out
            rw [ht2] at this
            simpa [dat] using this)
          have hge : ¬ (a : Int) + (t : Int) < (i : Int) - 1 := by omega
          clear ht2
          go_wp2_with fail
          go_end0
          unfold SortPost
          exact ⟨rfl, _, HI.out.2, HI.out.1, HFIN.out⟩

end Go.Proofs.Ythkfplkajlanoaa
