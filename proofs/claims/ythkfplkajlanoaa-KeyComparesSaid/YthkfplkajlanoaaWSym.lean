/-
  slices.symMergeCmpFunc, walked.
-/
import Derived.Test.YthkfplkajlanoaaWSym2
import Derived.Deep.CutBlock
namespace Go.Proofs.Ythkfplkajlanoaa
open Go.RowKit
open Srt (Sorted Lt Before)

theorem Two.sub {cf : Int → Int → Int} {n : Nat} {A B A' B' : List Int} (h : Two cf n A B) (ha : A'.Sublist A) (hb : B'.Sublist B) : Two cf n A' B' :=
  ⟨h.C, h.sa.sublist ha, h.sb.sublist hb, fun x hx y hy => h.bef x (ha.subset hx) y (hb.subset hy), fun x hx => h.ra x (ha.subset hx), fun x hx => h.rb x (hb.subset hx)⟩

/-- The pieces of a symmetric merge, where they lie. -/
structure Lie (P A B S : List Int) (a m b N mid s i j : Nat) : Prop where
  ha : a = P.length
  hm : m = a + A.length
  hb : b = m + B.length
  hN : N = b + S.length
  hi : s = a + i
  hj : mid = s + j
  hiA : i ≤ A.length
  hjB : j ≤ B.length

theorem Lie.en {P A B S : List Int} {a m b N mid s i j : Nat} (h : Lie P A B S a m b N mid s i j) : mid + m - s = m + j := by
  have := h.hj; omega

set_option maxRecDepth 100000 in
set_option maxHeartbeats 8000000 in
theorem sym_any (cf : Int → Int → Int) (n L c N : Nat) (w0 : World) (hcmp : CmpAt cf n L w0) (hsz : N ≤ 1000000) : ∀ (f : Nat) (P A B S : List Int) (w : World), A.length + B.length ≤ f → StS w0 (P ++ (A ++ (B ++ S))) w → Two cf n A B → 0 < A.length → 0 < B.length →
    ∀ (a m b : Nat), a = P.length → m = P.length + A.length → b = P.length + A.length + B.length → N = P.length + (A.length + (B.length + S.length)) →
    Calls Try.prog 20 #[.slice (some ⟨w0.heap.size, 0, none⟩) N c, .int .i64 a, .int .i64 m, .int .i64 b, .func (.func 15) #[] #[.pointer (some ⟨L, 0, none⟩)]] w (SortPost cf w0 P (A ++ B) S) := by
  intro f
  induction f with
  | zero => intro P A B S w hf _ _ hA; omega
  | succ f IH =>
    intro P A B S w hf h hT hA hB a m b ha hm hb hN
    by_cases hA1 : A.length = 1
    · match A, hA1, h, hT, hm, hb, hN with
      | [x], _, h, hT, hm, hb, hN => exact sym_first cf n L c N w0 w P B S x hcmp h hT a m b ha hm hb hN hsz
    by_cases hB1 : B.length = 1
    · match B, hB1, h, hT, hm, hb, hN with
      | [y], _, h, hT, hm, hb, hN => exact sym_last cf n L c N w0 w P A S y hcmp h hT (by omega) a m b ha hm hb hN hsz
    have HC := Lib.hid hcmp
    have HS := Lib.hid h
    have HT := Lib.hid hT
    have HIH := Lib.hid IH
    have HD : Hid (a = P.length ∧ m = a + A.length ∧ b = m + B.length ∧ N = b + S.length ∧ A.length + B.length ≤ f + 1) := Lib.hid ⟨ha, by omega, by omega, by omega, hf⟩
    have hma : a + 2 ≤ m := by omega
    have hbm : m + 2 ≤ b := by omega
    have hbN : b ≤ N := by omega
    clear hcmp h hT ha hm hb hN IH hf hA hB hA1 hB1
    obtain ⟨mid, hh⟩ : ∃ h : Nat, ((a : Int) + (b : Int)) / 2 = h := ⟨(a + b) / 2, by omega⟩
    have hm1 : a + b ≤ 2 * mid + 1 := by omega
    have hm2 : 2 * mid ≤ a + b := by omega
    obtain ⟨s0, r0, hcase⟩ : ∃ s0 r0 : Nat, (mid < m ∧ s0 + b = mid + m ∧ r0 = mid) ∨ (m ≤ mid ∧ s0 = a ∧ r0 = m) := by
      by_cases hc : mid < m
      · exact ⟨mid + m - b, mid, .inl ⟨hc, by omega, rfl⟩⟩
      · exact ⟨a, m, .inr ⟨by omega, rfl, rfl⟩⟩
    have t1 : IntKind.i64.wrap ((m : Int) - (a : Int)) = (m : Int) - (a : Int) := by rw [IntKind.wrap_i64]; omega
    have t2 : ((m : Int) - (a : Int) == 1) = false := beq_eq_false_iff_ne.2 (by omega)
    have t3 : IntKind.i64.wrap ((b : Int) - (m : Int)) = (b : Int) - (m : Int) := by rw [IntKind.wrap_i64]; omega
    have t4 : ((b : Int) - (m : Int) == 1) = false := beq_eq_false_iff_ne.2 (by omega)
    have HS0 : Hid (s0 = a ∨ s0 + b = mid + m) := Lib.hid (by omega)
    have HR0 : Hid (r0 = m ∨ r0 = mid) := Lib.hid (by omega)
    have g1 : a ≤ s0 := by omega
    have g2 : s0 ≤ r0 := by omega
    have g3 : r0 ≤ mid := by omega
    have g4 : r0 ≤ m := by omega
    have g5 : mid + m ≤ s0 + b := by omega
    have t5 : IntKind.i64.wrap ((mid : Int) + (m : Int)) = (mid : Int) + (m : Int) := by rw [IntKind.wrap_i64]; omega
    have t6 : IntKind.i64.wrap ((mid : Int) + (m : Int) - 1) = ((mid + m - 1 : Nat) : Int) := by rw [IntKind.wrap_i64]; omega
    have h0c : (mid < m ∧ s0 + b = mid + m ∧ r0 = mid) ∨ (m ≤ mid ∧ s0 = a ∧ r0 = m) := hcase
    clear hcase
    have HG : Hid (a ≤ s0 ∧ s0 ≤ r0 ∧ r0 ≤ mid ∧ r0 ≤ m ∧ mid + m ≤ s0 + b ∧ a + b ≤ 2 * mid + 1 ∧ 2 * mid ≤ a + b ∧ a + 2 ≤ m ∧ m + 2 ≤ b ∧ b ≤ N ∧ N ≤ 1000000) := Lib.hid ⟨g1, g2, g3, g4, g5, hm1, hm2, hma, hbm, hbN, hsz⟩
    rcases h0c with ⟨hc, hs0, hr0⟩ | ⟨hc, hs0, hr0⟩
    rotate_left
    have hc2 : ¬ (mid : Int) < (m : Int) := by omega
    have HCR : Hid (Value.int IntKind.i64 (m : Int) = .int .i64 (r0 : Int)) := Lib.hid (by rw [hr0])
    have HCS : Hid (Value.int IntKind.i64 (a : Int) = .int .i64 (s0 : Int)) := Lib.hid (by rw [hs0])
    rotate_left
    have hc2 : (mid : Int) < (m : Int) := by omega
    have t7 : IntKind.i64.wrap ((mid : Int) + (m : Int) - (b : Int)) = ((s0 : Nat) : Int) := by rw [IntKind.wrap_i64]; omega
    have HCR : Hid (Value.int IntKind.i64 (mid : Int) = .int .i64 (r0 : Int)) := Lib.hid (by rw [hr0])
    have HCS : Hid (Value.int IntKind.i64 (s0 : Int) = .int .i64 (s0 : Int)) := Lib.hid rfl
    all_goals
      clear hs0 hr0
      go_enter Try.func20, Try.ntmps20
      go_upto_block 8 with (fail)
      try clear t7
      clear t1 t2 t3 t4 t5 t6 hh hc hc2 g1 g2 g3 g4 g5 hm1 hm2 hma hbm hbN
      go_cut [20] (fun u wx => ∃ s : Nat, u = .int .i64 s ∧ s0 ≤ s ∧ s ≤ r0 ∧ Hid (s = s0 ∨ Lt cf (nth A (s - 1 - a)) (nth B (mid - s))) ∧ Hid (s = r0 ∨ Lt cf (nth B (mid - s - 1)) (nth A (s - a))) ∧ Hid (StS w0 (P ++ (A ++ (B ++ S))) wx))
      case first =>
        go_wp2_with fail
        go_loopw [20, 21] (fun u v wr => ∃ s r : Nat, u = .int .i64 s ∧ v = .int .i64 r ∧ s0 ≤ s ∧ s ≤ r ∧ r ≤ r0 ∧ Hid (s = s0 ∨ Lt cf (nth A (s - 1 - a)) (nth B (mid - s))) ∧ Hid (r = r0 ∨ Lt cf (nth B (mid - r - 1)) (nth A (r - a))) ∧ Hid (StS w0 (P ++ (A ++ (B ++ S))) wr)) (fun u v _ => (intOf v).toNat - (intOf u).toNat)
        case atStart => exact ⟨s0, r0, by first | exact HCS.out | rfl, by first | exact HCR.out | rfl, Nat.le_refl _, HG.out.2.1, Nat.le_refl _, Lib.hid (.inl rfl), Lib.hid (.inl rfl), HS⟩
        case round =>
          clear HS HCS HCR
          obtain ⟨g1, g2, g3, g4, g5, hm1, hm2, hma, hbm, hbN, hsz⟩ := HG.out
          obtain ⟨s, r, rfl, rfl, hs0, hsr, hr0, H1, H2, HS⟩ := hrel
          by_cases hlt : s < r
          · obtain ⟨h, hh⟩ : ∃ h : Nat, ((s : Int) + (r : Int)) / 2 = h := ⟨(s + r) / 2, by omega⟩
            have hih : s ≤ h := by omega
            have hhj : h < r := by omega
            have hsl : (P ++ (A ++ (B ++ S))).length = N := by
              have := HD.out
              simp only [List.length_append]; omega
            have HNA : Hid (nth (P ++ (A ++ (B ++ S))) h = nth A (h - a)) := Lib.hid (by
              have hd := HD.out
              have := nth_mid P A (B ++ S) (h - a) (by omega)
              rw [show P.length + (h - a) = h by omega] at this
              exact this)
            have HNB : Hid (nth (P ++ (A ++ (B ++ S))) (mid + m - 1 - h) = nth B (mid - h - 1)) := Lib.hid (by
              have hd := HD.out
              have := nth_mid (P ++ A) B S (mid - h - 1) (by omega)
              rw [List.length_append, List.append_assoc, show P.length + A.length + (mid - h - 1) = mid + m - 1 - h by omega] at this
              exact this)
            have ch := HS.out.c (i := h) (by omega)
            have ca := HS.out.c (i := mid + m - 1 - h) (by omega)
            rw [HNA.out] at ch
            rw [HNB.out] at ca
            have hxA : nth A (h - a) ∈ A := nth_mem A _ (by have := HD.out; omega)
            have hyB : nth B (mid - h - 1) ∈ B := nth_mem B _ (by have := HD.out; omega)
            have hxy := HT.out.bef _ hxA _ hyB
            have hxr := HT.out.ra _ hxA
            have hyr := HT.out.rb _ hyB
            generalize hx : nth A (h - a) = x at *
            have HX := Lib.hid hx
            generalize hy : nth B (mid - h - 1) = y at *
            have HY := Lib.hid hy
            clear hx hy hxA hyB
            have e1 : ((h : Int)).toNat = h := by omega
            have t8 : IntKind.i64.wrap (((mid + m - 1 : Nat) : Int) - (h : Int)) = ((mid + m - 1 - h : Nat) : Int) := by rw [IntKind.wrap_i64]; omega
            have b1 : mid + m - 1 - h < N := by omega
            generalize hq : mid + m - 1 - h = q at *
            have HQ := Lib.hid hq; clear hq
            generalize hp : mid + m - 1 = p at *
            have HP := Lib.hid hp; clear hp
            have HALL : Hid (s0 ≤ s ∧ s ≤ r ∧ r ≤ r0 ∧ s < r ∧ s ≤ h ∧ h < r ∧ x < y) := Lib.hid ⟨hs0, hsr, hr0, hlt, hih, hhj, hxy⟩
            have hrN : r ≤ 1000000 := by omega
            have hhN : h < N := by omega
            obtain ⟨hx0, hx1⟩ := hxr
            obtain ⟨hy0, hy1⟩ := hyr
            clear g1 g2 g3 g4 g5 hm1 hm2 hma hbm hbN hs0 hsr hr0 hxy hsl
            go_upto_region 35 with (fail)
            have HH := Lib.hid hh
            clear hh hih hhj hlt hrN
            by_cases hc : cf y x < 0
            · have hd2 : decide (cf y x < 0) = true := decide_eq_true hc
              have H2' : Hid (h = r0 ∨ Lt cf (nth B (mid - h - 1)) (nth A (h - a))) := Lib.hid (.inr (by rw [HX.out, HY.out]; exact .inl hc))
              go_quiet ((go_at_call 15; exact Calls.quiet_of (HC.out _ y x (HS.out.ext.drewN _) hy0 hy1 hx0 hx1)))
              go_wp2_with fail
              go_roundw
              case rel => exact ⟨s, h, rfl, rfl, HALL.out.1, HALL.out.2.2.2.2.1, by have := HALL.out; omega, H1, H2', Lib.hid (HS.out.drewN _)⟩
              case measure => have := HALL.out; simp [intOf]; omega
            · have hd2 : decide (cf y x < 0) = false := decide_eq_false hc
              have H1' : Hid (h + 1 = s0 ∨ Lt cf (nth A (h + 1 - 1 - a)) (nth B (mid - (h + 1)))) := Lib.hid (.inr (by rw [show h + 1 - 1 - a = h - a by omega, show mid - (h + 1) = mid - h - 1 by omega, HX.out, HY.out]; exact HT.out.C.no HALL.out.2.2.2.2.2.2 hc))
              go_quiet ((go_at_call 15; exact Calls.quiet_of (HC.out _ y x (HS.out.ext.drewN _) hy0 hy1 hx0 hx1)))
              go_wp2_with fail
              go_roundw
              case rel => exact ⟨h + 1, r, by go_num, rfl, by have := HALL.out; omega, by have := HALL.out; omega, HALL.out.2.2.1, H1', H2, Lib.hid (HS.out.drewN _)⟩
              case measure => have := HALL.out; simp [intOf]; omega
          · obtain rfl : s = r := by omega
            go_wp2_with fail
            go_meet
            exact ⟨s, rfl, hs0, hr0, H1, H2, HS⟩
      case rest =>
        clear HS HCS HCR
        obtain ⟨s, rfl, hs0, hr0, H1, H2, HS⟩ := hcut
        obtain ⟨i, hi⟩ : ∃ i, s = a + i := ⟨s - a, by have := HG.out; omega⟩
        obtain ⟨j, hj⟩ : ∃ j, mid = s + j := ⟨mid - s, by have := HG.out; omega⟩
        have HL : Hid (i ≤ A.length ∧ j ≤ B.length ∧ s = a + i ∧ mid = s + j ∧ a = P.length ∧ m = a + A.length ∧ b = m + B.length ∧ N = b + S.length ∧ s ≤ m ∧ m + j ≤ b ∧ a + 2 ≤ m ∧ m + 2 ≤ b ∧ A.length + B.length ≤ f + 1 ∧ N ≤ 1000000 ∧ a < mid ∧ mid < b) := Lib.hid (by
          have h1 := HG.out
          have h2 := HD.out
          omega)
        have HJ := fun (X1 X2 : List Int) => sym_join (X1 := X1) (X2 := X2) HT.out.C HT.out.sa HT.out.sb i j HL.out.1 HL.out.2.1
          (by
            have h1 := HG.out
            have h2 := HD.out
            have h3 := HS0.out
            rcases H1.out with h | h
            · rcases h3 with h3 | h3
              · left; omega
              · right; left; omega
            · right; right
              rwa [show s - 1 - a = i - 1 by omega, show mid - s = j by omega] at h)
          (by
            have h1 := HG.out
            have h2 := HD.out
            have h3 := HR0.out
            rcases H2.out with h | h
            · rcases h3 with h3 | h3
              · left; omega
              · right; left; omega
            · right; right
              rwa [show mid - s - 1 = j - 1 by omega, show s - a = i by omega] at h)
        have HJN := Lib.hid HJ
        have HTA := Lib.hid (HT.out.sub (List.take_sublist i A) (List.take_sublist j B))
        have HTB := Lib.hid (HT.out.sub (List.drop_sublist i A) (List.drop_sublist j B))
        have HST : Hid (StS w0 (P ++ (A.take i ++ (A.drop i ++ (B.take j ++ (B.drop j ++ S))))) wc) := Lib.hid (by
          have h := HS.out
          rw [show A ++ (B ++ S) = A.take i ++ (A.drop i ++ (B.take j ++ (B.drop j ++ S))) by
            rw [← List.append_assoc (A.take i), List.take_append_drop, ← List.append_assoc (B.take j), List.take_append_drop]] at h
          exact h)
        have HLN : Hid ((A.take i).length = i ∧ (A.drop i).length = A.length - i ∧ (B.take j).length = j ∧ (B.drop j).length = B.length - j) := Lib.hid ⟨by rw [List.length_take]; have := HL.out; omega, by rw [List.length_drop], by rw [List.length_take]; have := HL.out; omega, by rw [List.length_drop]⟩
        clear HJ HS H1 H2 hs0 hr0 hi hj HS0 HR0 HG HT HD
        generalize A.take i = A1 at *
        generalize A.drop i = A2 at *
        generalize B.take j = B1 at *
        generalize B.drop j = B2 at *
        have t1 : IntKind.i64.wrap ((mid : Int) + (m : Int) - (s : Int)) = ((m + j : Nat) : Int) := by have := HL.out; rw [IntKind.wrap_i64]; omega
        have hmN : m + j ≤ 1000000 := by have := HL.out; omega
        have hsN : s ≤ 1000000 := by have := HL.out; omega
        have HA2 : Hid (A2.length = m - s) := Lib.hid (by have := HLN.out; have := HL.out; omega)
        have HB2 : Hid (B2.length = b - (m + j)) := Lib.hid (by have := HLN.out; have := HL.out; omega)
        have e3 : ((m + j : Nat) : Int) = (m : Int) + (j : Int) := by omega
        have HE3 := Lib.hid e3; clear e3
        go_upto_region 39 with (fail)
        clear t1
        rcases (show (s < m ∧ 0 < j) ∨ (s < m ∧ ¬ 0 < j) ∨ ¬ s < m by omega) with ⟨h1, m1⟩ | ⟨h1, m2⟩ | m3
        all_goals first
          | (have qq := m1
             have h1z : (s : Int) < (m : Int) := by omega
             have h2z : (0 : Int) < (j : Int) := by omega
             have hrot := rot_any L c N w0 wc (P ++ A1) A2 B1 (B2 ++ S) (by rw [List.append_assoc]; exact HST.out) (by have := HLN.out; have := HL.out; simp only [List.length_append]; omega) (by have := HL.out; omega) (by have := HA2.out; omega) (by have := HLN.out; omega) s m (m + j) (by rw [List.length_append]; have := HLN.out; have := HL.out; omega) (by rw [List.length_append]; have := HLN.out; have := HL.out; omega) (by rw [List.length_append]; have := HLN.out; have := HL.out; omega)
             rw [HE3.out] at hrot
             have HROT := Lib.hid hrot; clear hrot
             go_wp2_with fail
             (with_reducible refine HROT.out.mono ?_)
             rintro e w1 ⟨rfl, hs⟩
             have HS1 : Hid (StS w0 (P ++ (A1 ++ (B1 ++ (A2 ++ (B2 ++ S))))) w1) := Lib.hid (by rw [List.append_assoc] at hs; exact hs)
             clear hs HROT h1z h2z h1 m1 qq HST
             go_upto_region 41 with (fail))
          | (have qq := m2
             have hj0 : B1 = [] := List.length_eq_zero_iff.1 (by have := HLN.out; omega)
             have HS1 : Hid (StS w0 (P ++ (A1 ++ (B1 ++ (A2 ++ (B2 ++ S))))) wc) := Lib.hid (by have := HST.out; rw [hj0] at this ⊢; simpa using this)
             have h1z : (s : Int) < (m : Int) := by omega
             have h2z : ¬ (0 : Int) < (j : Int) := by omega
             have h2d : decide ((0 : Int) < (j : Int)) = false := decide_eq_false h2z
             clear HST hj0
             go_upto_region 41 with (fail)
             clear h1z h2z h2d h1 m2 qq
             generalize wc = w1 at *)
          | (have qq := m3
             have hj0 : A2 = [] := List.length_eq_zero_iff.1 (by have := HA2.out; omega)
             have HS1 : Hid (StS w0 (P ++ (A1 ++ (B1 ++ (A2 ++ (B2 ++ S))))) wc) := Lib.hid (by have := HST.out; rw [hj0] at this ⊢; simpa using this)
             have h1z : ¬ (s : Int) < (m : Int) := by omega
             have h1d : decide ((s : Int) < (m : Int)) = false := decide_eq_false h1z
             clear HST hj0
             go_upto_region 41 with (fail)
             clear h1z h1d m3 qq
             generalize wc = w1 at *)
        all_goals rcases (show (0 < i ∧ 0 < j) ∨ (0 < i ∧ ¬ 0 < j) ∨ ¬ 0 < i by omega) with ⟨g1, m1⟩ | ⟨g1, m2⟩ | m3
        all_goals first
          | (have qq := m1
             have g1z : (a : Int) < (s : Int) := by have := HL.out; omega
             have g2z : (s : Int) < (mid : Int) := by have := HL.out; omega
             have hih := HIH.out P A1 B1 (A2 ++ (B2 ++ S)) w1 (by have h1 := HL.out; have h2 := HLN.out; have h3 := HA2.out; omega) HS1.out HTA.out (by have := HLN.out; omega) (by have := HLN.out; omega) a s mid (by have := HL.out; omega) (by have := HL.out; have := HLN.out; omega) (by have := HL.out; have := HLN.out; omega) (by have := HL.out; have := HLN.out; simp only [List.length_append]; omega)
             have HI := Lib.hid hih; clear hih
             go_wp2_with fail
             (with_reducible refine HI.out.mono ?_)
             rintro e w2 ⟨rfl, X1, hp, hs, hst⟩
             have HX1 := Lib.hid (And.intro hp hs)
             have HS2 := Lib.hid hst
             clear hp hs hst HI HS1 g1z g2z g1 m1 qq
             go_upto_region 43 with (fail))
          | (have qq := m2
             have HX1 : Hid ((A1 ++ B1).Perm (A1 ++ B1) ∧ Sorted cf (A1 ++ B1)) := Lib.hid ⟨List.Perm.refl _, by
               have hj0 : B1 = [] := List.length_eq_zero_iff.1 (by have := HLN.out; omega)
               rw [hj0, List.append_nil]; exact HTA.out.sa⟩
             have HS2 : Hid (StS w0 (P ++ ((A1 ++ B1) ++ (A2 ++ (B2 ++ S)))) w1) := Lib.hid (by rw [List.append_assoc]; exact HS1.out)
             have HEX : Hid (∃ X1 : List Int, X1.Perm (A1 ++ B1) ∧ Sorted cf X1 ∧ StS w0 (P ++ (X1 ++ (A2 ++ (B2 ++ S)))) w1) := Lib.hid ⟨_, HX1.out.1, HX1.out.2, HS2.out⟩
             clear HX1 HS2
             obtain ⟨X1, hp, hs, hst⟩ := HEX.out
             have HX1 := Lib.hid (And.intro hp hs)
             have HS2 := Lib.hid hst
             clear hp hs hst HEX
             have g1z : (a : Int) < (s : Int) := by have := HL.out; omega
             have g2z : ¬ (s : Int) < (mid : Int) := by have := HL.out; omega
             have g2d : decide ((s : Int) < (mid : Int)) = false := decide_eq_false g2z
             clear HS1
             go_upto_region 43 with (fail)
             clear g1z g2z g2d g1 m2 qq
             generalize w1 = w2 at *)
          | (have qq := m3
             have HEX : Hid (∃ X1 : List Int, X1.Perm (A1 ++ B1) ∧ Sorted cf X1 ∧ StS w0 (P ++ (X1 ++ (A2 ++ (B2 ++ S)))) w1) := Lib.hid ⟨A1 ++ B1, List.Perm.refl _, by
               have hj0 : A1 = [] := List.length_eq_zero_iff.1 (by have := HLN.out; omega)
               rw [hj0, List.nil_append]; exact HTA.out.sb, by rw [List.append_assoc]; exact HS1.out⟩
             obtain ⟨X1, hp, hs, hst⟩ := HEX.out
             have HX1 := Lib.hid (And.intro hp hs)
             have HS2 := Lib.hid hst
             clear hp hs hst HEX
             have g1z : ¬ (a : Int) < (s : Int) := by have := HL.out; omega
             have g1d : decide ((a : Int) < (s : Int)) = false := decide_eq_false g1z
             clear HS1
             go_upto_region 43 with (fail)
             clear g1z g1d m3 qq
             generalize w1 = w2 at *)
        all_goals rcases (show (s < m ∧ m + j < b) ∨ (s < m ∧ ¬ m + j < b) ∨ ¬ s < m by omega) with ⟨k1, m1⟩ | ⟨k1, m2⟩ | m3
        all_goals first
          | (have qq := m1
             have k1z : (mid : Int) < (m : Int) + (j : Int) := by have := HL.out; omega
             have k2z : (m : Int) + (j : Int) < (b : Int) := by omega
             have hih := HIH.out (P ++ X1) A2 B2 S w2 (by have h1 := HL.out; have h2 := HLN.out; omega) (by rw [List.append_assoc]; exact HS2.out) HTB.out (by have := HA2.out; omega) (by have := HB2.out; omega) mid (m + j) b (by rw [List.length_append, HX1.out.1.length_eq, List.length_append]; have := HL.out; have := HLN.out; omega) (by rw [List.length_append, HX1.out.1.length_eq, List.length_append]; have := HL.out; have := HLN.out; omega) (by rw [List.length_append, HX1.out.1.length_eq, List.length_append]; have := HL.out; have := HLN.out; omega) (by rw [List.length_append, HX1.out.1.length_eq, List.length_append]; have := HL.out; have := HLN.out; omega)
             rw [HE3.out] at hih
             have HI := Lib.hid hih; clear hih
             go_wp2_with fail
             (with_reducible refine HI.out.mono ?_)
             rintro e w3 ⟨rfl, X2, hp, hs, hst⟩
             have HF := Lib.hid (HJN.out X1 X2 HX1.out.1 hp HX1.out.2 hs)
             have HS3 : Hid (StS w0 (P ++ ((X1 ++ X2) ++ S)) w3) := Lib.hid (by rw [List.append_assoc] at hst ⊢; exact hst)
             clear hp hs hst HI HS2 k1z k2z
             go_wp2_with fail
             go_end0
             unfold SortPost
             exact ⟨rfl, _, HF.out.2, HF.out.1, HS3.out⟩)
          | (have qq := m2
             have hf : (A2 ++ B2).Perm (A2 ++ B2) ∧ Sorted cf (A2 ++ B2) := ⟨List.Perm.refl _, by
               have hj0 : B2 = [] := List.length_eq_zero_iff.1 (by have := HB2.out; omega)
               rw [hj0, List.append_nil]; exact HTB.out.sa⟩
             have HF := Lib.hid (HJN.out X1 _ HX1.out.1 hf.1 HX1.out.2 hf.2)
             have HS3 : Hid (StS w0 (P ++ ((X1 ++ (A2 ++ B2)) ++ S)) w2) := Lib.hid (by have := HS2.out; simpa using this)
             have k1z : (mid : Int) < (m : Int) + (j : Int) := by have := HL.out; omega
             have k2z : ¬ (m : Int) + (j : Int) < (b : Int) := by omega
             have k2d : decide ((m : Int) + (j : Int) < (b : Int)) = false := decide_eq_false k2z
             clear hf HS2
             go_wp2_with fail
             go_end0
             unfold SortPost
             exact ⟨rfl, _, HF.out.2, HF.out.1, HS3.out⟩)
          | (have qq := m3
             have hf : (A2 ++ B2).Perm (A2 ++ B2) ∧ Sorted cf (A2 ++ B2) := ⟨List.Perm.refl _, by
               have hj0 : A2 = [] := List.length_eq_zero_iff.1 (by have := HA2.out; omega)
               rw [hj0, List.nil_append]; exact HTB.out.sb⟩
             have HF := Lib.hid (HJN.out X1 _ HX1.out.1 hf.1 HX1.out.2 hf.2)
             have HS3 : Hid (StS w0 (P ++ ((X1 ++ (A2 ++ B2)) ++ S)) w2) := Lib.hid (by have := HS2.out; simpa using this)
             have k1z : ¬ (mid : Int) < (m : Int) + (j : Int) := by have := HL.out; omega
             have k1d : decide ((mid : Int) < (m : Int) + (j : Int)) = false := decide_eq_false k1z
             clear hf HS2
             go_wp2_with fail
             go_end0
             unfold SortPost
             exact ⟨rfl, _, HF.out.2, HF.out.1, HS3.out⟩)

end Go.Proofs.Ythkfplkajlanoaa
