/-
  slices.insertionSortCmpFunc, walked.
-/
import Derived.Test.YthkfplkajlanoaaWSt
import Derived.Outline
import Derived.BigRegion
namespace Go.Proofs.Ythkfplkajlanoaa
open Go.RowKit
open Srt (Sorted Lt)

/-- What is known while one number sinks to its place: ahead of it Y1, behind it Y2, all that is in order. -/
structure Sinks (cf : Int → Int → Int) (P Y1 Y2 R : List Int) (x : Int) : Prop where
  ord : Sorted cf (Y1 ++ Y2)
  back : ∀ y ∈ Y2, Lt cf x y

theorem Sinks.step {cf : Int → Int → Int} (C : Srt.Cmp cf) {P Y1 Y2 R : List Int} {x l : Int} (h : Sinks cf P (Y1 ++ [l]) Y2 R x) (hl : cf x l < 0) : Sinks cf P Y1 (l :: Y2) R x := by
  refine ⟨by simpa using h.ord, fun y hy => ?_⟩
  rcases List.mem_cons.1 hy with rfl | hy
  · exact Lt.yes hl
  · exact h.back y hy
theorem Sinks.stop {cf : Int → Int → Int} (C : Srt.Cmp cf) {P Y1 Y2 R : List Int} {x l : Int} (h : Sinks cf P (Y1 ++ [l]) Y2 R x) (hlx : l < x) (hl : ¬ cf x l < 0) : Sorted cf (Y1 ++ [l] ++ x :: Y2) :=
  Sorted.mid C h.ord (Srt.Sorted.all_last C (Srt.Sorted.app.1 h.ord).1 (C.no hlx hl)) h.back
theorem Sinks.bottom {cf : Int → Int → Int} {P Y2 R : List Int} {x : Int} (h : Sinks cf P [] Y2 R x) : Sorted cf (x :: Y2) :=
  List.pairwise_cons.2 ⟨h.back, by have := h.ord; rw [List.nil_append] at this; exact this⟩

/-- One number among others. -/
def dat (P Y : List Int) (x : Int) (Z : List Int) : List Int := P ++ (Y ++ x :: Z)
theorem dat_len (P Y : List Int) (x : Int) (Z : List Int) : (dat P Y x Z).length = P.length + (Y.length + (Z.length + 1)) := by simp [dat]
theorem dat_at (P Y : List Int) (x : Int) (Z : List Int) : nth (dat P Y x Z) (P.length + Y.length) = x := by
  have := nth_append_at (P ++ Y) Z x
  rw [List.length_append, List.append_assoc] at this
  exact this
theorem dat_back (P Y : List Int) (l x : Int) (Z : List Int) : dat P (Y ++ [l]) x Z = dat P Y l (x :: Z) := by simp [dat]
theorem dat_sw (P Y : List Int) (l x : Int) (Z : List Int) : sw (dat P Y l (x :: Z)) (P.length + Y.length + 1) (P.length + Y.length) = dat P Y x (l :: Z) := by
  have := sw_adj (P ++ Y) Z l x
  rw [List.length_append, List.append_assoc, List.append_assoc] at this
  exact this

/-- What becomes of a piece that is sorted. -/
def SortPost (cf : Int → Int → Int) (w0 : World) (P X S : List Int) (e : Ending) (w' : World) : Prop :=
  e = .returned (.tuple #[]) ∧ ∃ X' : List Int, X'.Perm X ∧ Sorted cf X' ∧ StS w0 (P ++ (X' ++ S)) w'

theorem take_one_perm {X Y : List Int} {k : Nat} {x : Int} (hp : Y.Perm (X.take k)) (hk : k < X.length) (hx : nth X k = x) {Y1 Y2 : List Int} (h : Y1 ++ Y2 = Y) : (Y1 ++ x :: Y2).Perm (X.take (k + 1)) := by
  rw [take_snoc X k hk, hx]
  have h1 : (Y1 ++ x :: Y2).Perm (x :: (Y1 ++ Y2)) := List.perm_middle
  rw [h] at h1
  exact h1.trans ((hp.cons x).trans (List.perm_append_singleton x (X.take k)).symm)

set_option maxRecDepth 100000 in
set_option maxHeartbeats 2000000 in
theorem ins_any (cf : Int → Int → Int) (C : Srt.Cmp cf) (n L c N : Nat) (w0 w : World) (P X S : List Int) (hcmp : CmpAt cf n L w0) (h : StS w0 (P ++ (X ++ S)) w) (hr : ∀ x ∈ X, 0 ≤ x ∧ x < n) (hinc : X.Pairwise (· < ·))
    (a b : Nat) (ha : a = P.length) (hb : b = P.length + X.length) (hN : N = P.length + (X.length + S.length)) (hsz : N ≤ 1000000) :
    Calls Try.prog 19 #[.slice (some ⟨w0.heap.size, 0, none⟩) N c, .int .i64 a, .int .i64 b, .func (.func 15) #[] #[.pointer (some ⟨L, 0, none⟩)]] w (SortPost cf w0 P X S) := by
  have HC := Lib.hid hcmp
  have HS := Lib.hid h
  have HR := Lib.hid hr
  have HI := Lib.hid hinc
  have HA := Lib.hid ha
  have HB := Lib.hid hb
  have HN := Lib.hid hN
  have hab : a ≤ b := by omega
  have hbN : b ≤ N := by omega
  clear hcmp h hr hinc ha hb hN
  go_enter Try.func19, Try.ntmps19
  go_wp2_with fail
  go_loopw [8] (fun v wr => ∃ (k : Nat) (Y : List Int), 1 ≤ k ∧ v = .int .i64 ((a + k : Nat) : Int) ∧ k ≤ b - a + 1 ∧ Hid (Y.Perm (X.take k)) ∧ Hid (Sorted cf Y) ∧ Hid (StS w0 (P ++ (Y ++ (X.drop k ++ S))) wr)) (fun v _ => b - (intOf v).toNat)
  case atStart =>
    refine ⟨1, X.take 1, Nat.le_refl _, by go_num, by omega, Lib.hid (List.Perm.refl _), Lib.hid ?_, Lib.hid ?_⟩
    · cases X with
      | nil => simp [Sorted]
      | cons x r => simp [Sorted]
    · rw [← List.append_assoc (X.take 1), List.take_append_drop]; exact HS.out
  case round =>
    clear HS
    obtain ⟨k, Y, hk1, rfl, hkb, HP, HO, HS⟩ := hrel
    by_cases hlt : a + k < b
    · have hkX : k < X.length := by have := HA.out; have := HB.out; omega
      have hYl : Y.length = k := by rw [HP.out.length_eq, List.length_take]; omega
      have HX := Lib.hid (show nth X k = nth X k from rfl)
      have hxm := HR.out _ (nth_mem X k hkX)
      have HYX : Hid (∀ y ∈ Y, y < nth X k ∧ 0 ≤ y ∧ y < n) := Lib.hid (fun y hy => by
        have hm := HP.out.mem_iff.1 hy
        obtain ⟨q, hq, rfl⟩ := List.getElem_of_mem hm
        rw [List.length_take] at hq
        have hqk : q < k := by omega
        rw [List.getElem_take]
        have h1 := List.pairwise_iff_getElem.1 HI.out q k (by omega) hkX hqk
        rw [nth_getElem X k hkX] at h1
        exact ⟨h1, HR.out _ (List.getElem_mem _)⟩)
      have HD : Hid (StS w0 (dat P Y (nth X k) (X.drop (k + 1) ++ S)) wr) := Lib.hid (by have := HS.out; rw [drop_cons X k hkX] at this; exact this)
      have HSK : Hid (Srt.Cmp cf ∧ Sinks cf P Y [] (X.drop (k + 1) ++ S) (nth X k)) := Lib.hid ⟨C, by rw [List.append_nil]; exact HO.out, by simp⟩
      have HT := fun (Y1 Y2 : List Int) (h : Y1 ++ Y2 = Y) => take_one_perm HP.out hkX rfl h
      have HTK := Lib.hid HT; clear HT HX
      generalize hx : nth X k = x at *
      clear hx
      generalize hRR : X.drop (k + 1) ++ S = R at *
      have HRR := Lib.hid hRR; clear hRR
      go_wp2_with fail
      go_loopw [9] (fun v wr => ∃ Y1 Y2 : List Int, Hid (Y1 ++ Y2 = Y) ∧ v = .int .i64 ((a + Y1.length : Nat) : Int) ∧ Hid (Srt.Cmp cf ∧ Sinks cf P Y1 Y2 R x) ∧ Hid (StS w0 (dat P Y1 x (Y2 ++ R)) wr)) (fun v _ => (intOf v).toNat)
      case atStart => exact ⟨Y, [], Lib.hid (List.append_nil Y), by rw [hYl], HSK, by rw [List.nil_append]; exact HD⟩
      case round =>
        clear HD HSK
        obtain ⟨Y1, Y2, HY, rfl, HSK, HD⟩ := hrel
        have hYL : Y1.length + Y2.length = k := by rw [← hYl, ← HY.out, List.length_append]
        rcases List.eq_nil_or_concat Y1 with rfl | ⟨Y1', l, rfl⟩
        · have hd : decide ((a : Int) > (a : Int)) = false := decide_eq_false (by omega)
          have HO2 := Lib.hid HSK.out.2.bottom
          have HP2 := Lib.hid (HTK.out [] Y2 HY.out)
          have HD2 : Hid (StS w0 (P ++ (([] ++ x :: Y2) ++ (X.drop (k + 1) ++ S))) wr) := Lib.hid (by rw [HRR.out]; exact HD.out)
          clear HSK HY HD
          go_wp2_with fail
          go_quiet (fail)
          go_wp2_with fail
          go_roundw
          case rel => exact ⟨k + 1, _, by omega, by go_num, by omega, HP2, HO2, Lib.hid (HD2.out.drewN _)⟩
          case measure => simp [intOf]; omega
        · rw [List.concat_eq_append] at *
          obtain ⟨l1, l2, l3⟩ := HYX.out l (by rw [← HY.out]; simp)
          have HB2 := Lib.hid (dat_back P Y1' l x (Y2 ++ R))
          have HD2 : Hid (StS w0 (dat P Y1' l (x :: (Y2 ++ R))) wr) := Lib.hid (by rw [← HB2.out]; exact HD.out)
          have hdl := dat_len P Y1' l (x :: (Y2 ++ R))
          have hdN : (dat P Y1' l (x :: (Y2 ++ R))).length = N := by
            have hRl := congrArg List.length HRR.out
            have h1 := HN.out
            simp only [List.length_append, List.length_drop, List.length_cons, List.length_nil] at hRl hdl hYL
            omega
          have HAT1 := Lib.hid (dat_at P Y1' l (x :: (Y2 ++ R)))
          have HAT2 : Hid (nth (dat P Y1' l (x :: (Y2 ++ R))) (P.length + Y1'.length + 1) = x) := Lib.hid (by
            rw [← HB2.out]; have := dat_at P (Y1' ++ [l]) x (Y2 ++ R); rw [List.length_append] at this; exact this)
          have HSW := Lib.hid (dat_sw P Y1' l x (Y2 ++ R))
          have hjN : a + Y1'.length + 1 < N := by simp at hYL; omega
          have hE : a + (Y1' ++ [l]).length = a + Y1'.length + 1 := by simp; omega
          have HPJ : Hid (P.length + Y1'.length = a + Y1'.length) := Lib.hid (by rw [← HA.out])
          rw [HPJ.out] at HAT1 HAT2 HSW
          generalize hdd : dat P Y1' l (x :: (Y2 ++ R)) = d at *
          have HDD := Lib.hid hdd; clear hdd
          have c1 := HD2.out.c (i := a + Y1'.length + 1) (by omega)
          have c0 := HD2.out.c (i := a + Y1'.length) (by omega)
          rw [HAT2.out] at c1
          rw [HAT1.out] at c0
          have hcall := HC.out wr x l HD2.out.ext hxm.1 hxm.2 l2 l3
          have HCALL := Lib.hid hcall; clear hcall
          clear hdl
          rw [hE]
          clear hE
          have haj : a < a + Y1'.length + 1 := by omega
          generalize hjp : a + Y1'.length = jp at *
          have HJ := Lib.hid hjp; clear hjp
          have hajd : decide ((jp : Int) + 1 > (a : Int)) = true := decide_eq_true (by omega)
          have hajz : (a : Int) < (jp : Int) + 1 := by omega
          have r1 : IntKind.i64.wrap ((jp : Int) + 1 - 1) = (jp : Int) := by rw [IntKind.wrap_i64]; omega
          have e1 : ((jp : Int) + 1).toNat = jp + 1 := by omega
          have p1 : (0 : Int) ≤ (jp : Int) + 1 := by omega
          have b1 : (jp : Int) + 1 < (N : Int) := by omega
          have b0 : (jp : Int) < (N : Int) := by omega
          by_cases hlt2 : cf x l < 0
          · have hd2 : decide (cf x l < 0) = true := decide_eq_true hlt2
            go_wp2_with fail
            go_quiet ((go_at_call 15; exact Calls.quiet_of (HC.out _ x l (HD2.out.ext.drewN _) hxm.1 hxm.2 l2 l3)))
            have HD3 := Lib.hid (HD2.out.drewN nq)
            clear c1 c0 HD2 hd2
            generalize wr.drewN nq = w2 at *
            go_wp2_with fail
            have hdj : jp + 1 < d.length := by omega
            have k1 := HD3.out.c hdj
            have k0 := HD3.out.c (i := jp) (by omega)
            have f1 := HD3.out.f (jp + 1)
            have f0 := HD3.out.f jp
            have k2 := (HD3.out.set hdj l).c (i := jp) (by rw [List.length_set]; omega)
            rw [HAT2.out] at k1
            rw [HAT1.out] at k0
            have HSWP := HD3.out.swap hdj (k := jp) (by omega)
            rw [HAT2.out, HAT1.out, HSW.out] at HSWP
            have HSWPD := Lib.hid HSWP; clear HSWP
            go_region
            all_goals go_wp2_with fail
            go_roundw
            case rel => exact ⟨Y1', l :: Y2, Lib.hid (by rw [← HY.out]; simp), by rw [HJ.out], Lib.hid ⟨HSK.out.1, HSK.out.2.step HSK.out.1 hlt2⟩, Lib.hid (HSWPD.out.drewN 1)⟩
            case measure => simp [intOf]
          · have hd2 : decide (cf x l < 0) = false := decide_eq_false hlt2
            have HO2 := Lib.hid (HSK.out.2.stop HSK.out.1 l1 hlt2)
            have HP2 := Lib.hid (HTK.out _ Y2 HY.out)
            have HD2' : Hid (StS w0 (P ++ ((Y1' ++ [l] ++ x :: Y2) ++ (X.drop (k + 1) ++ S))) wr) := Lib.hid (by
              rw [HRR.out]
              have h := HD2.out
              rw [← HDD.out] at h
              simpa [dat] using h)
            clear hlt2
            go_wp2_with fail
            go_quiet ((go_at_call 15; exact Calls.quiet_of (HC.out _ x l (HD2.out.ext.drewN _) hxm.1 hxm.2 l2 l3)))
            go_wp2_with fail
            go_roundw
            case rel => exact ⟨k + 1, _, by omega, by go_num, by omega, HP2, HO2, Lib.hid (HD2'.out.drewN _)⟩
            case measure => simp [intOf]; omega
    · have hk : X.length ≤ k := by have := HA.out; have := HB.out; omega
      have HP2 : Hid (Y.Perm X) := Lib.hid (by have := HP.out; rw [List.take_of_length_le hk] at this; exact this)
      have HS2 : Hid (StS w0 (P ++ (Y ++ S)) wr) := Lib.hid (by have := HS.out; rw [List.drop_of_length_le hk, List.nil_append] at this; exact this)
      go_wp2_with fail
      go_end0
      unfold SortPost
      exact ⟨rfl, Y, HP2.out, HO.out, HS2.out⟩

end Go.Proofs.Ythkfplkajlanoaa
