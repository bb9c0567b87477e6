/-
  slices.rotateCmpFunc, walked.
-/
import Derived.Test.YthkfplkajlanoaaWRot
namespace Go.Proofs.Ythkfplkajlanoaa
open Go.RowKit

set_option maxRecDepth 100000 in
set_option maxHeartbeats 2000000 in
theorem rot_any (L c N : Nat) (w0 w : World) (P A B S : List Int) (h : StS w0 (P ++ (A ++ (B ++ S))) w) (hN : N = P.length + (A.length + (B.length + S.length))) (hsz : N ≤ 1000000) (hA : 0 < A.length) (hB : 0 < B.length)
    (a m b : Nat) (ha : a = P.length) (hm : m = P.length + A.length) (hb : b = P.length + A.length + B.length) :
    Calls Try.prog 21 #[.slice (some ⟨w0.heap.size, 0, none⟩) N c, .int .i64 a, .int .i64 m, .int .i64 b, .func (.func 15) #[] #[.pointer (some ⟨L, 0, none⟩)]] w
      fun e w' => e = .returned (.tuple #[]) ∧ StS w0 (P ++ (B ++ (A ++ S))) w' := by
  have HS := Lib.hid h
  have HN := Lib.hid hN
  have hij : ((m - a : Nat) : Int) = (m : Int) - (a : Int) := by omega
  have hma : a ≤ m := by omega
  have hbm : m ≤ b := by omega
  have hbN : b ≤ N := by omega
  have h1 : IntKind.i64.wrap ((m : Int) - (a : Int)) = ((m - a : Nat) : Int) := by rw [IntKind.wrap_i64]; omega
  have h2 : IntKind.i64.wrap ((b : Int) - (m : Int)) = ((b - m : Nat) : Int) := by rw [IntKind.wrap_i64]; omega
  have HD : Hid (m - a = A.length ∧ b - m = B.length ∧ m = P.length + A.length ∧ N = P.length + (A.length + (B.length + S.length))) := Lib.hid ⟨by omega, by omega, hm, hN⟩
  have hpA : 0 < m - a := by omega
  have hpB : 0 < b - m := by omega
  clear h hN ha hm hb hij hA hB
  generalize hT : P ++ (B ++ (A ++ S)) = T at *
  have HT := Lib.hid hT; clear hT
  go_enter Try.func21, Try.ntmps21
  go_wp2_with fail
  go_loopw [10, 11] (fun u v wr => ∃ (i j : Nat) (P' A' B' S' : List Int), u = .int .i64 i ∧ v = .int .i64 j ∧ 0 < i ∧ 0 < j ∧ i ≤ m ∧ m + j ≤ N ∧ Hid (i = A'.length ∧ j = B'.length ∧ m = P'.length + A'.length ∧ N = P'.length + (A'.length + (B'.length + S'.length))) ∧ Hid (P' ++ (B' ++ (A' ++ S')) = T) ∧ Hid (StS w0 (P' ++ (A' ++ (B' ++ S'))) wr)) (fun u v _ => (intOf u).toNat + (intOf v).toNat)
  case atStart => exact ⟨m - a, b - m, P, A, B, S, rfl, rfl, hpA, hpB, by omega, by omega, HD, HT, HS⟩
  case round =>
    clear HS HT HN HD hpA hpB h1 h2
    obtain ⟨i, j, P', A', B', S', rfl, rfl, hi, hj, him, hjN, HD, HT, HS⟩ := hrel
    have e1 : ((m - i : Nat) : Int) = (m : Int) - (i : Int) := by omega
    have h1 : IntKind.i64.wrap ((m : Int) - (i : Int)) = ((m - i : Nat) : Int) := by rw [IntKind.wrap_i64]; omega
    clear e1
    rcases Nat.lt_trichotomy i j with hlt | heq | hgt
    · have t1 : ((i : Int) != (j : Int)) = true := by rw [bne_iff_ne]; omega
      have t2 : decide ((i : Int) > (j : Int)) = false := decide_eq_false (by omega)
      have t3 : ¬ (i : Int) > (j : Int) := by omega
      have h2 : IntKind.i64.wrap ((m : Int) + (j : Int)) = (m : Int) + (j : Int) := by rw [IntKind.wrap_i64]; omega
      have h3 : IntKind.i64.wrap ((m : Int) + (j : Int) - (i : Int)) = ((m + j - i : Nat) : Int) := by rw [IntKind.wrap_i64]; omega
      have h4 : IntKind.i64.wrap ((j : Int) - (i : Int)) = ((j - i : Nat) : Int) := by rw [IntKind.wrap_i64]; omega
      have hBs : ∃ Z Y : List Int, B' = Z ++ Y ∧ Y.length = i ∧ Z.length = j - i := by
        have hd := HD.out
        exact ⟨B'.take (j - i), B'.drop (j - i), (List.take_append_drop _ _).symm, by rw [List.length_drop]; omega, by rw [List.length_take]; omega⟩
      obtain ⟨Z, Y, rfl, hY, hZ⟩ := hBs
      have HY := Lib.hid hY; clear hY
      have HZ := Lib.hid hZ; clear hZ
      have HN : Hid (N = (P' ++ (A' ++ ((Z ++ Y) ++ S'))).length) := Lib.hid (by have := HD.out; simp only [List.length_append] at this ⊢; omega)
      have HW : Hid (swN (P' ++ (A' ++ ((Z ++ Y) ++ S'))) (m - i) (m + j - i) i = P' ++ (Y ++ (Z ++ (A' ++ S')))) := Lib.hid (by
        have hd := HD.out
        have hy := HY.out
        have hz := HZ.out
        rw [List.append_assoc Z Y S']
        exact swN_whole P' A' Z Y S' (by omega) (by omega) (by omega) (by omega))
      go_wp2_with fail
      refine (swr_any L c N w0 wr _ HS.out HN.out hsz (m - i) (m + j - i) i (by omega) (by omega)).mono ?_
      rintro e w' ⟨rfl, hs⟩
      rw [HW.out] at hs
      have HS2 := Lib.hid hs; clear hs
      go_wp2_with fail
      go_roundw
      case rel =>
        refine ⟨i, j - i, P', Y, Z, A' ++ S', rfl, rfl, hi, by omega, by omega, by omega, Lib.hid ?_, Lib.hid ?_, HS2⟩
        · have hd := HD.out
          have hy := HY.out
          have hz := HZ.out
          simp only [List.length_append] at hd ⊢
          omega
        · rw [← HT.out]; simp
      case measure => simp [intOf]; omega
    · subst heq
      have t1 : ((i : Int) != (i : Int)) = false := by simp
      have HN : Hid (N = (P' ++ (A' ++ (B' ++ S'))).length) := Lib.hid (by have := HD.out; simp only [List.length_append] at this ⊢; omega)
      have HW : Hid (swN (P' ++ (A' ++ (B' ++ S'))) (m - i) m i = T) := Lib.hid (by
        have hd := HD.out
        rw [← HT.out]
        exact swN_whole P' A' [] B' S' (by omega) (by omega) (by simp; omega) (by omega))
      go_wp2_with fail
      refine (swr_any L c N w0 wr _ HS.out HN.out hsz (m - i) m i (by omega) (by omega)).mono ?_
      rintro e w' ⟨rfl, hs⟩
      rw [HW.out] at hs
      have HS2 := Lib.hid hs; clear hs
      go_wp2_with fail
      go_end0
      exact ⟨rfl, HS2.out⟩
    · have t1 : ((i : Int) != (j : Int)) = true := by rw [bne_iff_ne]; omega
      have t2 : decide ((i : Int) > (j : Int)) = true := decide_eq_true (by omega)
      have t3 : (i : Int) > (j : Int) := by omega
      have h4 : IntKind.i64.wrap ((i : Int) - (j : Int)) = ((i - j : Nat) : Int) := by rw [IntKind.wrap_i64]; omega
      have hAs : ∃ X Z : List Int, A' = X ++ Z ∧ X.length = j ∧ Z.length = i - j := by
        have hd := HD.out
        exact ⟨A'.take j, A'.drop j, (List.take_append_drop _ _).symm, by rw [List.length_take]; omega, by rw [List.length_drop]; omega⟩
      obtain ⟨X, Z, rfl, hX, hZ⟩ := hAs
      have HX := Lib.hid hX; clear hX
      have HZ := Lib.hid hZ; clear hZ
      have HN : Hid (N = (P' ++ ((X ++ Z) ++ (B' ++ S'))).length) := Lib.hid (by have := HD.out; simp only [List.length_append] at this ⊢; omega)
      have HW : Hid (swN (P' ++ ((X ++ Z) ++ (B' ++ S'))) (m - i) m j = (P' ++ B') ++ (Z ++ (X ++ S'))) := Lib.hid (by
        have hd := HD.out
        have hx := HX.out
        have hz := HZ.out
        rw [List.append_assoc X Z, List.append_assoc P' B']
        exact swN_whole P' X Z B' S' (by omega) (by omega) (by simp only [List.length_append] at hd; omega) (by omega))
      go_wp2_with fail
      refine (swr_any L c N w0 wr _ HS.out HN.out hsz (m - i) m j (by omega) (by omega)).mono ?_
      rintro e w' ⟨rfl, hs⟩
      rw [HW.out] at hs
      have HS2 := Lib.hid hs; clear hs
      go_wp2_with fail
      go_roundw
      case rel =>
        refine ⟨i - j, j, P' ++ B', Z, X, S', rfl, rfl, by omega, hj, by omega, by omega, Lib.hid ?_, Lib.hid ?_, HS2⟩
        · have hd := HD.out
          have hx := HX.out
          have hz := HZ.out
          simp only [List.length_append] at hd ⊢
          omega
        · rw [← HT.out]; simp
      case measure => simp [intOf]; omega

end Go.Proofs.Ythkfplkajlanoaa
