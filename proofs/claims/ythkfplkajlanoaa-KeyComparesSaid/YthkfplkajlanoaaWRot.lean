/-
  slices.swapRangeCmpFunc and slices.rotateCmpFunc, walked.
-/
import Derived.Test.YthkfplkajlanoaaWIns
namespace Go.Proofs.Ythkfplkajlanoaa
open Go.RowKit
open Srt (Sorted Lt)

/-- The first n of two ranges exchanged. -/
def swN (d : List Int) (a b : Nat) : Nat → List Int
  | 0 => d
  | n + 1 => sw (swN d a b n) (a + n) (b + n)
theorem swN_len (d : List Int) (a b : Nat) : ∀ n, (swN d a b n).length = d.length
  | 0 => rfl
  | n + 1 => by unfold swN; rw [sw_len, swN_len]

theorem sw_far (A B C : List Int) (x y : Int) : sw (A ++ (x :: (B ++ (y :: C)))) A.length (A.length + 1 + B.length) = A ++ (y :: (B ++ (x :: C))) := by
  have e1 : nth (A ++ (x :: (B ++ (y :: C)))) A.length = x := nth_append_at A _ x
  have e2 : nth (A ++ (x :: (B ++ (y :: C)))) (A.length + 1 + B.length) = y := by
    have := nth_append_at (A ++ x :: B) C y
    simp only [List.length_append, List.length_cons, List.append_assoc, List.cons_append] at this
    rw [show A.length + 1 + B.length = A.length + (B.length + 1) by omega]; exact this
  unfold sw
  rw [e1, e2, List.set_append_right _ _ (Nat.le_refl _), Nat.sub_self, List.set_cons_zero, List.set_append_right _ _ (by omega), show A.length + 1 + B.length - A.length = B.length + 1 by omega, List.set_cons_succ, List.set_append_right _ _ (Nat.le_refl _), Nat.sub_self, List.set_cons_zero]

theorem swN_blocks (P Z S : List Int) : ∀ (n : Nat) (X Y : List Int), X.length = Y.length → n ≤ X.length →
    swN (P ++ (X ++ (Z ++ (Y ++ S)))) P.length (P.length + X.length + Z.length) n = P ++ ((Y.take n ++ X.drop n) ++ (Z ++ ((X.take n ++ Y.drop n) ++ S)))
  | 0, X, Y, _, _ => by simp [swN]
  | n + 1, X, Y, hl, hn => by
    have ih := swN_blocks P Z S n X Y hl (by omega)
    have hx : n < X.length := by omega
    have hy : n < Y.length := by omega
    unfold swN
    rw [ih, drop_cons X n hx, drop_cons Y n hy, take_snoc X n hx, take_snoc Y n hy]
    have h := sw_far (P ++ Y.take n) (X.drop (n + 1) ++ (Z ++ X.take n)) (Y.drop (n + 1) ++ S) (nth X n) (nth Y n)
    have l1 : (P ++ Y.take n).length = P.length + n := by rw [List.length_append, List.length_take]; omega
    have l2 : (P ++ Y.take n).length + 1 + (X.drop (n + 1) ++ (Z ++ X.take n)).length = P.length + X.length + Z.length + n := by
      simp only [List.length_append, List.length_take, List.length_drop]; omega
    rw [l2, l1] at h
    simpa using h

theorem swN_whole (P X Z Y S : List Int) (h : X.length = Y.length) {a b n : Nat} (ha : a = P.length) (hb : b = P.length + X.length + Z.length) (hn : n = X.length) :
    swN (P ++ (X ++ (Z ++ (Y ++ S)))) a b n = P ++ (Y ++ (Z ++ (X ++ S))) := by
  subst ha hb hn
  rw [swN_blocks P Z S X.length X Y h (Nat.le_refl _), List.drop_of_length_le (Nat.le_refl _), List.take_of_length_le (Nat.le_refl _), h, List.take_of_length_le (Nat.le_refl _), List.drop_of_length_le (Nat.le_refl _)]
  simp

set_option maxRecDepth 100000 in
set_option maxHeartbeats 2000000 in
theorem swr_any (L c N : Nat) (w0 w : World) (d : List Int) (h : StS w0 d w) (hN : N = d.length) (hsz : N ≤ 1000000) (a b n : Nat) (ha : a + n ≤ N) (hb : b + n ≤ N) :
    Calls Try.prog 22 #[.slice (some ⟨w0.heap.size, 0, none⟩) N c, .int .i64 a, .int .i64 b, .int .i64 n, .func (.func 15) #[] #[.pointer (some ⟨L, 0, none⟩)]] w
      fun e w' => e = .returned (.tuple #[]) ∧ StS w0 (swN d a b n) w' := by
  have HS := Lib.hid h
  have HN := Lib.hid hN
  clear h hN
  go_enter Try.func22, Try.ntmps22
  go_wp2_with fail
  go_loopw [10] (fun v wr => ∃ i : Nat, i ≤ n ∧ v = .int .i64 i ∧ Hid (StS w0 (swN d a b i) wr)) (fun v _ => n - (intOf v).toNat)
  case atStart => exact ⟨0, Nat.zero_le _, rfl, HS⟩
  case round =>
    clear HS
    obtain ⟨i, hi, rfl, HS⟩ := hrel
    by_cases hlt : i < n
    · have hlN := swN_len d a b i
      have hN := HN.out
      have HNX : Hid (swN d a b (i + 1) = sw (swN d a b i) (a + i) (b + i)) := Lib.hid rfl
      generalize swN d a b i = di at *
      have ca := HS.out.c (i := a + i) (by omega)
      have cb := HS.out.c (i := b + i) (by omega)
      have fa := HS.out.f (a + i)
      have fb := HS.out.f (b + i)
      have cc := (HS.out.set (i := a + i) (by omega) (nth di (b + i))).c (i := b + i) (by rw [List.length_set]; omega)
      have hsw := HS.out.swap (i := a + i) (k := b + i) (by omega) (by omega)
      rw [← HNX.out] at hsw
      have HSW := Lib.hid hsw
      clear hsw hN hlN
      generalize nth di (a + i) = x at *
      generalize nth di (b + i) = y at *
      generalize nth (di.set (a + i) y) (b + i) = z at *
      have pa : (0 : Int) ≤ (a : Int) + (i : Int) := by omega
      have pb : (0 : Int) ≤ (b : Int) + (i : Int) := by omega
      have ba : (a : Int) + (i : Int) < (N : Int) := by omega
      have bb : (b : Int) + (i : Int) < (N : Int) := by omega
      have ra : IntKind.i64.wrap ((a : Int) + (i : Int)) = (a : Int) + (i : Int) := by rw [IntKind.wrap_i64]; omega
      have rb : IntKind.i64.wrap ((b : Int) + (i : Int)) = (b : Int) + (i : Int) := by rw [IntKind.wrap_i64]; omega
      have ea : ((a : Int) + (i : Int)).toNat = a + i := by omega
      have eb : ((b : Int) + (i : Int)).toNat = b + i := by omega
      go_wp2_with fail
      go_region
      all_goals go_wp2_with fail
      go_roundw
      case rel => exact ⟨i + 1, by omega, by go_num, Lib.hid (HSW.out.drewN 1)⟩
      case measure => simp [intOf]; omega
    · obtain rfl : i = n := by omega
      go_wp2_with fail
      go_end0
      exact ⟨rfl, HS.out⟩

end Go.Proofs.Ythkfplkajlanoaa
