/-
  The reference's Number: a number's bytes.
-/
import Derived.Test.YtmnkkmgfkodmhaaScrEnc
namespace Go.Proofs.Ytmnkkmgfkodmhaa
open Go.RowKit

set_option maxHeartbeats 1000000 in
theorem rnumber_any (x : Int) (w : World) (h : u64Ok x) :
    Calls Try.prog 20 #[.int .u64 x] w (NumPost x w) := by
  obtain ⟨h0, h1⟩ := h
  have HX1 := Lib.hid h1
  go_enter Try.func20, Try.ntmps20
  go_wp2
  go_loopw [0, 3, 4] (fun v o c wr => ∃ (y : Int) (k : Nat) (done : List Int), v = .int .u64 y ∧ c = .int .i64 k ∧ 0 ≤ y ∧ y < 18446744073709551616 ∧ k ≤ 9 ∧ Hid (done.length = k) ∧ Hid (y * weight k ≤ x) ∧ Hid (numB 10 x = done ++ numB (10 - k) y) ∧
      wr.ownsRow w.heap.size 5 1 o k (done.map (Value.int .u8)) ∧ Below w.heap.size w wr) (fun _ _ c _ => 10 - (intOf c).toNat)
  case atStart => exact ⟨x, 0, [], rfl, rfl, h0, h1, by omega, Lib.hid rfl, Lib.hid (by rw [weight_zero]; omega), Lib.hid rfl, World.ownsRow_nil _ _ _ _, Below.refl _ _⟩
  case round =>
    obtain ⟨y, k, done, rfl, rfl, y0, y1, hk, HL, HY, HE, hown, hb⟩ := hrel
    have HO := Lib.hid hown; clear hown
    have HB := Lib.hid hb; clear hb
    by_cases hy : 127 < y
    · have hk8 := num_k x y k HX1.out HY.out hy
      go_wp2_with (at_builtin; refine wpList_app1 rfl (.tmp 8) (.tmp 13) 28 rfl w.heap.size 5 _ 1 Try.underlying28 Try.info5 rfl _ _ _ (.int .u8 (128 + y % 128)) _ rfl (HO.out.alloc _) rfl ?_ rfl ?_ ?_ ?_ ?_; rotate_right; intro v' w1 ho hg hbb)
      any_goals (first | (rw [World.cell?_alloc_at _ _ _ _ (by simp)]; rfl) | (simp; done) | (unfold maxLen; omega) | omega | (have := HB.out.size; simp; omega))
      have HO2 := Lib.hid ho; clear ho
      have HB2 := Lib.hid ((HB.out.alloc HB.out.size _).trans hbb)
      clear hbb hg
      go_wp2
      go_roundw
      case rel =>
        refine ⟨y / 128, k + 1, done ++ [128 + y % 128], by go_num, by go_num, by omega, by omega, by omega, Lib.hid (by rw [List.length_append, HL.out]; rfl), Lib.hid (num_next x y k HY.out y0), Lib.hid ?_, by rw [List.map_append]; exact HO2.out, HB2.out⟩
        have e : 10 - k = (10 - (k + 1)) + 1 := by omega
        rw [HE.out, e, numB_step _ y hy, List.append_assoc]; rfl
      case measure => simp [intOf]; omega
    · have hfin : numB 10 x = done ++ [y] := by rw [HE.out, numB_end _ y (by omega)]
      have HF := Lib.hid hfin; clear hfin
      go_wp2_with (at_builtin; refine wpList_app1 rfl (.tmp 18) (.tmp 21) 28 rfl w.heap.size 5 _ 1 Try.underlying28 Try.info5 rfl _ _ _ (.int .u8 y) _ rfl (HO.out.alloc _) rfl ?_ rfl ?_ ?_ ?_ ?_; rotate_right; intro v' w1 ho hg hbb)
      any_goals (first | (rw [World.cell?_alloc_at _ _ _ _ (by simp)]; rfl) | (simp; done) | (unfold maxLen; omega) | omega | (have := HB.out.size; simp; omega))
      go_wp2
      go_ret
      have hown : w1.ownsRow w.heap.size 5 1 v' (k + 1) ((numB 10 x).map (Value.int .u8)) := by rw [HF.out, List.map_append]; exact ho
      obtain ⟨a, cap, rfl, hn, _, hi, hnil⟩ := IsInts.ownK hown
      exact ⟨a, cap, by rw [← hn]; rfl, hnil, hi, (HB.out.alloc HB.out.size _).trans hbb⟩

end Go.Proofs.Ytmnkkmgfkodmhaa
