/-
  script.two and script.number: numbers in bytes.
-/
import Derived.Test.YtcfbcffmlinlaaaDoorScrRight
import Derived.Test.YtcfbcffmlinlaaaDoorBitsU
namespace Go.Proofs.YtcfbcffmlinlaaaDoor
open Go.RowKit

set_option maxHeartbeats 400000 in
theorem two_any (n : Int) (w : World) (h0 : 0 ≤ n) (h1 : n ≤ 65535) :
    Calls Tryd.prog 32 #[.int .i64 n] w fun e w' => e = .returned (.slice (some ⟨w.heap.size, 0, none⟩) 2 2) ∧ w' = w.alloc (.cells #[.int .u8 (n / 256), .int .u8 (n % 256)] 5) := by
  go_enter Tryd.func32, Tryd.ntmps32
  go_wp2
  go_ret
  exact ⟨rfl, rfl⟩

theorem Tryd.info5 : (Tryd.prog.info? 5).map (fun i => (i.zero, i.size, i.bytes)) = some (some (.int .u8 0), 1, 1) := by kernel_rfl

theorem IsInts.ownK {k : IntKind} {w : World} {B : Nat} {E : TypeId} {v : Value} {n : Nat} {xs : List Int} (h : w.ownsRow B E 1 v n (xs.map (Value.int k))) :
    ∃ a cap, v = .slice a n cap ∧ n = xs.length ∧ n ≤ cap ∧ IsInts k w a xs ∧ (a = none → cap = 0) := by
  have h0 := h
  obtain ⟨hl, h2⟩ := h
  have hln : n = xs.length := by simpa using hl.symm
  rcases h2 with ⟨rfl, rfl⟩ | ⟨g, cap, cur, rfl, hg, hh, hn, hm, hs, ht⟩
  · exact ⟨none, 0, rfl, hln, Nat.le_refl _, .inl (by simpa using hl), fun _ => rfl⟩
  · refine ⟨_, cap, rfl, hln, hn, .inr ⟨g, 0, rfl, fun i hi => ?_⟩, fun h => by cases h⟩
    have := h0.cells (g := g) rfl i (.int k (nth xs i)) (by rw [List.getElem?_map, getElem?_nth xs i hi]; rfl)
    rw [addr_add] at this; simpa using this

theorem IsInts.vals {k : IntKind} {w : World} {a : Option Addr} {xs : List Int} (h : IsInts k w a xs) : IsVals w a (xs.map (Value.int k)) := by
  rcases h with rfl | ⟨b, off, ha, hc⟩
  · exact .inl rfl
  · refine .inr ⟨b, off, ha, fun i hi => ?_⟩
    rw [List.length_map] at hi
    rw [hc i hi, List.getElem?_map, getElem?_nth xs i hi]; rfl

theorem oneCell_ints (k : IntKind) (l : List Int) : ∀ u ∈ l.map (Value.int k), u.oneCell' = true := by
  intro u hu
  obtain ⟨b, _, rfl⟩ := List.mem_map.1 hu
  rfl

/-- What script.number answers. -/
def NumPost (x : Int) (w : World) (e : Ending) (w' : World) : Prop :=
  ∃ a cap, e = .returned (.slice a (numB 10 x).length cap) ∧ (a = none → cap = 0) ∧ IsInts .u8 w' a (numB 10 x) ∧ Ext w w'

theorem numB_step (f : Nat) (y : Int) (h : 127 < y) : numB (f + 1) y = (128 + y % 128) :: numB f (y / 128) := by
  show (if y ≤ 127 then _ else _) = _
  rw [if_neg (by omega)]
theorem numB_end (f : Nat) (y : Int) (h : y ≤ 127) : numB f y = [y] := by
  cases f with
  | zero => rfl
  | succ f => show (if y ≤ 127 then _ else _) = _; rw [if_pos h]

theorem num_k (x y : Int) (k : Nat) (hx : x < 18446744073709551616) (h : y * weight k ≤ x) (hy : 127 < y) : k ≤ 8 := by
  by_cases hk : k ≤ 8
  · exact hk
  · have h9 := weight_mono (show 9 ≤ k by omega)
    rw [weight_nine] at h9
    have := Int.mul_le_mul_of_nonneg_right (show 128 ≤ y by omega) (Int.le_of_lt (weight_pos k))
    omega

theorem num_next (x y : Int) (k : Nat) (h : y * weight k ≤ x) (h0 : 0 ≤ y) : y / 128 * weight (k + 1) ≤ x := by
  rw [weight_succ, Int.mul_comm (weight k) 128, ← Int.mul_assoc]
  have hp := weight_pos k
  have : y / 128 * 128 * weight k ≤ y * weight k := Int.mul_le_mul_of_nonneg_right (by omega) (Int.le_of_lt hp)
  omega

set_option maxHeartbeats 1000000 in
theorem number_any (x : Int) (w : World) (h : u64Ok x) :
    Calls Tryd.prog 33 #[.int .u64 x] w (NumPost x w) := by
  obtain ⟨h0, h1⟩ := h
  have HX1 := Lib.hid h1
  go_enter Tryd.func33, Tryd.ntmps33
  go_wp2
  go_loopw [0, 3] (fun v o wr => ∃ (y : Int) (k : Nat) (done : List Int), v = .int .u64 y ∧ 0 ≤ y ∧ y < 18446744073709551616 ∧ k ≤ 9 ∧ Hid (done.length = k) ∧ Hid (y * weight k ≤ x) ∧ Hid (numB 10 x = done ++ numB (10 - k) y) ∧
      wr.ownsRow w.heap.size 5 1 o k (done.map (Value.int .u8)) ∧ Below w.heap.size w wr) (fun v _ _ => (intOf v).toNat)
  case atStart => exact ⟨x, 0, [], rfl, h0, h1, by omega, Lib.hid rfl, Lib.hid (by rw [weight_zero]; omega), Lib.hid rfl, World.ownsRow_nil _ _ _ _, Below.refl _ _⟩
  case round =>
    obtain ⟨y, k, done, rfl, y0, y1, hk, HL, HY, HE, hown, hb⟩ := hrel
    have HO := Lib.hid hown; clear hown
    have HB := Lib.hid hb; clear hb
    by_cases hy : 127 < y
    · have hk8 := num_k x y k HX1.out HY.out hy
      have b1 := u64_and127 y y0 y1
      have b2 := u64_or128 (y % 128) (by omega) (by omega)
      go_wp2_with (at_builtin; refine wpList_app1 rfl (.tmp 8) (.tmp 13) 43 rfl w.heap.size 5 _ 1 Tryd.underlying43 Tryd.info5 rfl _ _ _ (.int .u8 (128 + y % 128)) _ rfl (HO.out.alloc _) rfl ?_ rfl ?_ ?_ ?_ ?_; rotate_right; intro v' w1 ho hg hbb)
      any_goals (first | (rw [World.cell?_alloc_at _ _ _ _ (by simp)]; rfl) | (simp; done) | (unfold maxLen; omega) | omega | (have := HB.out.size; simp; omega))
      have HO2 := Lib.hid ho; clear ho
      have HB2 := Lib.hid ((HB.out.alloc HB.out.size _).trans hbb)
      clear hbb hg
      go_wp2
      go_roundw
      case rel =>
        refine ⟨y / 128, k + 1, done ++ [128 + y % 128], by go_num, by omega, by omega, by omega, Lib.hid (by rw [List.length_append, HL.out]; rfl), Lib.hid (num_next x y k HY.out y0), Lib.hid ?_, by rw [List.map_append]; exact HO2.out, HB2.out⟩
        have e : 10 - k = (10 - (k + 1)) + 1 := by omega
        rw [HE.out, e, numB_step _ y hy, List.append_assoc]; rfl
      case measure => simp [intOf]; omega
    · have hfin : numB 10 x = done ++ [y] := by rw [HE.out, numB_end _ y (by omega)]
      have HF := Lib.hid hfin; clear hfin
      go_wp2_with (at_builtin; refine wpList_app1 rfl (.tmp 15) (.tmp 18) 43 rfl w.heap.size 5 _ 1 Tryd.underlying43 Tryd.info5 rfl _ _ _ (.int .u8 y) _ rfl (HO.out.alloc _) rfl ?_ rfl ?_ ?_ ?_ ?_; rotate_right; intro v' w1 ho hg hbb)
      any_goals (first | (rw [World.cell?_alloc_at _ _ _ _ (by simp)]; rfl) | (simp; done) | (unfold maxLen; omega) | omega | (have := HB.out.size; simp; omega))
      go_wp2
      go_ret
      have hown : w1.ownsRow w.heap.size 5 1 v' (k + 1) ((numB 10 x).map (Value.int .u8)) := by rw [HF.out, List.map_append]; exact ho
      obtain ⟨a, cap, rfl, hn, _, hi, hnil⟩ := IsInts.ownK hown
      exact ⟨a, cap, by rw [← hn]; rfl, hnil, hi, (HB.out.alloc HB.out.size _).trans hbb⟩

end Go.Proofs.YtcfbcffmlinlaaaDoor
