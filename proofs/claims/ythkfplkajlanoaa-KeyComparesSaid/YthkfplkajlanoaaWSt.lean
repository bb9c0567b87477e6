/-
  The row that is sorted, as it lies in memory; what an exchange makes of it.
-/
import Derived.Test.YthkfplkajlanoaaWKeys
import Derived.Deep.OwnRows
import Derived.BigRegion
import Derived.IntWalk
namespace Go.Proofs.Ythkfplkajlanoaa
open Go.RowKit

/-- The call's own row has these numbers; all that was there is as it was. -/
structure StS (w0 : World) (d : List Int) (w : World) : Prop where
  ext : Ext w0 w
  row : w.rowIs w0.heap.size 3 d.length (fun i => .int .i64 (nth d i))

theorem StS.drewN {w0 : World} {d : List Int} {w : World} (h : StS w0 d w) (n : Nat) : StS w0 d (w.drewN n) := ⟨h.ext.drewN n, h.row⟩
theorem StS.c {w0 : World} {d : List Int} {w : World} (h : StS w0 d w) {i : Nat} (hi : i < d.length) : w.cell? ⟨w0.heap.size, i, none⟩ = some (.int .i64 (nth d i)) := h.row.cell hi
theorem StS.f {w0 : World} {d : List Int} {w : World} (h : StS w0 d w) (i : Nat) : w.frozen? ⟨w0.heap.size, i, none⟩ = false := h.row.frozen i

/-- Two of a list exchanged. -/
def sw (d : List Int) (i k : Nat) : List Int := (d.set i (nth d k)).set k (nth d i)
theorem sw_len (d : List Int) (i k : Nat) : (sw d i k).length = d.length := by simp [sw]
theorem nth_set (d : List Int) (i j : Nat) (x : Int) (h : i < d.length) : nth (d.set i x) j = if j = i then x else nth d j := by
  unfold nth
  rw [List.getD_eq_getElem?_getD, List.getElem?_set]
  by_cases e : j = i
  · subst e; simp [h]
  · rw [if_neg (fun h => e h.symm), if_neg e, List.getD_eq_getElem?_getD]
theorem sw_nth (d : List Int) {i k : Nat} (hi : i < d.length) (hk : k < d.length) (j : Nat) : nth (sw d i k) j = if j = k then nth d i else if j = i then nth d k else nth d j := by
  unfold sw
  rw [nth_set _ _ _ _ (by simpa using hk), nth_set _ _ _ _ hi]

theorem StS.set {w0 : World} {d : List Int} {w : World} (h : StS w0 d w) {i : Nat} (hi : i < d.length) (x : Int) : StS w0 (d.set i x) (w.setCell ⟨w0.heap.size, i, none⟩ (.int .i64 x)) := by
  refine ⟨h.ext.setCell (Nat.le_refl _) _, ?_⟩
  rw [List.length_set]
  refine (h.row.set i (.int .i64 x)).congr (fun j hj => ?_)
  rw [nth_set _ _ _ _ hi]
  split <;> rfl
theorem StS.swap {w0 : World} {d : List Int} {w : World} (h : StS w0 d w) {i k : Nat} (hi : i < d.length) (hk : k < d.length) :
    StS w0 (sw d i k) ((w.setCell ⟨w0.heap.size, i, none⟩ (.int .i64 (nth d k))).setCell ⟨w0.heap.size, k, none⟩ (.int .i64 (nth d i))) :=
  (h.set hi (nth d k)).set (by simpa using hk) (nth d i)

theorem sw_adj (a b : List Int) (l x : Int) : sw (a ++ l :: x :: b) (a.length + 1) a.length = a ++ x :: l :: b := by
  apply nth_ext
  · rw [sw_len]; simp
  intro j hj
  rw [sw_nth _ (by simp) (by simp)]
  have e1 : nth (a ++ l :: x :: b) a.length = l := nth_append_at a (x :: b) l
  have e2 : nth (a ++ l :: x :: b) (a.length + 1) = x := by
    have := nth_append_at (a ++ [l]) b x
    simpa using this
  have e3 : nth (a ++ x :: l :: b) a.length = x := nth_append_at a (l :: b) x
  have e4 : nth (a ++ x :: l :: b) (a.length + 1) = l := by
    have := nth_append_at (a ++ [x]) b l
    simpa using this
  by_cases h1 : j = a.length
  · subst h1; rw [if_pos rfl, e2, e3]
  · rw [if_neg h1]
    by_cases h2 : j = a.length + 1
    · subst h2; rw [if_pos rfl, e1, e4]
    · rw [if_neg h2]
      by_cases h3 : j < a.length
      · rw [nth_append_left _ _ _ h3, nth_append_left _ _ _ h3]
      · obtain ⟨q, rfl⟩ : ∃ q, j = a.length + (q + 2) := ⟨j - a.length - 2, by omega⟩
        simp [nth, List.getElem?_append_right]

/-- What comparing is to whoever sorts: quiet, and it tells how two of the row's numbers stand to one another. -/
def CmpAt (cf : Int → Int → Int) (n L : Nat) (w0 : World) : Prop :=
  ∀ (w : World) (x y : Int), Ext w0 w → 0 ≤ x → x < n → 0 ≤ y → y < n →
    Calls Try.prog 15 #[.int .i64 x, .int .i64 y, .pointer (some ⟨L, 0, none⟩)] w fun e w' => e = .returned (.int .i64 (cf x y)) ∧ ∃ n, w' = w.drewN n

theorem CmpAt.of (ms : List KM) (a : Option Addr) (c L : Nat) (w0 : World) (hk : KeysAt ms a w0) (hl : ms.length ≤ 9223372036854775807) (hL : w0.cell? ⟨L, 0, none⟩ = some (.slice a ms.length c)) :
    CmpAt (cfK (keysOf ms)) ms.length L w0 := by
  intro w x y he x0 x1 y0 y1
  obtain ⟨i, rfl⟩ := Int.eq_ofNat_of_zero_le x0
  obtain ⟨j, rfl⟩ := Int.eq_ofNat_of_zero_le y0
  exact clos_nat ms a c L i j w (hk.ext he) hl (he.cell hL) (by omega) (by omega)

end Go.Proofs.Ythkfplkajlanoaa
