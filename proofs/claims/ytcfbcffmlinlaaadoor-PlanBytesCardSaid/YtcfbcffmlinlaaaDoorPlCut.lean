/-
  strings.Split at a blank and strings.Cut at a byte 10, in the words of PlPure.
-/
import Derived.Test.YtcfbcffmlinlaaaDoorStr
import Derived.Test.YtcfbcffmlinlaaaDoorPlPure2
import Derived.Test.YtcfbcffmlinlaaaDoorShelf
namespace Go.Proofs.YtcfbcffmlinlaaaDoor
open Go.RowKit

namespace Pl
theorem index_no : ∀ {l : List UInt8} {c : UInt8}, c ∉ l → Lib.index l [c] = -1
  | [], c, _ => rfl
  | b :: l, c, h => by
    have h1 : ¬ b = c := fun e => h (by rw [e]; exact List.mem_cons_self ..)
    have ih := index_no (l := l) (c := c) (fun hm => h (List.mem_cons_of_mem _ hm))
    unfold Lib.index
    rw [if_neg (by simp [List.isPrefixOf]; exact fun e => h1 e.symm), ih]
    rfl
theorem index_yes : ∀ {w : List UInt8} {c : UInt8} (t : List UInt8), c ∉ w → Lib.index (w ++ c :: t) [c] = w.length
  | [], c, t, _ => by
    unfold Lib.index
    simp [List.isPrefixOf]
  | b :: w, c, t, h => by
    have h1 : ¬ b = c := fun e => h (by rw [e]; exact List.mem_cons_self ..)
    have ih := index_yes (w := w) (c := c) t (fun hm => h (List.mem_cons_of_mem _ hm))
    rw [List.cons_append]
    unfold Lib.index
    rw [if_neg (by simp [List.isPrefixOf]; exact fun e => h1 e.symm), ih, if_neg (by simp only [beq_iff_eq]; omega)]
    simp
theorem part_at (c : UInt8) : ∀ l : List UInt8, c ∉ l ∨ ∃ w t, l = w ++ c :: t ∧ c ∉ w
  | [] => .inl (by simp)
  | b :: l => by
    by_cases h : b = c
    · exact .inr ⟨[], l, by rw [h]; rfl, by simp⟩
    · rcases part_at c l with h1 | ⟨w, t, rfl, h2⟩
      · exact .inl (by simp only [List.mem_cons, not_or]; exact ⟨fun e => h e.symm, h1⟩)
      · exact .inr ⟨b :: w, t, rfl, by simp only [List.mem_cons, not_or]; exact ⟨fun e => h e.symm, h2⟩⟩

theorem cut_none {l : List UInt8} (h : cutL l = none) : Lib.cut l [10] = (l, [], false) := by
  unfold Lib.cut
  rw [index_no (cutL_none l h)]; rfl
theorem cut_some {l a b : List UInt8} (h : cutL l = some (a, b)) : Lib.cut l [10] = (a, b, true) := by
  obtain ⟨rfl, h2⟩ := cutL_back l a b h
  unfold Lib.cut
  rw [index_yes b h2, if_pos (by omega)]
  simp

theorem words_split (n : Nat) : ∀ l : List UInt8, l.length ≤ n → Lib.splitK [32] 0 (Lib.count l [32]) l = words l := by
  induction n with
  | zero =>
    intro l hl
    obtain rfl : l = [] := List.length_eq_zero_iff.1 (by omega)
    rw [Lib.count_miss (index_no (by simp))]; rfl
  | succ n ih =>
    intro l hl
    rcases part_at 32 l with h | ⟨w, t, rfl, h⟩
    · rw [Lib.count_miss (index_no h), words_none h]; rfl
    · have hi := index_yes t h
      rw [Lib.count_hit (by simp) hi, words_app t h]
      simp only [List.length_append, List.length_cons] at hl
      have hd : (w ++ 32 :: t).drop (w.length + [(32 : UInt8)].length) = t := by simp
      rw [hd, Nat.add_comm 1, Lib.splitK, hi, if_neg (by simp only [beq_iff_eq]; omega)]
      simp only [Int.toNat_natCast, Nat.add_zero]
      rw [hd, List.take_left, ih t (by omega)]
theorem words_size (l : List UInt8) : (words l).length ≤ l.length + 1 ∧ ∀ x ∈ words l, x.length ≤ l.length := by
  have h (n : Nat) : ∀ l : List UInt8, l.length ≤ n → (words l).length ≤ l.length + 1 ∧ ∀ x ∈ words l, x.length ≤ l.length := by
    induction n with
    | zero =>
      intro l hl
      obtain rfl : l = [] := List.length_eq_zero_iff.1 (by omega)
      exact ⟨by decide, by simp [words]⟩
    | succ n ih =>
      intro l hl
      rcases part_at 32 l with h | ⟨w, t, rfl, h⟩
      · rw [words_none h]; exact ⟨by simp, by simp⟩
      · rw [words_app t h]
        simp only [List.length_append, List.length_cons] at hl
        obtain ⟨i1, i2⟩ := ih t (by omega)
        refine ⟨by simp; omega, fun x hx => ?_⟩
        simp only [List.length_append, List.length_cons]
        rcases List.mem_cons.1 hx with rfl | hx
        · omega
        · have := i2 x hx; omega
  exact h l.length l (Nat.le_refl _)
end Pl
theorem plwords_split (l : List UInt8) : (Lib.splitB (St [32]) 0 (Lib.countB (St l) (St [32])) (St l)).map Value.string = (Pl.words l).map (fun x => Value.string (St x)) := by
  have h := Lib.splitB_data (St [32]) 0 (Lib.countB (St l) (St [32])) (St l)
  unfold Lib.countB at *
  rw [St_list, St_list, Pl.words_split l.length l (Nat.le_refl _)] at h
  rw [← h, List.map_map]
  apply List.map_congr_left
  intro x _
  obtain ⟨y, rfl⟩ := St_of x
  simp [Function.comp, St_list]
theorem plwords_len (l : List UInt8) : (Pl.words l).length = Lib.countB (St l) (St [32]) + 1 := by
  have h (n : Nat) : ∀ l : List UInt8, l.length ≤ n → (Pl.words l).length = Lib.count l [32] + 1 := by
    induction n with
    | zero =>
      intro l hl
      obtain rfl : l = [] := List.length_eq_zero_iff.1 (by omega)
      rw [Lib.count_miss (Pl.index_no (by simp))]; rfl
    | succ n ih =>
      intro l hl
      rcases Pl.part_at 32 l with h | ⟨w, t, rfl, h⟩
      · rw [Lib.count_miss (Pl.index_no h), Pl.words_none h]; rfl
      · have hi := Pl.index_yes t h
        rw [Lib.count_hit (by simp) hi, Pl.words_app t h]
        simp only [List.length_append, List.length_cons] at hl
        have hd : (w ++ 32 :: t).drop (w.length + [(32 : UInt8)].length) = t := by simp
        rw [hd, List.length_cons, ih t (by omega), Nat.add_comm 1]
  unfold Lib.countB
  rw [St_list, St_list]
  exact h l.length l (Nat.le_refl _)
theorem plwords_ne (l : List UInt8) : Pl.words l ≠ [] := fun h => by
  have := plwords_len l
  rw [h] at this; simp at this

/-- The library's own number, that Index reads, is a number. -/
def MaxAt (w : World) : Prop := ∃ m, w.cell? ⟨0, 0, none⟩ = some (.int .i64 m)
theorem MaxAt.ext {w w' : World} (h : MaxAt w) (e : Ext w w') : MaxAt w' := by
  obtain ⟨m, hm⟩ := h
  exact ⟨m, e.cell hm⟩

theorem split_any (l : List UInt8) (w : World) (hl : l.length ≤ 1000000) (hm : MaxAt w) :
    Calls Tryd.prog 54 #[.string (St l), .string (St [32])] w fun e w' =>
      e = .returned (.slice (some ⟨w.heap.size, 0, none⟩) (Pl.words l).length (Pl.words l).length) ∧ w' = w.alloc (.cells ((Pl.words l).map (fun x => Value.string (St x))).toArray 9) := by
  obtain ⟨m, hm⟩ := hm
  have h := Tryd.strings_Split (St l) (St [32]) m w (by rw [St_size]; omega) hm (by rw [St_size]; decide)
  rw [plwords_split, ← plwords_len] at h
  exact h

/-- What Cut hands back. -/
def cutV (l : List UInt8) : Option (List UInt8 × List UInt8) → Value
  | some (a, b) => .tuple #[.string (St a), .string (St b), .bool true]
  | none => .tuple #[.string (St l), .string (St []), .bool false]

theorem cut_any (l : List UInt8) (w : World) (hl : l.length ≤ 1000000) (hm : MaxAt w) :
    Calls Tryd.prog 22 #[.string (St l), .string (St [10])] w fun e w' => e = .returned (cutV l (Pl.cutL l)) ∧ ∃ n, w' = w.drewN n := by
  obtain ⟨m, hm⟩ := hm
  have h := Tryd.strings_Cut (St l) (St [10]) m w (by rw [St_size]; omega) hm
  rw [St_list, St_list] at h
  cases hc : Pl.cutL l with
  | none => rw [Pl.cut_none hc] at h; exact h
  | some p =>
    obtain ⟨a, b⟩ := p
    rw [Pl.cut_some hc] at h; exact h

end Go.Proofs.YtcfbcffmlinlaaaDoor
