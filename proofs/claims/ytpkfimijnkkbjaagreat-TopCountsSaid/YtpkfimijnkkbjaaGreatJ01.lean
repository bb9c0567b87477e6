/-
  Lists, no program in sight: the element at a place, as one word.
  Small words for all walks of this seat: a slice that reads as a list of integers, a world that only has more than it had.
  What came in as a slice of integers reads as a list.
-/
import Derived.WalkKit
import Derived.WalkSpells
import Derived.WalkLawsBesides
import Derived.BigQuiet
import Derived.Deep.QuietTactic
import Derived.Lib.Hide
import Derived.OpenShut
set_option linter.unusedVariables false
namespace Go.Proofs.YtpkfimijnkkbjaaGreat

/-- The element at a place; 0 beyond the end. -/
def nth (l : List Int) (i : Nat) : Int := l.getD i 0

theorem nth_cons_zero (x : Int) (l : List Int) : nth (x :: l) 0 = x := rfl
theorem nth_cons_succ (x : Int) (l : List Int) (i : Nat) : nth (x :: l) (i + 1) = nth l i := by simp [nth]
theorem nth_getElem (l : List Int) (i : Nat) (h : i < l.length) : l[i] = nth l i := by simp [nth, List.getElem?_eq_getElem h]
theorem getElem?_nth (l : List Int) (i : Nat) (h : i < l.length) : l[i]? = some (nth l i) := by rw [List.getElem?_eq_getElem h, nth_getElem l i h]
theorem take_snoc (l : List Int) (k : Nat) (h : k < l.length) : l.take (k + 1) = l.take k ++ [nth l k] := by
  rw [List.take_succ_eq_append_getElem h, nth_getElem]
theorem drop_cons (l : List Int) (k : Nat) (h : k < l.length) : l.drop k = nth l k :: l.drop (k + 1) := by
  rw [List.drop_eq_getElem_cons h, nth_getElem]
theorem nth_append_left (a b : List Int) (i : Nat) (h : i < a.length) : nth (a ++ b) i = nth a i := by
  simp [nth, List.getElem?_append_left h]
theorem nth_append_at (a b : List Int) (x : Int) : nth (a ++ x :: b) a.length = x := by simp [nth]
theorem nth_ext {a b : List Int} (hl : a.length = b.length) (h : ∀ i, i < a.length → nth a i = nth b i) : a = b := by
  apply List.ext_getElem hl
  intro i h1 h2
  rw [nth_getElem a i h1, nth_getElem b i h2]; exact h i h1
theorem nth_mem (l : List Int) (i : Nat) (h : i < l.length) : nth l i ∈ l := by rw [← nth_getElem l i h]; exact List.getElem_mem h

/-- The element at a place of a list of whatever make; d beyond the end. -/
def nthD {α : Type} (d : α) (l : List α) (i : Nat) : α := l.getD i d
section
variable {α : Type} (d : α)
theorem nthD_getElem (l : List α) (i : Nat) (h : i < l.length) : l[i] = nthD d l i := by simp [nthD, List.getElem?_eq_getElem h]
theorem getElem?_nthD (l : List α) (i : Nat) (h : i < l.length) : l[i]? = some (nthD d l i) := by rw [List.getElem?_eq_getElem h, nthD_getElem d l i h]
theorem takeD_snoc (l : List α) (k : Nat) (h : k < l.length) : l.take (k + 1) = l.take k ++ [nthD d l k] := by
  rw [List.take_succ_eq_append_getElem h, nthD_getElem d]
theorem dropD_cons (l : List α) (k : Nat) (h : k < l.length) : l.drop k = nthD d l k :: l.drop (k + 1) := by
  rw [List.drop_eq_getElem_cons h, nthD_getElem d]
theorem nthD_append_left (a b : List α) (i : Nat) (h : i < a.length) : nthD d (a ++ b) i = nthD d a i := by
  simp [nthD, List.getElem?_append_left h]
theorem nthD_append_right (a b : List α) (i : Nat) : nthD d (a ++ b) (a.length + i) = nthD d b i := by
  simp [nthD, List.getElem?_append_right]
theorem nthD_append_at (a b : List α) (x : α) : nthD d (a ++ x :: b) a.length = x := by simp [nthD]
theorem nthD_cons_zero (x : α) (l : List α) : nthD d (x :: l) 0 = x := rfl
theorem nthD_cons_succ (x : α) (l : List α) (i : Nat) : nthD d (x :: l) (i + 1) = nthD d l i := by simp [nthD]
theorem nthD_mem (l : List α) (i : Nat) (h : i < l.length) : nthD d l i ∈ l := by rw [← nthD_getElem d l i h]; exact List.getElem_mem h
theorem nthD_ext {a b : List α} (hl : a.length = b.length) (h : ∀ i, i < a.length → nthD d a i = nthD d b i) : a = b := by
  apply List.ext_getElem hl
  intro i h1 h2
  rw [nthD_getElem d a i h1, nthD_getElem d b i h2]; exact h i h1
end

end Go.Proofs.YtpkfimijnkkbjaaGreat

namespace Go.Proofs.YtpkfimijnkkbjaaGreat
open Go.RowKit

/-- All that was there is as it was. -/
def Ext (w w' : World) : Prop := Below w.heap.size w w'

theorem Ext.refl (w : World) : Ext w w := Below.refl _ _
theorem Ext.trans {a b c : World} (h : Ext a b) (k : Ext b c) : Ext a c := Below.trans h (Below.mono k h.size)
theorem Ext.drew {a w : World} (h : Ext a w) : Ext a w.drew := Below.drew h
theorem Ext.alloc {a w : World} (h : Ext a w) (o : Obj) : Ext a (w.alloc o) := Below.alloc h h.size o
theorem Ext.drewN {a w : World} (h : Ext a w) (n : Nat) : Ext a (w.drewN n) := h.trans ⟨rfl, rfl, rfl, Nat.le_refl _, fun _ _ => rfl⟩
theorem ext_of_below {a b c : World} (h : Below a.heap.size a b) (k : Below a.heap.size b c) : Ext a c := Below.trans h k
theorem Ext.cell {w w' : World} (h : Ext w w') {a : Addr} {v : Value} (hc : w.cell? a = some v) : w'.cell? a = some v :=
  (Below.cell h (World.block_lt_of_cell? w a hc)).trans hc

theorem addr_add (g o j : Nat) : (⟨g, o, none⟩ : Addr).add j = ⟨g, o + j, none⟩ := by unfold Addr.add; split <;> simp_all

/-- The slice value at a reads as zs (its length is zs.length, its kind k). -/
def IsInts (k : IntKind) (w : World) (a : Option Addr) (zs : List Int) : Prop :=
  zs = [] ∨ ∃ b off, a = some ⟨b, off, none⟩ ∧ ∀ i, i < zs.length → w.cell? ⟨b, off + i, none⟩ = some (.int k (nth zs i))

theorem IsInts.ext {k : IntKind} {w w' : World} {a : Option Addr} {zs : List Int} (h : IsInts k w a zs) (he : Ext w w') : IsInts k w' a zs := by
  rcases h with h | ⟨b, off, ha, hc⟩
  · exact .inl h
  · exact .inr ⟨b, off, ha, fun i hi => he.cell (hc i hi)⟩

theorem IsInts.nil (k : IntKind) (w : World) (a : Option Addr) : IsInts k w a [] := .inl rfl

theorem IsInts.at {k : IntKind} {w : World} {a : Option Addr} {zs : List Int} (h : IsInts k w a zs) {i : Nat} (hi : i < zs.length) :
    ∃ b off, a = some ⟨b, off, none⟩ ∧ w.cell? ⟨b, off + i, none⟩ = some (.int k (nth zs i)) := by
  rcases h with rfl | ⟨b, off, ha, hc⟩
  · simp at hi
  · exact ⟨b, off, ha, hc i hi⟩

theorem ints_fresh (k : IntKind) (w : World) (zs : List Int) (cs : Array Value) (hcs : cs = (zs.map (Value.int k)).toArray) (E : TypeId) (g : Nat) (hg : g = w.heap.size) :
    IsInts k (w.alloc (.cells cs E)) (some ⟨g, 0, none⟩) zs := by
  refine .inr ⟨g, 0, rfl, fun i hi => ?_⟩
  rw [World.cell?_alloc_at _ _ _ _ hg, hcs]
  simp [nth, List.getElem?_eq_getElem hi]

end Go.Proofs.YtpkfimijnkkbjaaGreat

namespace Go.Proofs.YtpkfimijnkkbjaaGreat
open Go.RowKit

theorem wf_i64_bounds {n : Int} (h : (Lit.int .i64 n).wf = true) : -9223372036854775808 ≤ n ∧ n ≤ 9223372036854775807 := by
  exact bounds_i64 h

theorem args_i64 {w : World} {a : Option Addr} {len cap : Nat} {zs : List Int}
    (h : (a = none ∧ len = 0 ∧ cap = 0 ∧ zs = []) ∨
      ∃ x, a = some x ∧ len ≤ cap ∧ cap ≤ maxLen ∧ zs.length = cap ∧ (∀ i, i < zs.length → w.cell? (x.add i) = some (.int .i64 (zs.getD i 0))) ∧ ∀ n ∈ zs, (Lit.int .i64 n).wf = true) :
    ∃ l : List Int, l.length = len ∧ IsInts .i64 w a l ∧ ∀ i, i < l.length → -9223372036854775808 ≤ nth l i ∧ nth l i ≤ 9223372036854775807 := by
  rcases h with ⟨rfl, rfl, rfl, rfl⟩ | ⟨⟨b, off, spot⟩, rfl, hl, hm, hz, hc, hw⟩
  · exact ⟨[], rfl, .inl rfl, fun i hi => by simp at hi⟩
  · refine ⟨zs.take len, by rw [List.length_take]; omega, ?_, ?_⟩
    · by_cases h0 : len = 0
      · subst h0; exact .inl (by simp)
      · have c0 := hc 0 (by omega)
        have hsp : spot = none := by simpa [Addr.add] using World.cell?_spot c0
        subst hsp
        refine .inr ⟨b, off, rfl, fun i hi => ?_⟩
        rw [List.length_take] at hi
        have := hc i (by omega)
        rw [addr_add] at this
        rw [this]
        simp only [nth]
        rw [List.getD_eq_getElem?_getD, List.getD_eq_getElem?_getD, List.getElem?_take_of_lt (by omega)]
    · intro i hi
      have hi2 := hi
      rw [List.length_take] at hi2
      apply wf_i64_bounds
      apply hw
      exact List.mem_of_mem_take (nth_mem _ i hi)

theorem args_cap {k : IntKind} {w : World} {a : Option Addr} {len cap : Nat} {zs : List Int}
    (h : (a = none ∧ len = 0 ∧ cap = 0 ∧ zs = []) ∨
      ∃ x, a = some x ∧ len ≤ cap ∧ cap ≤ maxLen ∧ zs.length = cap ∧ (∀ i, i < zs.length → w.cell? (x.add i) = some (.int k (zs.getD i 0))) ∧ ∀ n ∈ zs, (Lit.int k n).wf = true) :
    len ≤ cap ∧ cap ≤ 9223372036854775807 ∧ (a = none → cap = 0) := by
  rcases h with ⟨rfl, rfl, rfl, rfl⟩ | ⟨x, rfl, hl, hm, _, _, _⟩
  · exact ⟨Nat.le_refl _, by omega, fun _ => rfl⟩
  · unfold maxLen at hm
    exact ⟨hl, by omega, fun h => by cases h⟩

end Go.Proofs.YtpkfimijnkkbjaaGreat
