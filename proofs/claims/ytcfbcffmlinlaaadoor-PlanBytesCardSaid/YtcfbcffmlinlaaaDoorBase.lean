/-
  Small words for all walks of this seat: a slice that reads as a list of integers, a world that only has more than it had.
-/
import Derived.WalkKit
import Derived.WalkSpells
import Derived.WalkLawsBesides
import Derived.BigQuiet
import Derived.Deep.QuietTactic
import Derived.Lib.Hide
import Derived.Test.YtcfbcffmlinlaaaDoorLists
namespace Go.Proofs.YtcfbcffmlinlaaaDoor
open Go.RowKit

/-- All that was there is as it was. -/
def Ext (w w' : World) : Prop := Below w.heap.size w w'

theorem Ext.refl (w : World) : Ext w w := Below.refl _ _
theorem Ext.trans {a b c : World} (h : Ext a b) (k : Ext b c) : Ext a c := Below.trans h (Below.mono k h.size)
theorem Ext.drew {a w : World} (h : Ext a w) : Ext a w.drew := Below.drew h
theorem Ext.alloc {a w : World} (h : Ext a w) (o : Obj) : Ext a (w.alloc o) := Below.alloc h h.size o
theorem Ext.drewN {a w : World} (h : Ext a w) (n : Nat) : Ext a (w.drewN n) := h.trans ⟨rfl, rfl, rfl, Nat.le_refl _, fun _ _ => rfl⟩
theorem ext_of_below {a b c : World} (h : Below a.heap.size a b) (k : Below a.heap.size b c) : Ext a c := Below.trans h k
theorem Ext.cell {w w' : World} (h : Ext w w') {a : Addr} {v : Value} (hc : w.cell? a = some v) : w'.cell? a = some v :=
  (Below.cell h (World.block_lt_of_cell? w a hc)).trans hc

theorem addr_add (g o j : Nat) : (⟨g, o, none⟩ : Addr).add j = ⟨g, o + j, none⟩ := by unfold Addr.add; split <;> simp_all

/-- The slice value at a reads as zs (its length is zs.length, its kind k). -/
def IsInts (k : IntKind) (w : World) (a : Option Addr) (zs : List Int) : Prop :=
  zs = [] ∨ ∃ b off, a = some ⟨b, off, none⟩ ∧ ∀ i, i < zs.length → w.cell? ⟨b, off + i, none⟩ = some (.int k (nth zs i))

theorem IsInts.ext {k : IntKind} {w w' : World} {a : Option Addr} {zs : List Int} (h : IsInts k w a zs) (he : Ext w w') : IsInts k w' a zs := by
  rcases h with h | ⟨b, off, ha, hc⟩
  · exact .inl h
  · exact .inr ⟨b, off, ha, fun i hi => he.cell (hc i hi)⟩

theorem IsInts.nil (k : IntKind) (w : World) (a : Option Addr) : IsInts k w a [] := .inl rfl

theorem IsInts.at {k : IntKind} {w : World} {a : Option Addr} {zs : List Int} (h : IsInts k w a zs) {i : Nat} (hi : i < zs.length) :
    ∃ b off, a = some ⟨b, off, none⟩ ∧ w.cell? ⟨b, off + i, none⟩ = some (.int k (nth zs i)) := by
  rcases h with rfl | ⟨b, off, ha, hc⟩
  · simp at hi
  · exact ⟨b, off, ha, hc i hi⟩

theorem ints_fresh (k : IntKind) (w : World) (zs : List Int) (cs : Array Value) (hcs : cs = (zs.map (Value.int k)).toArray) (E : TypeId) (g : Nat) (hg : g = w.heap.size) :
    IsInts k (w.alloc (.cells cs E)) (some ⟨g, 0, none⟩) zs := by
  refine .inr ⟨g, 0, rfl, fun i hi => ?_⟩
  rw [World.cell?_alloc_at _ _ _ _ hg, hcs]
  simp [nth, List.getElem?_eq_getElem hi]

end Go.Proofs.YtcfbcffmlinlaaaDoor
