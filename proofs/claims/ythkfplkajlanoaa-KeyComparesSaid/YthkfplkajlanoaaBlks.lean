/-
  Blocks of memory: what stays as it was.
-/
import Derived.Test.YthkfplkajlanoaaOwn
namespace Go.Proofs.Ythkfplkajlanoaa
open Go.RowKit

theorem block_ext {w w' : World} {k : Nat} {x : Obj} (he : Ext w w') (h : w.heap[k]? = some x) : w'.heap[k]? = some x := by
  rw [he.block k (Array.getElem?_eq_some_iff.1 h).1]; exact h
theorem block_lt {w : World} {k : Nat} {x : Obj} (h : w.heap[k]? = some x) : k < w.heap.size := (Array.getElem?_eq_some_iff.1 h).1
theorem block_cell {w : World} {k : Nat} {cs : Array Value} {E : TypeId} {f : Nat × Nat} (h : w.heap[k]? = some (.cells cs E f)) (i : Nat) {v : Value} (hv : cs[i]? = some v) : w.cell? ⟨k, i, none⟩ = some v := by
  simp [World.cell?, h, hv]

/-- All blocks that were there are as they were, but for R. -/
def Keep (R : Nat) (w w' : World) : Prop := w.grownBy w' (some R)
theorem Keep.refl (R : Nat) (w : World) : Keep R w w := ⟨rfl, rfl, rfl, Nat.le_refl _, fun _ _ _ => rfl⟩
theorem Keep.trans {R : Nat} {a b c : World} (h : Keep R a b) (k : Keep R b c) : Keep R a c := World.grownBy.trans h k
theorem Keep.size {R : Nat} {a b : World} (h : Keep R a b) : a.heap.size ≤ b.heap.size := World.grownBy.size h
theorem Keep.of_ext {R : Nat} {a b : World} (h : Ext a b) : Keep R a b := ⟨h.os, h.tape, h.output, h.size, fun k hk _ => h.block k hk⟩
theorem Keep.alloc {R : Nat} {a w : World} (h : Keep R a w) (o : Obj) : Keep R a (w.alloc o) := h.trans (Keep.of_ext ((Ext.refl w).alloc o))
theorem Keep.drewN {R : Nat} {a w : World} (h : Keep R a w) (n : Nat) : Keep R a (w.drewN n) := h.trans (Keep.of_ext ((Ext.refl w).drewN n))
theorem keep_set (R i : Nat) (w : World) (v : Value) : Keep R w (w.setCell ⟨R, i, none⟩ v) :=
  ⟨rfl, rfl, rfl, by simp, fun k _ hne => heap_setCell_other w _ k v (by intro h; exact hne (by rw [h]))⟩
theorem Keep.below {R : Nat} {w0 a b : World} (h : Keep R a b) (h0 : Below R w0 a) (hR : R ≤ a.heap.size) : Below R w0 b :=
  ⟨h.os.trans h0.os, h.tape.trans h0.tape, h.output.trans h0.output, Nat.le_trans h0.size h.size, fun k hk => (World.grownBy.block h k (by omega) (by intro he; simp at he; omega)).trans (h0.block k hk)⟩
theorem Keep.block {R : Nat} {a b : World} (h : Keep R a b) {k : Nat} {x : Obj} (hk : k ≠ R) (hx : a.heap[k]? = some x) : b.heap[k]? = some x := by
  rw [World.grownBy.block h k (block_lt hx) (by intro he; simp at he; exact hk he)]; exact hx
theorem Keep.cell {R : Nat} {a b : World} (h : Keep R a b) {p : Addr} {v : Value} (hk : p.block ≠ R) (hx : a.cell? p = some v) : b.cell? p = some v := by
  rw [World.cell?_of_block (World.grownBy.block h p.block (World.block_lt_of_cell? _ _ hx) (by intro he; simp at he; exact hk he))]; exact hx
theorem Keep.own {R : Nat} {a b : World} (h : Keep R a b) {B : Nat} {E : TypeId} {size n : Nat} {v : Value} {xs : List Value} (ho : a.ownsRow B E size v n xs) (hB : R < B) : b.ownsRow B E size v n xs := by
  refine ⟨ho.1, ?_⟩
  rcases ho.2 with h2 | ⟨g, cap, cur, hv, hg, hh, r⟩
  · exact .inl h2
  · exact .inr ⟨g, cap, cur, hv, hg, h.block (by omega) hh, r⟩

/-- The block k holds these cells. -/
def Blk (w : World) (k : Nat) (cs : Array Value) (E : TypeId) : Prop := w.heap[k]? = some (.cells cs E (0, 0))
theorem Blk.new (w : World) (cs : Array Value) (E : TypeId) : Blk (w.alloc (.cells cs E)) w.heap.size cs E := heap_alloc_new w _
theorem Blk.lt {w : World} {k : Nat} {cs : Array Value} {E : TypeId} (h : Blk w k cs E) : k < w.heap.size := block_lt h
theorem Blk.cell {w : World} {k : Nat} {cs : Array Value} {E : TypeId} (h : Blk w k cs E) (i : Nat) {v : Value} (hv : cs[i]? = some v) : w.cell? ⟨k, i, none⟩ = some v := block_cell h i hv
theorem Blk.fz {w : World} {k : Nat} {cs : Array Value} {E : TypeId} (h : Blk w k cs E) (i : Nat) : w.frozen? ⟨k, i, none⟩ = false := by
  unfold Blk at h; simp [World.frozen?, h]
theorem Blk.keep {w w' : World} {R k : Nat} {cs : Array Value} {E : TypeId} (h : Blk w k cs E) (hk : Keep R w w') (hne : k ≠ R) : Blk w' k cs E := hk.block hne h
theorem Blk.ext {w w' : World} {k : Nat} {cs : Array Value} {E : TypeId} (h : Blk w k cs E) (he : Ext w w') : Blk w' k cs E := block_ext he h
theorem Blk.alloc {w : World} {k : Nat} {cs : Array Value} {E : TypeId} (h : Blk w k cs E) (o : Obj) : Blk (w.alloc o) k cs E := h.ext ((Ext.refl w).alloc o)
theorem Blk.set {w : World} {k : Nat} {cs : Array Value} {E : TypeId} (h : Blk w k cs E) (i : Nat) (v : Value) : Blk (w.setCell ⟨k, i, none⟩ v) k (cs.setIfInBounds i v) E := heap_setCell_same w k i cs E v h
theorem Blk.set_ne {w : World} {k : Nat} {cs : Array Value} {E : TypeId} (h : Blk w k cs E) {b i : Nat} (hne : k ≠ b) (v : Value) : Blk (w.setCell ⟨b, i, none⟩ v) k cs E := by
  unfold Blk; rw [heap_setCell_other w _ k v hne]; exact h
theorem Blk.grown {w w' : World} {row : Option Nat} {k : Nat} {cs : Array Value} {E : TypeId} (h : Blk w k cs E) (hg : w.grownBy w' row) (hne : row ≠ some k) : Blk w' k cs E := by
  unfold Blk; rw [hg.block k h.lt (fun h => hne h.symm)]; exact h

theorem Keep.then_below {R : Nat} {w a b : World} (h : Keep R w a) (k : Below w.heap.size a b) : Keep R w b :=
  ⟨k.os.trans h.os, k.tape.trans h.tape, k.output.trans h.output, Nat.le_trans h.size k.size, fun i hi hne => (k.block i hi).trans (World.grownBy.block h i hi hne)⟩
theorem below_set (B : Nat) (w : World) {b i : Nat} (h : B ≤ b) (v : Value) : Below B w (w.setCell ⟨b, i, none⟩ v) :=
  ⟨rfl, rfl, rfl, by simp, fun k hk => heap_setCell_other w _ k v (by intro he; have : k = b := he; omega)⟩
theorem Keep.set {R : Nat} {w a : World} (h : Keep R w a) {b i : Nat} (hb : w.heap.size ≤ b) (v : Value) : Keep R w (a.setCell ⟨b, i, none⟩ v) := h.then_below (below_set _ _ hb v)
theorem IsInts.keep {k : IntKind} {R : Nat} {w w' : World} {a : Option Addr} {xs : List Int} (h : IsInts k w a xs) (hk : Keep R w w') (hne : ∀ x, a = some x → x.block ≠ R) : IsInts k w' a xs := by
  rcases h with h | ⟨b, off, ha, hc⟩
  · exact .inl h
  · exact .inr ⟨b, off, ha, fun i hi => hk.cell (show b ≠ R from hne _ ha) (hc i hi)⟩

theorem own_below {w w' : World} {B B' : Nat} {E : TypeId} {size n : Nat} {v : Value} {xs : List Value} (h : w.ownsRow B E size v n xs) (hg : ∀ k, v.ownBlock = some k → w'.heap[k]? = w.heap[k]?) : w'.ownsRow B E size v n xs := by
  refine ⟨h.1, ?_⟩
  rcases h.2 with h2 | ⟨g, cap, cur, hv, hge, hh, r⟩
  · exact .inl h2
  · exact .inr ⟨g, cap, cur, hv, hge, by rw [hg g (by rw [hv]; rfl)]; exact hh, r⟩
theorem own_set {w : World} {B : Nat} {E : TypeId} {size n : Nat} {v : Value} {xs : List Value} (h : w.ownsRow B E size v n xs) {b i : Nat} (hb : b < B) (u : Value) : (w.setCell ⟨b, i, none⟩ u).ownsRow B E size v n xs := by
  refine own_below (B' := B) h (fun k hk => heap_setCell_other w _ k u ?_)
  have := (h.lt k hk).1
  intro he; rw [he] at this; simp at this; omega

theorem own_set_ne {w : World} {B : Nat} {E : TypeId} {size n : Nat} {v : Value} {xs : List Value} (h : w.ownsRow B E size v n xs) {b i : Nat} (hb : v.ownBlock ≠ some b) (u : Value) : (w.setCell ⟨b, i, none⟩ u).ownsRow B E size v n xs := by
  refine own_below (B' := B) h (fun k hk => heap_setCell_other w _ k u ?_)
  intro he; have : k = b := he; rw [this] at hk; exact hb hk
theorem Blk.below {w w' : World} {B k : Nat} {cs : Array Value} {E : TypeId} (h : Blk w k cs E) (hb : Below B w w') (hk : k < B) : Blk w' k cs E := (hb.block k hk).trans h

theorem own_slice {w : World} {B : Nat} {E : TypeId} {size n : Nat} {v : Value} {xs : List Value} (h : w.ownsRow B E size v n xs) : ∃ a cap, v = .slice a n cap ∧ n ≤ cap := by
  rcases h.2 with ⟨rfl, rfl⟩ | ⟨g, cap, cur, rfl, hg, hh, hn, hm, hs, ht⟩
  · exact ⟨none, 0, rfl, Nat.le_refl _⟩
  · exact ⟨_, cap, rfl, hn⟩

end Go.Proofs.Ythkfplkajlanoaa
