/-
  plan's reader as it lies in memory.
-/
import Derived.Test.YtcfbcffmlinlaaaDoorPlForm
import Derived.Test.YtcfbcffmlinlaaaDoorRegP
namespace Go.Proofs.YtcfbcffmlinlaaaDoor
open Go.RowKit

theorem own_ne {w : World} {B : Nat} {E E' : TypeId} {size n : Nat} {v : Value} {xs : List Value} (h : w.ownsRow B E size v n xs) {k : Nat} {cs : Array Value} {f : Nat × Nat} (hk : w.heap[k]? = some (.cells cs E' f)) (hE : E ≠ E') : v.ownBlock ≠ some k := by
  rcases h.2 with ⟨rfl, rfl⟩ | ⟨g, cap, cur, rfl, hg, hh, r⟩
  · intro he; cases he
  · intro he
    have : g = k := by simpa [Value.ownBlock] using he
    subst this
    rw [hh] at hk
    simp at hk
    exact hE hk.2.1
theorem own_ne2 {w : World} {B B' : Nat} {E E' : TypeId} {size size' n n' : Nat} {v v' : Value} {xs xs' : List Value} (h : w.ownsRow B E size v n xs) (h' : w.ownsRow B' E' size' v' n' xs') (hE : E ≠ E') : ∀ k, v'.ownBlock = some k → v.ownBlock ≠ some k := by
  intro k hk
  rcases h'.2 with ⟨rfl, rfl⟩ | ⟨g, cap, cur, rfl, hg, hh, r⟩
  · cases hk
  · have : g = k := by simpa [Value.ownBlock] using hk
    subst this
    exact own_ne h hh hE
theorem own_grown {w w' : World} {B B' : Nat} {E E' : TypeId} {size size' n n' : Nat} {v v' : Value} {xs xs' : List Value} (h : w.ownsRow B E size v n xs) (h' : w.ownsRow B' E' size' v' n' xs') (hE : E' ≠ E) (hg : w.grownBy w' v'.ownBlock) : w'.ownsRow B E size v n xs :=
  own_below (B' := B) h (fun k hk => hg.block k (h.lt k hk).2 (fun he => own_ne2 h' h hE k hk he.symm))

/-- plan's reader: how far it has come, and in which line. -/
structure PRd (w : World) (B R : Nat) (r : Pl.St) (line : Int) (sa ca pa : Value) : Prop where
  here : Blk w R #[.int .i64 r.s.n, sa, ca, pa, .int .i64 line, .int .i64 r.part, .bool r.last] 65
  specs : w.ownsRow B 59 3 sa r.s.specs.length (r.s.specs.flatMap spcCells)
  calls : w.ownsRow B 49 6 ca r.s.calls.length (r.s.calls.flatMap cllCells)
  picks : w.ownsRow B 3 1 pa r.s.picks.length (r.s.picks.map (Value.int .i64))
def IsRd (w : World) (B R : Nat) (r : Pl.St) (line : Int) : Prop := ∃ sa ca pa, PRd w B R r line sa ca pa

theorem PRd.ext {w w' : World} {B R : Nat} {r : Pl.St} {line : Int} {sa ca pa : Value} (h : PRd w B R r line sa ca pa) (he : Ext w w') : PRd w' B R r line sa ca pa :=
  ⟨h.here.ext he, own_ext h.specs he, own_ext h.calls he, own_ext h.picks he⟩
theorem IsRd.ext {w w' : World} {B R : Nat} {r : Pl.St} {line : Int} (h : IsRd w B R r line) (he : Ext w w') : IsRd w' B R r line := by
  obtain ⟨sa, ca, pa, h⟩ := h
  exact ⟨sa, ca, pa, h.ext he⟩

/-- Behind an append to one of its rows, and a store of what came of it. -/
theorem PRd.app_specs {w w' : World} {B R : Nat} {r : Pl.St} {line : Int} {sa ca pa sa' : Value} (h : PRd w B R r line sa ca pa) (x : Spc) (hg : w.grownBy w' sa.ownBlock)
    (ho : w'.ownsRow B 59 3 sa' (r.s.specs.length + 1) (r.s.specs.flatMap spcCells ++ spcCells x)) :
    Blk w' R #[.int .i64 r.s.n, sa, ca, pa, .int .i64 line, .int .i64 r.part, .bool r.last] 65 ∧
    PRd (w'.setCell ⟨R, 1, none⟩ sa') B R ⟨⟨r.s.n, r.s.specs ++ [x], r.s.calls, r.s.picks⟩, r.part, r.last⟩ line sa' ca pa := by
  have h1 := h.here.grown hg (own_ne h.specs h.here (by decide))
  refine ⟨h1, h1.set 1 _, ?_, ?_, ?_⟩
  · have := own_set_ne ho (own_ne ho h1 (by decide)) (i := 1) sa'
    rw [List.flatMap_append, List.length_append]
    simpa using this
  · have h2 := own_grown h.calls h.specs (by decide) hg
    exact own_set_ne h2 (own_ne h2 h1 (by decide)) _
  · have h2 := own_grown h.picks h.specs (by decide) hg
    exact own_set_ne h2 (own_ne h2 h1 (by decide)) _
theorem PRd.app_calls {w w' : World} {B R : Nat} {r : Pl.St} {line : Int} {sa ca pa ca' : Value} (h : PRd w B R r line sa ca pa) (x : Cll) (hg : w.grownBy w' ca.ownBlock)
    (ho : w'.ownsRow B 49 6 ca' (r.s.calls.length + 1) (r.s.calls.flatMap cllCells ++ cllCells x)) :
    Blk w' R #[.int .i64 r.s.n, sa, ca, pa, .int .i64 line, .int .i64 r.part, .bool r.last] 65 ∧
    PRd (w'.setCell ⟨R, 2, none⟩ ca') B R ⟨⟨r.s.n, r.s.specs, r.s.calls ++ [x], r.s.picks⟩, r.part, r.last⟩ line sa ca' pa := by
  have h1 := h.here.grown hg (own_ne h.calls h.here (by decide))
  refine ⟨h1, h1.set 2 _, ?_, ?_, ?_⟩
  · have h2 := own_grown h.specs h.calls (by decide) hg
    exact own_set_ne h2 (own_ne h2 h1 (by decide)) _
  · have := own_set_ne ho (own_ne ho h1 (by decide)) (i := 2) ca'
    rw [List.flatMap_append, List.length_append]
    simpa using this
  · have h2 := own_grown h.picks h.calls (by decide) hg
    exact own_set_ne h2 (own_ne h2 h1 (by decide)) _
theorem PRd.app_picks {w w' : World} {B R : Nat} {r : Pl.St} {line : Int} {sa ca pa pa' : Value} (h : PRd w B R r line sa ca pa) (l : List Int) (hg : w.grownBy w' pa.ownBlock)
    (ho : w'.ownsRow B 3 1 pa' (r.s.picks.length + l.length) (r.s.picks.map (Value.int .i64) ++ l.map (Value.int .i64))) :
    Blk w' R #[.int .i64 r.s.n, sa, ca, pa, .int .i64 line, .int .i64 r.part, .bool r.last] 65 ∧
    PRd (w'.setCell ⟨R, 3, none⟩ pa') B R ⟨⟨r.s.n, r.s.specs, r.s.calls, r.s.picks ++ l⟩, r.part, r.last⟩ line sa ca pa' := by
  have h1 := h.here.grown hg (own_ne h.picks h.here (by decide))
  refine ⟨h1, h1.set 3 _, ?_, ?_, ?_⟩
  · have h2 := own_grown h.specs h.picks (by decide) hg
    exact own_set_ne h2 (own_ne h2 h1 (by decide)) _
  · have h2 := own_grown h.calls h.picks (by decide) hg
    exact own_set_ne h2 (own_ne h2 h1 (by decide)) _
  · have := own_set_ne ho (own_ne ho h1 (by decide)) (i := 3) pa'
    rw [List.map_append, List.length_append]
    exact this
theorem PRd.set_n {w : World} {B R : Nat} {r : Pl.St} {line : Int} {sa ca pa : Value} (h : PRd w B R r line sa ca pa) (x : Int) : PRd (w.setCell ⟨R, 0, none⟩ (.int .i64 x)) B R ⟨⟨x, r.s.specs, r.s.calls, r.s.picks⟩, r.part, r.last⟩ line sa ca pa :=
  ⟨h.here.set 0 _, own_set_ne h.specs (own_ne h.specs h.here (by decide)) _, own_set_ne h.calls (own_ne h.calls h.here (by decide)) _, own_set_ne h.picks (own_ne h.picks h.here (by decide)) _⟩
theorem PRd.set_line {w : World} {B R : Nat} {r : Pl.St} {line : Int} {sa ca pa : Value} (h : PRd w B R r line sa ca pa) (x : Int) : PRd (w.setCell ⟨R, 4, none⟩ (.int .i64 x)) B R r x sa ca pa :=
  ⟨h.here.set 4 _, own_set_ne h.specs (own_ne h.specs h.here (by decide)) _, own_set_ne h.calls (own_ne h.calls h.here (by decide)) _, own_set_ne h.picks (own_ne h.picks h.here (by decide)) _⟩
theorem PRd.set_part {w : World} {B R : Nat} {r : Pl.St} {line : Int} {sa ca pa : Value} (h : PRd w B R r line sa ca pa) (x : Int) : PRd (w.setCell ⟨R, 5, none⟩ (.int .i64 x)) B R ⟨r.s, x, r.last⟩ line sa ca pa :=
  ⟨h.here.set 5 _, own_set_ne h.specs (own_ne h.specs h.here (by decide)) _, own_set_ne h.calls (own_ne h.calls h.here (by decide)) _, own_set_ne h.picks (own_ne h.picks h.here (by decide)) _⟩
theorem PRd.set_last {w : World} {B R : Nat} {r : Pl.St} {line : Int} {sa ca pa : Value} (h : PRd w B R r line sa ca pa) (x : Bool) : PRd (w.setCell ⟨R, 6, none⟩ (.bool x)) B R ⟨r.s, r.part, x⟩ line sa ca pa :=
  ⟨h.here.set 6 _, own_set_ne h.specs (own_ne h.specs h.here (by decide)) _, own_set_ne h.calls (own_ne h.calls h.here (by decide)) _, own_set_ne h.picks (own_ne h.picks h.here (by decide)) _⟩

/-- All blocks below B are as they were, but for R. -/
def BB (B R : Nat) (w w' : World) : Prop := w'.os = w.os ∧ w'.tape = w.tape ∧ w'.output = w.output ∧ w.heap.size ≤ w'.heap.size ∧ ∀ k, k < B → k ≠ R → w'.heap[k]? = w.heap[k]?
theorem BB.of {B R : Nat} {w w' : World} (h : Below B w w') : BB B R w w' := ⟨h.os, h.tape, h.output, h.size, fun k hk _ => h.block k hk⟩
theorem BB.ext {B R : Nat} {w w' : World} (h : Ext w w') (hB : B ≤ w.heap.size) : BB B R w w' := .of (h.mono hB)
theorem BB.trans {B R : Nat} {a b c : World} (h : BB B R a b) (k : BB B R b c) : BB B R a c :=
  ⟨k.1.trans h.1, k.2.1.trans h.2.1, k.2.2.1.trans h.2.2.1, Nat.le_trans h.2.2.2.1 k.2.2.2.1, fun i hi hne => (k.2.2.2.2 i hi hne).trans (h.2.2.2.2 i hi hne)⟩
theorem BB.set {B R i : Nat} (w : World) (v : Value) : BB B R w (w.setCell ⟨R, i, none⟩ v) :=
  ⟨rfl, rfl, rfl, by simp, fun k _ hne => heap_setCell_other w _ k v hne⟩

/-- What a line leaves: it gives up, or the reader has come on. -/
def TakePost (w : World) (B R : Nat) (line : Int) (x : Int × Pl.St) (e : Ending) (w' : World) : Prop :=
  BB B R w w' ∧ IsRd w' B R x.2 line ∧ ((x.1 = 0 ∧ e = .returned (.tuple #[])) ∨ (x.1 ≠ 0 ∧ Gave x.1 e))

/-- What of it is bounded. -/
structure Rok (r : Pl.St) : Prop where
  n : 0 < r.part → 1 ≤ r.s.n ∧ r.s.n ≤ 16
  part : 0 ≤ r.part ∧ r.part ≤ 3
  specs : r.s.specs.length ≤ 8
  calls : r.s.calls.length ≤ 1000
  picks : r.s.picks.length ≤ 65536

end Go.Proofs.YtcfbcffmlinlaaaDoor
