/-
  What is told of a report, as a text; a builder that holds bytes.
-/
import Derived.Test.YtkhagpnnkfglbaaTxEvt2
import Derived.Test.YtkhagpnnkfglbaaSeq
namespace Go.Proofs.Ytkhagpnnkfglbaa
open Go.RowKit

namespace Tx
/-- A call's numbers. -/
structure Cl where
  t : Int
  o : Int
  k : Int
  a : Int
  b : Int
  c : Int
def cl0 : Cl := ⟨0, 0, 0, 0, 0, 0⟩
def Cl.ok (c : Cl) : Prop := i64 c.t ∧ i64 c.o ∧ i64 c.k ∧ u64 c.a ∧ u64 c.b ∧ u64 c.c
def clT (c : Cl) : List UInt8 := callT c.t c.o c.k c.a c.b c.c
/-- Is the event's call there? -/
def there (n : Nat) (e : Evt) : Bool := decide (0 ≤ e.call) && decide (e.call < n)
def preT (cs : List Cl) (e : Evt) : List UInt8 := if there cs.length e then clT (nthD cl0 cs e.call.toNat) else []
def lineT (cs : List Cl) (e : Evt) : List UInt8 := preT cs e ++ ([58, 32] ++ evT e ++ [10])
/-- A report's own numbers. -/
structure Rep where
  r : Int
  w : Int
  s : Int
  a : Int
  f : Int
  ticks : Int
  idle : Int
def Rep.ok (r : Rep) : Prop := i64 r.r ∧ i64 r.w ∧ i64 r.s ∧ i64 r.a ∧ i64 r.f ∧ i64 r.ticks ∧ i64 r.idle
def ticksT (r : Rep) : List UInt8 := [116, 105, 99, 107, 115, 32] ++ numT r.ticks ++ [32, 105, 100, 108, 101, 32] ++ numT r.idle ++ [10]
def countsT (r : Rep) : List UInt8 := [114, 101, 97, 100, 115, 32] ++ numT r.r ++ [32, 119, 114, 105, 116, 101, 115, 32] ++ numT r.w ++ [32, 115, 119, 97, 112, 115, 32] ++ numT r.s ++ [32, 97, 100, 100, 115, 32] ++ numT r.a ++ [32, 102, 97, 117, 108, 116, 115, 32] ++ numT r.f ++ [10]
def linesT (cs : List Cl) (es : List Evt) : List UInt8 := es.flatMap (lineT cs)
def repT (cs : List Cl) (es : List Evt) (r : Rep) : List UInt8 := linesT cs es ++ ticksT r ++ countsT r

theorem linesT_snoc (cs : List Cl) (es : List Evt) (e : Evt) : linesT cs (es ++ [e]) = linesT cs es ++ lineT cs e := by
  unfold linesT; rw [List.flatMap_append]; simp
theorem preT_yes {cs : List Cl} {e : Evt} (h0 : 0 ≤ e.call) (h1 : e.call < cs.length) : preT cs e = clT (nthD cl0 cs e.call.toNat) := by
  unfold preT there; rw [if_pos (by simp [h0, h1])]
theorem preT_no {cs : List Cl} {e : Evt} (h : e.call < 0 ∨ (cs.length : Int) ≤ e.call) : preT cs e = [] := by
  unfold preT there; rw [if_neg (by simp; omega)]
end Tx

def clCells (c : Tx.Cl) : List Value := [.int .i64 c.t, .int .i64 c.o, .int .i64 c.k, .int .u64 c.a, .int .u64 c.b, .int .u64 c.c]
theorem clCells_len (c : Tx.Cl) : (clCells c).length = 6 := rfl

theorem clT_len (c : Tx.Cl) : (Tx.clT c).length ≤ 150 := by
  unfold Tx.clT Tx.callT
  have nt := numT_len c.t
  have no := numT_len c.o
  have nk := numT_len c.k
  have na := numT_len c.a
  have nb := numT_len c.b
  have nc := numT_len c.c
  simp only [Tx.jn, List.length_append, List.length_cons]
  omega
theorem lineT_len (cs : List Tx.Cl) (e : Tx.Evt) (h : EvFit e) : (Tx.lineT cs e).length ≤ 500200 := by
  have h1 := evT_len e h
  have h2 : (Tx.preT cs e).length ≤ 150 := by
    unfold Tx.preT; split
    · exact clT_len _
    · simp
  unfold Tx.lineT
  simp only [List.length_append, List.length_cons, List.length_nil]
  omega
theorem linesT_len (cs : List Tx.Cl) : ∀ es : List Tx.Evt, (∀ e ∈ es, EvFit e) → (Tx.linesT cs es).length ≤ 500200 * es.length
  | [], _ => by simp [Tx.linesT]
  | e :: r, h => by
    have h1 := linesT_len cs r (fun x hx => h x (List.mem_cons_of_mem _ hx))
    have h2 := lineT_len cs e (h e List.mem_cons_self)
    unfold Tx.linesT at *
    rw [List.flatMap_cons, List.length_append, List.length_cons]
    omega
theorem ticksT_len (r : Tx.Rep) : (Tx.ticksT r).length ≤ 100 := by
  have h1 := numT_len r.ticks
  have h2 := numT_len r.idle
  unfold Tx.ticksT
  simp only [List.length_append, List.length_cons, List.length_nil]
  omega
theorem countsT_len (r : Tx.Rep) : (Tx.countsT r).length ≤ 300 := by
  have h1 := numT_len r.r
  have h2 := numT_len r.w
  have h3 := numT_len r.s
  have h4 := numT_len r.a
  have h5 := numT_len r.f
  unfold Tx.countsT
  simp only [List.length_append, List.length_cons, List.length_nil]
  omega

/-- The builder at block b holds these bytes. -/
def Bd (B b : Nat) (l : List UInt8) (w : World) : Prop := Lib.IsBuilderF 76 5 B b (Lib.byteCells l) w

theorem own_kept_ext {w w' : World} {B : Nat} {E : TypeId} {size n : Nat} {v : Value} {xs : List Value} (h : w.ownsRowF B E size v n xs) (he : Ext w w') : w'.ownsRowF B E size v n xs :=
  h.kept (row := none) ⟨he.os, he.tape, he.output, he.size, fun k hk _ => he.block k hk⟩ (Classical.em _)
theorem BdAt.ext {T e : TypeId} {B b : Nat} {p : Value} {bs : List Value} {w w' : World} (h : Lib.BuilderAtF T e B b p bs w) (he : Ext w w') : Lib.BuilderAtF T e B b p bs w' := by
  have hlt := h.lt
  obtain ⟨hB, v, hv, hown, hne⟩ := h
  exact ⟨hB, v, (he.block b hlt).trans hv, own_kept_ext hown he, hne⟩
theorem Bd.ext {B b : Nat} {l : List UInt8} {w w' : World} (h : Bd B b l w) (he : Ext w w') : Bd B b l w' :=
  Or.elim h (fun x => .inl (BdAt.ext x he)) (fun x => .inr (BdAt.ext x he))
theorem Bd.new (B : Nat) (w : World) (hB : B ≤ w.heap.size) : Bd B w.heap.size [] (w.alloc (.cells #[.pointer none, .slice none 0 0] 76)) :=
  .inl ⟨hB, .slice none 0 0, heap_alloc_new w _, ⟨rfl, .inl ⟨rfl, rfl⟩⟩, by simp [Value.ownBlock]⟩

theorem write_any (B b : Nat) (l s : List UInt8) (w : World) (h : Bd B b l w) (hl : l.length ≤ 1000000000) (hs : s.length ≤ 1000000000) (hB : B ≤ w.heap.size) :
    Calls Try.prog 38 #[.pointer (some ⟨b, 0, none⟩), .string (St s)] w fun e w' => e = .returned (.tuple #[.int .i64 s.length, .nilIface]) ∧ Bd B b (l ++ s) w' ∧ Below B w w' ∧ Lib.OthersKept 5 (some b) w w' := by
  refine (Try.Builder_WriteString_k B b (Lib.byteCells l) (St s) w h (by rw [Lib.byteCells_length, St_size]; omega) hB).mono ?_
  rintro e w' ⟨rfl, h1, h2, h3⟩
  refine ⟨by rw [St_size], .inr ?_, h2, h3⟩
  have : Lib.byteCells (l ++ s) = Lib.byteCells l ++ Lib.strCells (St s) := by
    rw [show Lib.strCells (St s) = Lib.byteCells s from rfl]
    simp [Lib.byteCells]
  rw [this]; exact h1

theorem told_any (B b : Nat) (l : List UInt8) (w : World) (h : Bd B b l w) (hB : B ≤ w.heap.size) :
    Calls Try.prog 39 #[.pointer (some ⟨b, 0, none⟩)] w fun e w' => e = .returned (.string (St l)) ∧ Below B w w' := by
  refine (Try.Builder_String_any_k B b l w h hB).mono ?_
  rintro e w' ⟨rfl, h1, h2, h3⟩
  exact ⟨rfl, h2⟩

theorem Blk.others {w w' : World} {k b : Nat} {cs : Array Value} {E : TypeId} (h : Blk w k cs E) (ho : Lib.OthersKept 5 (some b) w w') (hb : k ≠ b) (hE : E ≠ 5) : Blk w' k cs E :=
  ho k _ h (fun he => hb (Option.some.inj he)) (fun c fz hc => by cases hc; exact hE rfl)

end Go.Proofs.Ytkhagpnnkfglbaa
