/-
  text's reading of a line.
-/
import Derived.Test.YtkhagpnnkfglbaaTxRow
import Derived.Outline
import Derived.RegionTactic
namespace Go.Proofs.Ytkhagpnnkfglbaa
open Go.RowKit

theorem Keep.below_any {R B : Nat} {w0 a b : World} (h : Keep R a b) (h0 : Below B w0 a) (hB : B ≤ R) (hs : B ≤ a.heap.size) : Below B w0 b :=
  ⟨h.os.trans h0.os, h.tape.trans h0.tape, h.output.trans h0.output, Nat.le_trans h0.size h.size, fun k hk => (World.grownBy.block h k (by omega) (by intro he; simp at he; omega)).trans (h0.block k hk)⟩
theorem Ext.trans_keep {w a b : World} (h : Ext w a) (k : Keep (w.heap.size + 1) a b) : Ext w b := Keep.below_any k h (by omega) h.size

/-- While a line is read: the result's place, the reader, the five numbers. -/
structure Rdg (w : World) (s : List UInt8) (r : Tx.Rd) (xs : Array Value) (wr : World) : Prop where
  res : Blk wr w.heap.size #[.int .i64 0, .int .i64 0, .int .i64 0, .int .i64 0, .int .i64 0, .int .u64 0, .slice none 0 0, .slice none 0 0] 29
  arr : Blk wr (w.heap.size + 1 + 1) xs 62
  rd : RdAt wr (w.heap.size + 1) s r
  ext : Ext w wr
theorem Rdg.next {w : World} {s : List UInt8} {r r' : Tx.Rd} {xs : Array Value} {wr w' : World} (h : Rdg w s r xs wr) (hr : RdAt w' (w.heap.size + 1) s r') (hk : Keep (w.heap.size + 1) wr w') : Rdg w s r' xs w' :=
  ⟨h.res.keep hk (by omega), h.arr.keep hk (by omega), hr, h.ext.trans_keep hk⟩
theorem Rdg.set {w : World} {s : List UInt8} {r : Tx.Rd} {xs : Array Value} {wr : World} (h : Rdg w s r xs wr) (i : Nat) (v : Value) : Rdg w s r (xs.setIfInBounds i v) (wr.setCell ⟨w.heap.size + 1 + 1, i, none⟩ v) := by
  obtain ⟨h1, h2, ⟨k, k1, k2, k3⟩, h4⟩ := h
  exact ⟨h1.set_ne (by omega) v, h2.set i v, ⟨k, k1, k2, k3.set_ne (by omega) v⟩, Below.setCell h4 (by simp; omega) v⟩

/-- While an event is put together: the event's place besides. -/
structure Evg (w : World) (E : Nat) (s : List UInt8) (r : Tx.Rd) (cs : Array Value) (wr : World) : Prop where
  res : Blk wr w.heap.size #[.int .i64 0, .int .i64 0, .int .i64 0, .int .i64 0, .int .i64 0, .int .u64 0, .slice none 0 0, .slice none 0 0] 29
  ev : Blk wr E cs 29
  hE : w.heap.size + 1 < E
  rd : RdAt wr (w.heap.size + 1) s r
  ext : Ext w wr
theorem Evg.next {w : World} {E : Nat} {s : List UInt8} {r r' : Tx.Rd} {xs : Array Value} {wr w' : World} (h : Evg w E s r xs wr) (hr : RdAt w' (w.heap.size + 1) s r') (hk : Keep (w.heap.size + 1) wr w') : Evg w E s r' xs w' :=
  ⟨h.res.keep hk (by omega), h.ev.keep hk (by have := h.hE; omega), h.hE, hr, h.ext.trans_keep hk⟩
theorem Evg.set {w : World} {E : Nat} {s : List UInt8} {r : Tx.Rd} {xs : Array Value} {wr : World} (h : Evg w E s r xs wr) (i : Nat) (v : Value) : Evg w E s r (xs.setIfInBounds i v) (wr.setCell ⟨E, i, none⟩ v) := by
  obtain ⟨h1, h2, h3, ⟨k, k1, k2, k3⟩, h4⟩ := h
  exact ⟨h1.set_ne (by omega) v, h2.set i v, h3, ⟨k, k1, k2, k3.set_ne (by omega) v⟩, Below.setCell h4 (by simp; omega) v⟩
theorem ints_set {k : IntKind} {w : World} {a : Option Addr} {xs : List Int} (h : IsInts k w a xs) {b i : Nat} (hne : ∀ x, a = some x → x.block ≠ b) (v : Value) : IsInts k (w.setCell ⟨b, i, none⟩ v) a xs := by
  rcases h with h | ⟨g, off, ha, hc⟩
  · exact .inl h
  · refine .inr ⟨g, off, ha, fun j hj => ?_⟩
    have := hne _ ha
    rw [World.cell?_of_block (heap_setCell_other w ⟨b, i, none⟩ g v (fun e => this e))]
    exact hc j hj

def evZ (x0 x1 x2 x3 x4 v : Int) (l k : Value) : Array Value := #[.int .i64 x0, .int .i64 x1, .int .i64 x2, .int .i64 x3, .int .i64 x4, .int .u64 v, l, k]

/-- What a reading of a line hands back. -/
def ReadPost (w : World) (p : Tx.Evt × Tx.Rd) (s : List UInt8) (e : Ending) (w' : World) : Prop :=
  Ext w w' ∧ ((Tx.okRd p.2 = true ∧ ∃ la lc ka kc, e = .returned (.tuple #[.agg #[.int .i64 p.1.call, .int .i64 p.1.inv, .int .i64 p.1.resp, .int .i64 p.1.steps, .int .i64 p.1.err, .int .u64 p.1.val, .slice la p.1.list.length lc, .slice ka p.1.key.length kc], .int .i64 0, .bool true]) ∧
      IsInts .u64 w' la p.1.list ∧ IsInts .i64 w' ka p.1.key) ∨
    (Tx.okRd p.2 = false ∧ ∃ k : Nat, k ≤ s.length ∧ p.2.rest = s.drop k ∧ e = .returned (.tuple #[.agg #[.int .i64 0, .int .i64 0, .int .i64 0, .int .i64 0, .int .i64 0, .int .u64 0, .slice none 0 0, .slice none 0 0], .int .i64 k, .bool false])))

set_option maxRecDepth 100000 in
set_option maxHeartbeats 4000000 in
theorem tread_any (s : List UInt8) (w : World) (hs : s.length ≤ 1000000) :
    Calls Try.prog 12 #[.string (St s)] w (ReadPost w (Tx.readE ⟨s, false⟩) s) := by
  generalize hpost : ReadPost w (Tx.readE ⟨s, false⟩) s = POST
  have HPOST := Lib.hid hpost; clear hpost
  go_enter Try.func12, Try.ntmps12
  go_wp2_with fail
  have hg : Rdg w s ⟨s, false⟩ #[.int .i64 0, .int .i64 0, .int .i64 0, .int .i64 0, .int .i64 0] (((w.alloc (.cells #[.int .i64 0, .int .i64 0, .int .i64 0, .int .i64 0, .int .i64 0, .int .u64 0, .slice none 0 0, .slice none 0 0] 29)).alloc (.cells #[.string (St s), .int .i64 0, .bool false] 61)).alloc (.cells #[.int .i64 0, .int .i64 0, .int .i64 0, .int .i64 0, .int .i64 0] 62)) := by
    refine ⟨((Blk.new _ _ _).alloc _).alloc _, ?_, ⟨0, Nat.zero_le _, rfl, ?_⟩, (((Ext.refl w).alloc _).alloc _).alloc _⟩
    · have := Blk.new ((w.alloc (.cells #[.int .i64 0, .int .i64 0, .int .i64 0, .int .i64 0, .int .i64 0, .int .u64 0, .slice none 0 0, .slice none 0 0] 29)).alloc (.cells #[.string (St s), .int .i64 0, .bool false] 61)) #[.int .i64 0, .int .i64 0, .int .i64 0, .int .i64 0, .int .i64 0] 62
      simpa using this
    · have := (Blk.new (w.alloc (.cells #[.int .i64 0, .int .i64 0, .int .i64 0, .int .i64 0, .int .i64 0, .int .u64 0, .slice none 0 0, .slice none 0 0] 29)) #[.string (St s), .int .i64 0, .bool false] 61).alloc (.cells #[.int .i64 0, .int .i64 0, .int .i64 0, .int .i64 0, .int .i64 0] 62)
      simpa using this
  generalize (((w.alloc (.cells #[.int .i64 0, .int .i64 0, .int .i64 0, .int .i64 0, .int .i64 0, .int .u64 0, .slice none 0 0, .slice none 0 0] 29)).alloc (.cells #[.string (St s), .int .i64 0, .bool false] 61)).alloc (.cells #[.int .i64 0, .int .i64 0, .int .i64 0, .int .i64 0, .int .i64 0] 62)) = W0 at *
  have HG0 := Lib.hid hg; clear hg
  generalize hrr : (⟨s, false⟩ : Tx.Rd) = r0 at *
  have HRR := Lib.hid hrr; clear hrr
  refine wp_loop_rounds 6 ?_
  rw [rounds_succ]
  have hc := int_any W0 (w.heap.size + 1) s r0 HG0.out.rd hs
  have HC := Lib.hid hc; clear hc
  generalize hx0 : Tx.intF r0 = p0 at *
  obtain ⟨x0, r1⟩ := p0
  have HX0 := Lib.hid hx0; clear hx0
  simp only at HC
  go_wp2_with fail
  refine HC.out.mono ?_
  rintro e W1 ⟨rfl, hr, hk⟩
  have HG1 := Lib.hid (HG0.out.next hr hk)
  clear hr hk HC HG0
  have g0 := HG1.out.arr.cell 0 rfl
  have f0 := HG1.out.arr.fz 0
  have l0 := HG1.out.arr.lt
  have hset : Rdg w s r1 #[.int .i64 x0, .int .i64 0, .int .i64 0, .int .i64 0, .int .i64 0] (W1.setCell ⟨w.heap.size + 1 + 1, 0, none⟩ (.int .i64 x0)) := HG1.out.set 0 (.int .i64 x0)
  have HSET := Lib.hid hset; clear hset
  have hc := must_any 32 32 (W1.setCell ⟨w.heap.size + 1 + 1, 0, none⟩ (.int .i64 x0)) (w.heap.size + 1) s r1 rfl HSET.out.rd hs
  have HC := Lib.hid hc; clear hc
  generalize hm0 : Tx.mustF 32 r1 = r2 at *
  have HM0 := Lib.hid hm0; clear hm0
  go_wp2_with fail
  refine HC.out.mono ?_
  rintro e W3 ⟨rfl, hr, hk⟩
  have HG3 := Lib.hid (HSET.out.next hr hk)
  clear hr hk HC HSET HG1 g0 f0 l0
  go_wp2_with fail
  rw [rounds_succ]
  have hc := int_any W3 (w.heap.size + 1) s r2 HG3.out.rd hs
  have HC := Lib.hid hc; clear hc
  generalize hx1 : Tx.intF r2 = p1 at *
  obtain ⟨x1, r3⟩ := p1
  have HX1 := Lib.hid hx1; clear hx1
  simp only at HC
  go_wp2_with fail
  refine HC.out.mono ?_
  rintro e W4 ⟨rfl, hr, hk⟩
  have HG4 := Lib.hid (HG3.out.next hr hk)
  clear hr hk HC HG3
  have g1 := HG4.out.arr.cell 1 rfl
  have f1 := HG4.out.arr.fz 1
  have l1 := HG4.out.arr.lt
  have hset : Rdg w s r3 #[.int .i64 x0, .int .i64 x1, .int .i64 0, .int .i64 0, .int .i64 0] (W4.setCell ⟨w.heap.size + 1 + 1, 1, none⟩ (.int .i64 x1)) := HG4.out.set 1 (.int .i64 x1)
  have HSET := Lib.hid hset; clear hset
  have hc := must_any 32 32 (W4.setCell ⟨w.heap.size + 1 + 1, 1, none⟩ (.int .i64 x1)) (w.heap.size + 1) s r3 rfl HSET.out.rd hs
  have HC := Lib.hid hc; clear hc
  generalize hm1 : Tx.mustF 32 r3 = r4 at *
  have HM1 := Lib.hid hm1; clear hm1
  go_wp2_with fail
  refine HC.out.mono ?_
  rintro e W6 ⟨rfl, hr, hk⟩
  have HG6 := Lib.hid (HSET.out.next hr hk)
  clear hr hk HC HSET HG4 g1 f1 l1
  go_wp2_with fail
  rw [rounds_succ]
  have hc := int_any W6 (w.heap.size + 1) s r4 HG6.out.rd hs
  have HC := Lib.hid hc; clear hc
  generalize hx2 : Tx.intF r4 = p2 at *
  obtain ⟨x2, r5⟩ := p2
  have HX2 := Lib.hid hx2; clear hx2
  simp only at HC
  go_wp2_with fail
  refine HC.out.mono ?_
  rintro e W7 ⟨rfl, hr, hk⟩
  have HG7 := Lib.hid (HG6.out.next hr hk)
  clear hr hk HC HG6
  have g2 := HG7.out.arr.cell 2 rfl
  have f2 := HG7.out.arr.fz 2
  have l2 := HG7.out.arr.lt
  have hset : Rdg w s r5 #[.int .i64 x0, .int .i64 x1, .int .i64 x2, .int .i64 0, .int .i64 0] (W7.setCell ⟨w.heap.size + 1 + 1, 2, none⟩ (.int .i64 x2)) := HG7.out.set 2 (.int .i64 x2)
  have HSET := Lib.hid hset; clear hset
  have hc := must_any 32 32 (W7.setCell ⟨w.heap.size + 1 + 1, 2, none⟩ (.int .i64 x2)) (w.heap.size + 1) s r5 rfl HSET.out.rd hs
  have HC := Lib.hid hc; clear hc
  generalize hm2 : Tx.mustF 32 r5 = r6 at *
  have HM2 := Lib.hid hm2; clear hm2
  go_wp2_with fail
  refine HC.out.mono ?_
  rintro e W9 ⟨rfl, hr, hk⟩
  have HG9 := Lib.hid (HSET.out.next hr hk)
  clear hr hk HC HSET HG7 g2 f2 l2
  go_wp2_with fail
  rw [rounds_succ]
  have hc := int_any W9 (w.heap.size + 1) s r6 HG9.out.rd hs
  have HC := Lib.hid hc; clear hc
  generalize hx3 : Tx.intF r6 = p3 at *
  obtain ⟨x3, r7⟩ := p3
  have HX3 := Lib.hid hx3; clear hx3
  simp only at HC
  go_wp2_with fail
  refine HC.out.mono ?_
  rintro e W10 ⟨rfl, hr, hk⟩
  have HG10 := Lib.hid (HG9.out.next hr hk)
  clear hr hk HC HG9
  have g3 := HG10.out.arr.cell 3 rfl
  have f3 := HG10.out.arr.fz 3
  have l3 := HG10.out.arr.lt
  have hset : Rdg w s r7 #[.int .i64 x0, .int .i64 x1, .int .i64 x2, .int .i64 x3, .int .i64 0] (W10.setCell ⟨w.heap.size + 1 + 1, 3, none⟩ (.int .i64 x3)) := HG10.out.set 3 (.int .i64 x3)
  have HSET := Lib.hid hset; clear hset
  have hc := must_any 32 32 (W10.setCell ⟨w.heap.size + 1 + 1, 3, none⟩ (.int .i64 x3)) (w.heap.size + 1) s r7 rfl HSET.out.rd hs
  have HC := Lib.hid hc; clear hc
  generalize hm3 : Tx.mustF 32 r7 = r8 at *
  have HM3 := Lib.hid hm3; clear hm3
  go_wp2_with fail
  refine HC.out.mono ?_
  rintro e W12 ⟨rfl, hr, hk⟩
  have HG12 := Lib.hid (HSET.out.next hr hk)
  clear hr hk HC HSET HG10 g3 f3 l3
  go_wp2_with fail
  rw [rounds_succ]
  have hc := int_any W12 (w.heap.size + 1) s r8 HG12.out.rd hs
  have HC := Lib.hid hc; clear hc
  generalize hx4 : Tx.intF r8 = p4 at *
  obtain ⟨x4, r9⟩ := p4
  have HX4 := Lib.hid hx4; clear hx4
  simp only at HC
  go_wp2_with fail
  refine HC.out.mono ?_
  rintro e W13 ⟨rfl, hr, hk⟩
  have HG13 := Lib.hid (HG12.out.next hr hk)
  clear hr hk HC HG12
  have g4 := HG13.out.arr.cell 4 rfl
  have f4 := HG13.out.arr.fz 4
  have l4 := HG13.out.arr.lt
  have hset : Rdg w s r9 #[.int .i64 x0, .int .i64 x1, .int .i64 x2, .int .i64 x3, .int .i64 x4] (W13.setCell ⟨w.heap.size + 1 + 1, 4, none⟩ (.int .i64 x4)) := HG13.out.set 4 (.int .i64 x4)
  have HSET := Lib.hid hset; clear hset
  have hc := must_any 32 32 (W13.setCell ⟨w.heap.size + 1 + 1, 4, none⟩ (.int .i64 x4)) (w.heap.size + 1) s r9 rfl HSET.out.rd hs
  have HC := Lib.hid hc; clear hc
  generalize hm4 : Tx.mustF 32 r9 = r10 at *
  have HM4 := Lib.hid hm4; clear hm4
  go_wp2_with fail
  refine HC.out.mono ?_
  rintro e W15 ⟨rfl, hr, hk⟩
  have HG15 := Lib.hid (HSET.out.next hr hk)
  clear hr hk HC HSET HG13 g4 f4 l4
  go_wp2_with fail
  rw [rounds_succ]
  have q0 := HG15.out.arr.cell 0 (v := .int .i64 x0) rfl
  have q1 := HG15.out.arr.cell 1 (v := .int .i64 x1) rfl
  have q2 := HG15.out.arr.cell 2 (v := .int .i64 x2) rfl
  have q3 := HG15.out.arr.cell 3 (v := .int .i64 x3) rfl
  have q4 := HG15.out.arr.cell 4 (v := .int .i64 x4) rfl
  have hlt := HG15.out.arr.lt
  go_upto_region 11 with (fail)
  have hev : Evg w W15.heap.size s r10 #[.int .i64 x0, .int .i64 x1, .int .i64 x2, .int .i64 x3, .int .i64 x4, .int .u64 0, .slice none 0 0, .slice none 0 0] (W15.alloc (.cells #[.int .i64 x0, .int .i64 x1, .int .i64 x2, .int .i64 x3, .int .i64 x4, .int .u64 0, .slice none 0 0, .slice none 0 0] 29)) :=
    ⟨HG15.out.res.alloc _, Blk.new _ _ _, by omega, HG15.out.rd.ext ((Ext.refl _).alloc _), HG15.out.ext.alloc _⟩
  have HEV := Lib.hid hev; clear hev q0 q1 q2 q3 q4 hlt HG15
  generalize (W15.alloc (.cells #[.int .i64 x0, .int .i64 x1, .int .i64 x2, .int .i64 x3, .int .i64 x4, .int .u64 0, .slice none 0 0, .slice none 0 0] 29)) = W16 at *
  generalize W15.heap.size = E at *
  have hc := uint_any W16 (w.heap.size + 1) s r10 HEV.out.rd hs
  have HC := Lib.hid hc; clear hc
  generalize hx5 : Tx.uintF r10 = p5 at *
  obtain ⟨x5, r11⟩ := p5
  have HX5 := Lib.hid hx5; clear hx5
  simp only at HC
  go_wp2_with fail
  refine HC.out.mono ?_
  rintro e W17 ⟨rfl, hr, hk⟩
  have HG := Lib.hid (HEV.out.next hr hk)
  clear hr hk HC HEV
  have hEE := HG.out.hE
  have g5 := HG.out.ev.cell 5 rfl
  have f5 := HG.out.ev.fz 5
  have l5 := HG.out.ev.lt
  have hset : Evg w E s r11 #[.int .i64 x0, .int .i64 x1, .int .i64 x2, .int .i64 x3, .int .i64 x4, .int .u64 x5, .slice none 0 0, .slice none 0 0] (W17.setCell ⟨E, 5, none⟩ (.int .u64 x5)) := HG.out.set 5 (.int .u64 x5)
  have HSET := Lib.hid hset; clear hset
  have hc := must_any 32 32 (W17.setCell ⟨E, 5, none⟩ (.int .u64 x5)) (w.heap.size + 1) s r11 rfl HSET.out.rd hs
  have HC := Lib.hid hc; clear hc
  generalize hm5 : Tx.mustF 32 r11 = r12 at *
  have HM5 := Lib.hid hm5; clear hm5
  go_wp2_with fail
  refine HC.out.mono ?_
  rintro e W19 ⟨rfl, hr, hk⟩
  have HG2 := Lib.hid (HSET.out.next hr hk)
  clear hr hk HC HSET HG g5 f5 l5
  have hc := row_u64 Tx.uintF Tx.u64 Tx.reads_uint W19 (w.heap.size + 1) s r12 (fun w' r h => uint_any w' _ s r h hs) HG2.out.rd hs
  have HC := Lib.hid hc; clear hc
  generalize hx6 : Tx.rowF Tx.uintF r12 = p6 at *
  obtain ⟨x6, r13⟩ := p6
  have HX6 := Lib.hid hx6; clear hx6
  simp only at HC
  go_wp2_with fail
  refine HC.out.mono ?_
  rintro e W20 ⟨la, lc, rfl, hla, hlb, hr, hk, hll⟩
  have HG := Lib.hid (HG2.out.next hr hk)
  have HLB : Hid (∀ x, la = some x → E < x.block) := Lib.hid (fun x h => by have := hlb x h; have := HG2.out.ev.lt; omega)
  have HLA := Lib.hid hla
  have HLL := Lib.hid hll
  clear hr hk HC HG2 hla hlb hll
  have g6 := HG.out.ev.cell 6 rfl
  have f6 := HG.out.ev.fz 6
  have l6 := HG.out.ev.lt
  have hset : Evg w E s r13 #[.int .i64 x0, .int .i64 x1, .int .i64 x2, .int .i64 x3, .int .i64 x4, .int .u64 x5, .slice la x6.length lc, .slice none 0 0] (W20.setCell ⟨E, 6, none⟩ (.slice la x6.length lc)) := HG.out.set 6 _
  have HSET := Lib.hid hset; clear hset
  have HLA2 : Hid (IsInts .u64 (W20.setCell ⟨E, 6, none⟩ (.slice la x6.length lc)) la x6) := Lib.hid (ints_set HLA.out (fun x h => by have := HLB.out x h; omega) _)
  have hc := must_any 32 32 (W20.setCell ⟨E, 6, none⟩ (.slice la x6.length lc)) (w.heap.size + 1) s r13 rfl HSET.out.rd hs
  have HC := Lib.hid hc; clear hc
  generalize hm6 : Tx.mustF 32 r13 = r14 at *
  have HM6 := Lib.hid hm6; clear hm6
  go_wp2_with fail
  refine HC.out.mono ?_
  rintro e W22 ⟨rfl, hr, hk⟩
  have HG2 := Lib.hid (HSET.out.next hr hk)
  have HLA3 := Lib.hid (HLA2.out.keep hk (fun x h => by have := HLB.out x h; omega))
  clear hr hk HC HSET HG g6 f6 l6 HLA HLA2
  have hc := row_i64 Tx.intF Tx.i64 Tx.reads_int W22 (w.heap.size + 1) s r14 (fun w' r h => int_any w' _ s r h hs) HG2.out.rd hs
  have HC := Lib.hid hc; clear hc
  generalize hx7 : Tx.rowF Tx.intF r14 = p7 at *
  obtain ⟨x7, r15⟩ := p7
  have HX7 := Lib.hid hx7; clear hx7
  simp only at HC
  go_wp2_with fail
  refine HC.out.mono ?_
  rintro e W23 ⟨ka, kc, rfl, hka, hkb, hr, hk, hkl⟩
  have HG := Lib.hid (HG2.out.next hr hk)
  have HLA4 := Lib.hid (HLA3.out.keep hk (fun x h => by have := HLB.out x h; omega))
  have HKB : Hid (∀ x, ka = some x → E < x.block) := Lib.hid (fun x h => by have := hkb x h; have := HG2.out.ev.lt; omega)
  have HKA := Lib.hid hka
  have HKL := Lib.hid hkl
  clear hr hk HC HG2 hka hkb HLA3 hkl
  have g7 := HG.out.ev.cell 7 rfl
  have f7 := HG.out.ev.fz 7
  have l7 := HG.out.ev.lt
  have hset : Evg w E s r15 #[.int .i64 x0, .int .i64 x1, .int .i64 x2, .int .i64 x3, .int .i64 x4, .int .u64 x5, .slice la x6.length lc, .slice ka x7.length kc] (W23.setCell ⟨E, 7, none⟩ (.slice ka x7.length kc)) := HG.out.set 7 _
  have HSET := Lib.hid hset; clear hset
  have HLA5 : Hid (IsInts .u64 (W23.setCell ⟨E, 7, none⟩ (.slice ka x7.length kc)) la x6) := Lib.hid (ints_set HLA4.out (fun x h => by have := HLB.out x h; omega) _)
  have HKA5 : Hid (IsInts .i64 (W23.setCell ⟨E, 7, none⟩ (.slice ka x7.length kc)) ka x7) := Lib.hid (ints_set HKA.out (fun x h => by have := HKB.out x h; omega) _)
  have HREAD : Hid (Tx.readE r0 = (⟨x0, x1, x2, x3, x4, x5, x6, x7⟩, r15)) := Lib.hid (by
    unfold Tx.readE
    simp only [HX0.out, HM0.out, HX1.out, HM1.out, HX2.out, HM2.out, HX3.out, HM3.out, HX4.out, HM4.out, HX5.out, HM5.out, HX6.out, HM6.out, HX7.out])
  clear HRR HX0 HM0 HX1 HM1 HX2 HM2 HX3 HM3 HX4 HM4 HX5 HM5 HX6 HM6 HX7 HLA4 HKA
  have hrd := HSET.out.rd
  have hle : r15.rest.length ≤ s.length := rd_len hrd
  obtain ⟨k, hk, hrk, hb⟩ := hrd
  go_upto_region 16 with (fail)
  generalize W23.setCell ⟨E, 7, none⟩ (.slice ka x7.length kc) = W24 at *
  have c1 := hb.cell 1 (v := .int .i64 k) rfl
  have c2 := hb.cell 2 (v := .bool r15.bad) rfl
  have HB := Lib.hid hb
  have HRK := Lib.hid hrk
  clear hb hrk g7 f7 l7 HG
  have hB := HSET.out.res
  have hBl := hB.lt
  have b0 := hB.cell 0 rfl
  have b1 := hB.cell 1 rfl
  have b2 := hB.cell 2 rfl
  have b3 := hB.cell 3 rfl
  have b4 := hB.cell 4 rfl
  have b5 := hB.cell 5 rfl
  have b6 := hB.cell 6 rfl
  have b7 := hB.cell 7 rfl
  have z0 := hB.fz 0
  have z1 := hB.fz 1
  have z2 := hB.fz 2
  have z3 := hB.fz 3
  have z4 := hB.fz 4
  have z5 := hB.fz 5
  have z6 := hB.fz 6
  have z7 := hB.fz 7
  clear hB
  cases hbad : r15.bad with
  | true =>
    rw [hbad] at c2
    have HOK : Hid (Tx.okRd r15 = false) := Lib.hid (by unfold Tx.okRd; rw [hbad]; rfl)
    go_wp2_with fail
    go_region
    have hx : Ext w ((((((((W24.setCell ⟨w.heap.size, 0, none⟩ (.int .i64 0)).setCell ⟨w.heap.size, 1, none⟩ (.int .i64 0)).setCell ⟨w.heap.size, 2, none⟩ (.int .i64 0)).setCell ⟨w.heap.size, 3, none⟩ (.int .i64 0)).setCell ⟨w.heap.size, 4, none⟩ (.int .i64 0)).setCell ⟨w.heap.size, 5, none⟩ (.int .u64 0)).setCell ⟨w.heap.size, 6, none⟩ (.slice none 0 0)).setCell ⟨w.heap.size, 7, none⟩ (.slice none 0 0)).drew := Ext.drew (Below.setCell (Below.setCell (Below.setCell (Below.setCell (Below.setCell (Below.setCell (Below.setCell (Below.setCell HSET.out.ext (Nat.le_refl _) (.int .i64 0)) (Nat.le_refl _) (.int .i64 0)) (Nat.le_refl _) (.int .i64 0)) (Nat.le_refl _) (.int .i64 0)) (Nat.le_refl _) (.int .i64 0)) (Nat.le_refl _) (.int .u64 0)) (Nat.le_refl _) (.slice none 0 0)) (Nat.le_refl _) (.slice none 0 0))
    have hb : Blk ((((((((W24.setCell ⟨w.heap.size, 0, none⟩ (.int .i64 0)).setCell ⟨w.heap.size, 1, none⟩ (.int .i64 0)).setCell ⟨w.heap.size, 2, none⟩ (.int .i64 0)).setCell ⟨w.heap.size, 3, none⟩ (.int .i64 0)).setCell ⟨w.heap.size, 4, none⟩ (.int .i64 0)).setCell ⟨w.heap.size, 5, none⟩ (.int .u64 0)).setCell ⟨w.heap.size, 6, none⟩ (.slice none 0 0)).setCell ⟨w.heap.size, 7, none⟩ (.slice none 0 0)).drew w.heap.size #[.int .i64 0, .int .i64 0, .int .i64 0, .int .i64 0, .int .i64 0, .int .u64 0, .slice none 0 0, .slice none 0 0] 29 := (show Blk ((((((((W24.setCell ⟨w.heap.size, 0, none⟩ (.int .i64 0)).setCell ⟨w.heap.size, 1, none⟩ (.int .i64 0)).setCell ⟨w.heap.size, 2, none⟩ (.int .i64 0)).setCell ⟨w.heap.size, 3, none⟩ (.int .i64 0)).setCell ⟨w.heap.size, 4, none⟩ (.int .i64 0)).setCell ⟨w.heap.size, 5, none⟩ (.int .u64 0)).setCell ⟨w.heap.size, 6, none⟩ (.slice none 0 0)).setCell ⟨w.heap.size, 7, none⟩ (.slice none 0 0)) w.heap.size #[.int .i64 0, .int .i64 0, .int .i64 0, .int .i64 0, .int .i64 0, .int .u64 0, .slice none 0 0, .slice none 0 0] 29 from ((((((((HSET.out.res.set 0 (.int .i64 0)).set 1 (.int .i64 0)).set 2 (.int .i64 0)).set 3 (.int .i64 0)).set 4 (.int .i64 0)).set 5 (.int .u64 0)).set 6 (.slice none 0 0)).set 7 (.slice none 0 0))).ext ((Ext.refl _).drew)
    generalize ((((((((W24.setCell ⟨w.heap.size, 0, none⟩ (.int .i64 0)).setCell ⟨w.heap.size, 1, none⟩ (.int .i64 0)).setCell ⟨w.heap.size, 2, none⟩ (.int .i64 0)).setCell ⟨w.heap.size, 3, none⟩ (.int .i64 0)).setCell ⟨w.heap.size, 4, none⟩ (.int .i64 0)).setCell ⟨w.heap.size, 5, none⟩ (.int .u64 0)).setCell ⟨w.heap.size, 6, none⟩ (.slice none 0 0)).setCell ⟨w.heap.size, 7, none⟩ (.slice none 0 0)).drew = W25 at *
    have HX := Lib.hid hx
    have HBB := Lib.hid hb
    clear hx hb b0 b1 b2 b3 b4 b5 b6 b7 z0 z1 z2 z3 z4 z5 z6 z7 c1 c2
    go_wp2_with fail
    have d0 := HBB.out.cell 0 rfl
    have d1 := HBB.out.cell 1 rfl
    have d2 := HBB.out.cell 2 rfl
    have d3 := HBB.out.cell 3 rfl
    have d4 := HBB.out.cell 4 rfl
    have d5 := HBB.out.cell 5 rfl
    have d6 := HBB.out.cell 6 rfl
    have d7 := HBB.out.cell 7 rfl
    refine bodyPost_ret (v := .tuple #[.agg #[.int .i64 0, .int .i64 0, .int .i64 0, .int .i64 0, .int .i64 0, .int .u64 0, .slice none 0 0, .slice none 0 0], .int .i64 k, .bool false]) (by simp [results, Try.results12, go_sem, d0, d1, d2, d3, d4, d5, d6, d7]) rfl ?_
    rw [← HPOST.out, HREAD.out]
    exact ⟨HX.out, .inr ⟨HOK.out, k, hk, HRK.out, rfl⟩⟩
  | false =>
    rw [hbad] at c2
    by_cases hlt : k < s.length
    · have HOK : Hid (Tx.okRd r15 = false) := Lib.hid (by
        unfold Tx.okRd
        rw [hbad, HRK.out, List.drop_eq_getElem_cons hlt]; rfl)
      go_wp2_with fail
      go_region
      have hx : Ext w ((((((((W24.setCell ⟨w.heap.size, 0, none⟩ (.int .i64 0)).setCell ⟨w.heap.size, 1, none⟩ (.int .i64 0)).setCell ⟨w.heap.size, 2, none⟩ (.int .i64 0)).setCell ⟨w.heap.size, 3, none⟩ (.int .i64 0)).setCell ⟨w.heap.size, 4, none⟩ (.int .i64 0)).setCell ⟨w.heap.size, 5, none⟩ (.int .u64 0)).setCell ⟨w.heap.size, 6, none⟩ (.slice none 0 0)).setCell ⟨w.heap.size, 7, none⟩ (.slice none 0 0)).drew := Ext.drew (Below.setCell (Below.setCell (Below.setCell (Below.setCell (Below.setCell (Below.setCell (Below.setCell (Below.setCell HSET.out.ext (Nat.le_refl _) (.int .i64 0)) (Nat.le_refl _) (.int .i64 0)) (Nat.le_refl _) (.int .i64 0)) (Nat.le_refl _) (.int .i64 0)) (Nat.le_refl _) (.int .i64 0)) (Nat.le_refl _) (.int .u64 0)) (Nat.le_refl _) (.slice none 0 0)) (Nat.le_refl _) (.slice none 0 0))
      have hb : Blk ((((((((W24.setCell ⟨w.heap.size, 0, none⟩ (.int .i64 0)).setCell ⟨w.heap.size, 1, none⟩ (.int .i64 0)).setCell ⟨w.heap.size, 2, none⟩ (.int .i64 0)).setCell ⟨w.heap.size, 3, none⟩ (.int .i64 0)).setCell ⟨w.heap.size, 4, none⟩ (.int .i64 0)).setCell ⟨w.heap.size, 5, none⟩ (.int .u64 0)).setCell ⟨w.heap.size, 6, none⟩ (.slice none 0 0)).setCell ⟨w.heap.size, 7, none⟩ (.slice none 0 0)).drew w.heap.size #[.int .i64 0, .int .i64 0, .int .i64 0, .int .i64 0, .int .i64 0, .int .u64 0, .slice none 0 0, .slice none 0 0] 29 := (show Blk ((((((((W24.setCell ⟨w.heap.size, 0, none⟩ (.int .i64 0)).setCell ⟨w.heap.size, 1, none⟩ (.int .i64 0)).setCell ⟨w.heap.size, 2, none⟩ (.int .i64 0)).setCell ⟨w.heap.size, 3, none⟩ (.int .i64 0)).setCell ⟨w.heap.size, 4, none⟩ (.int .i64 0)).setCell ⟨w.heap.size, 5, none⟩ (.int .u64 0)).setCell ⟨w.heap.size, 6, none⟩ (.slice none 0 0)).setCell ⟨w.heap.size, 7, none⟩ (.slice none 0 0)) w.heap.size #[.int .i64 0, .int .i64 0, .int .i64 0, .int .i64 0, .int .i64 0, .int .u64 0, .slice none 0 0, .slice none 0 0] 29 from ((((((((HSET.out.res.set 0 (.int .i64 0)).set 1 (.int .i64 0)).set 2 (.int .i64 0)).set 3 (.int .i64 0)).set 4 (.int .i64 0)).set 5 (.int .u64 0)).set 6 (.slice none 0 0)).set 7 (.slice none 0 0))).ext ((Ext.refl _).drew)
      generalize ((((((((W24.setCell ⟨w.heap.size, 0, none⟩ (.int .i64 0)).setCell ⟨w.heap.size, 1, none⟩ (.int .i64 0)).setCell ⟨w.heap.size, 2, none⟩ (.int .i64 0)).setCell ⟨w.heap.size, 3, none⟩ (.int .i64 0)).setCell ⟨w.heap.size, 4, none⟩ (.int .i64 0)).setCell ⟨w.heap.size, 5, none⟩ (.int .u64 0)).setCell ⟨w.heap.size, 6, none⟩ (.slice none 0 0)).setCell ⟨w.heap.size, 7, none⟩ (.slice none 0 0)).drew = W25 at *
      have HX := Lib.hid hx
      have HBB := Lib.hid hb
      clear hx hb b0 b1 b2 b3 b4 b5 b6 b7 z0 z1 z2 z3 z4 z5 z6 z7 c1 c2
      go_wp2_with fail
      have d0 := HBB.out.cell 0 rfl
      have d1 := HBB.out.cell 1 rfl
      have d2 := HBB.out.cell 2 rfl
      have d3 := HBB.out.cell 3 rfl
      have d4 := HBB.out.cell 4 rfl
      have d5 := HBB.out.cell 5 rfl
      have d6 := HBB.out.cell 6 rfl
      have d7 := HBB.out.cell 7 rfl
      refine bodyPost_ret (v := .tuple #[.agg #[.int .i64 0, .int .i64 0, .int .i64 0, .int .i64 0, .int .i64 0, .int .u64 0, .slice none 0 0, .slice none 0 0], .int .i64 k, .bool false]) (by simp [results, Try.results12, go_sem, d0, d1, d2, d3, d4, d5, d6, d7]) rfl ?_
      rw [← HPOST.out, HREAD.out]
      exact ⟨HX.out, .inr ⟨HOK.out, k, hk, HRK.out, rfl⟩⟩
    · have HOK : Hid (Tx.okRd r15 = true) := Lib.hid (by
        unfold Tx.okRd
        rw [hbad, HRK.out, List.drop_eq_nil_iff.2 (by omega)]; rfl)
      have g0 := HSET.out.ev.cell 0 rfl
      have g1 := HSET.out.ev.cell 1 rfl
      have g2 := HSET.out.ev.cell 2 rfl
      have g3 := HSET.out.ev.cell 3 rfl
      have g4 := HSET.out.ev.cell 4 rfl
      have g5 := HSET.out.ev.cell 5 rfl
      have g6 := HSET.out.ev.cell 6 rfl
      have g7 := HSET.out.ev.cell 7 rfl
      go_wp2_with fail
      have hx : Ext w ((((((((W24.setCell ⟨w.heap.size, 0, none⟩ (.int .i64 x0)).setCell ⟨w.heap.size, 1, none⟩ (.int .i64 x1)).setCell ⟨w.heap.size, 2, none⟩ (.int .i64 x2)).setCell ⟨w.heap.size, 3, none⟩ (.int .i64 x3)).setCell ⟨w.heap.size, 4, none⟩ (.int .i64 x4)).setCell ⟨w.heap.size, 5, none⟩ (.int .u64 x5)).setCell ⟨w.heap.size, 6, none⟩ (.slice la x6.length lc)).setCell ⟨w.heap.size, 7, none⟩ (.slice ka x7.length kc)) := (Below.setCell (Below.setCell (Below.setCell (Below.setCell (Below.setCell (Below.setCell (Below.setCell (Below.setCell HSET.out.ext (Nat.le_refl _) (.int .i64 x0)) (Nat.le_refl _) (.int .i64 x1)) (Nat.le_refl _) (.int .i64 x2)) (Nat.le_refl _) (.int .i64 x3)) (Nat.le_refl _) (.int .i64 x4)) (Nat.le_refl _) (.int .u64 x5)) (Nat.le_refl _) (.slice la x6.length lc)) (Nat.le_refl _) (.slice ka x7.length kc))
      have hb : Blk ((((((((W24.setCell ⟨w.heap.size, 0, none⟩ (.int .i64 x0)).setCell ⟨w.heap.size, 1, none⟩ (.int .i64 x1)).setCell ⟨w.heap.size, 2, none⟩ (.int .i64 x2)).setCell ⟨w.heap.size, 3, none⟩ (.int .i64 x3)).setCell ⟨w.heap.size, 4, none⟩ (.int .i64 x4)).setCell ⟨w.heap.size, 5, none⟩ (.int .u64 x5)).setCell ⟨w.heap.size, 6, none⟩ (.slice la x6.length lc)).setCell ⟨w.heap.size, 7, none⟩ (.slice ka x7.length kc)) w.heap.size #[.int .i64 x0, .int .i64 x1, .int .i64 x2, .int .i64 x3, .int .i64 x4, .int .u64 x5, .slice la x6.length lc, .slice ka x7.length kc] 29 := ((((((((HSET.out.res.set 0 (.int .i64 x0)).set 1 (.int .i64 x1)).set 2 (.int .i64 x2)).set 3 (.int .i64 x3)).set 4 (.int .i64 x4)).set 5 (.int .u64 x5)).set 6 (.slice la x6.length lc)).set 7 (.slice ka x7.length kc))
      have hl : IsInts .u64 ((((((((W24.setCell ⟨w.heap.size, 0, none⟩ (.int .i64 x0)).setCell ⟨w.heap.size, 1, none⟩ (.int .i64 x1)).setCell ⟨w.heap.size, 2, none⟩ (.int .i64 x2)).setCell ⟨w.heap.size, 3, none⟩ (.int .i64 x3)).setCell ⟨w.heap.size, 4, none⟩ (.int .i64 x4)).setCell ⟨w.heap.size, 5, none⟩ (.int .u64 x5)).setCell ⟨w.heap.size, 6, none⟩ (.slice la x6.length lc)).setCell ⟨w.heap.size, 7, none⟩ (.slice ka x7.length kc)) la x6 := (ints_set (ints_set (ints_set (ints_set (ints_set (ints_set (ints_set (ints_set HLA5.out (fun x h => by have := HLB.out x h; omega) (.int .i64 x0)) (fun x h => by have := HLB.out x h; omega) (.int .i64 x1)) (fun x h => by have := HLB.out x h; omega) (.int .i64 x2)) (fun x h => by have := HLB.out x h; omega) (.int .i64 x3)) (fun x h => by have := HLB.out x h; omega) (.int .i64 x4)) (fun x h => by have := HLB.out x h; omega) (.int .u64 x5)) (fun x h => by have := HLB.out x h; omega) (.slice la x6.length lc)) (fun x h => by have := HLB.out x h; omega) (.slice ka x7.length kc))
      have hk' : IsInts .i64 ((((((((W24.setCell ⟨w.heap.size, 0, none⟩ (.int .i64 x0)).setCell ⟨w.heap.size, 1, none⟩ (.int .i64 x1)).setCell ⟨w.heap.size, 2, none⟩ (.int .i64 x2)).setCell ⟨w.heap.size, 3, none⟩ (.int .i64 x3)).setCell ⟨w.heap.size, 4, none⟩ (.int .i64 x4)).setCell ⟨w.heap.size, 5, none⟩ (.int .u64 x5)).setCell ⟨w.heap.size, 6, none⟩ (.slice la x6.length lc)).setCell ⟨w.heap.size, 7, none⟩ (.slice ka x7.length kc)) ka x7 := (ints_set (ints_set (ints_set (ints_set (ints_set (ints_set (ints_set (ints_set HKA5.out (fun x h => by have := HKB.out x h; omega) (.int .i64 x0)) (fun x h => by have := HKB.out x h; omega) (.int .i64 x1)) (fun x h => by have := HKB.out x h; omega) (.int .i64 x2)) (fun x h => by have := HKB.out x h; omega) (.int .i64 x3)) (fun x h => by have := HKB.out x h; omega) (.int .i64 x4)) (fun x h => by have := HKB.out x h; omega) (.int .u64 x5)) (fun x h => by have := HKB.out x h; omega) (.slice la x6.length lc)) (fun x h => by have := HKB.out x h; omega) (.slice ka x7.length kc))
      generalize ((((((((W24.setCell ⟨w.heap.size, 0, none⟩ (.int .i64 x0)).setCell ⟨w.heap.size, 1, none⟩ (.int .i64 x1)).setCell ⟨w.heap.size, 2, none⟩ (.int .i64 x2)).setCell ⟨w.heap.size, 3, none⟩ (.int .i64 x3)).setCell ⟨w.heap.size, 4, none⟩ (.int .i64 x4)).setCell ⟨w.heap.size, 5, none⟩ (.int .u64 x5)).setCell ⟨w.heap.size, 6, none⟩ (.slice la x6.length lc)).setCell ⟨w.heap.size, 7, none⟩ (.slice ka x7.length kc)) = W25 at *
      have HX := Lib.hid hx
      have HBB := Lib.hid hb
      have HLF := Lib.hid hl
      have HKF := Lib.hid hk'
      clear hx hb hl hk' b0 b1 b2 b3 b4 b5 b6 b7 z0 z1 z2 z3 z4 z5 z6 z7 c1 c2
      have d0 := HBB.out.cell 0 rfl
      have d1 := HBB.out.cell 1 rfl
      have d2 := HBB.out.cell 2 rfl
      have d3 := HBB.out.cell 3 rfl
      have d4 := HBB.out.cell 4 rfl
      have d5 := HBB.out.cell 5 rfl
      have d6 := HBB.out.cell 6 rfl
      have d7 := HBB.out.cell 7 rfl
      refine bodyPost_ret (v := .tuple #[.agg #[.int .i64 x0, .int .i64 x1, .int .i64 x2, .int .i64 x3, .int .i64 x4, .int .u64 x5, .slice la x6.length lc, .slice ka x7.length kc], .int .i64 0, .bool true]) (by simp [results, Try.results12, go_sem, d0, d1, d2, d3, d4, d5, d6, d7]) rfl ?_
      rw [← HPOST.out, HREAD.out]
      exact ⟨HX.out, .inl ⟨HOK.out, la, lc, ka, kc, rfl, HLF.out, HKF.out⟩⟩

end Go.Proofs.Ytkhagpnnkfglbaa
