/-
  The reference's reading of a line.
-/
import Derived.Test.YtkhagpnnkfglbaaTxLn3
import Derived.Test.YtkhagpnnkfglbaaTxRead
import Derived.Deep.CutBlock
import Derived.Deep.RegionLaw
import Derived.Deep.AppendLies
import Derived.Deep.DeepCutAuto
import Derived.StillTailTactics
import Derived.Outline
namespace Go.Proofs.Ytkhagpnnkfglbaa
open Go.RowKit

theorem own_ext' {w w' : World} {B : Nat} {E : TypeId} {size n : Nat} {v : Value} {xs : List Value} (h : w.ownsRow B E size v n xs) (he : Ext w w') : w'.ownsRow B E size v n xs :=
  own_below (B' := B) h (fun k hk => he.block k (h.lt k hk).2)
theorem ln_grown {w w' : World} {R : Nat} {s : List UInt8} {r : Tx.Rd} {row : Option Nat} (h : LnAt w R s r) (hg : w.grownBy w' row) (hne : row ≠ some R) : LnAt w' R s r := by
  obtain ⟨k, h1, h2, h3⟩ := h
  exact ⟨k, h1, h2, h3.grown hg hne⟩
theorem ln_set {w : World} {R : Nat} {s : List UInt8} {r : Tx.Rd} (h : LnAt w R s r) {b i : Nat} (hne : R ≠ b) (v : Value) : LnAt (w.setCell ⟨b, i, none⟩ v) R s r := by
  obtain ⟨k, h1, h2, h3⟩ := h
  exact ⟨k, h1, h2, h3.set_ne hne v⟩

/-- While the reference reads: the results' places, the line, the numbers so far. -/
structure Lng (w : World) (s : List UInt8) (r : Tx.Rd) (xs : List Int) (v : Value) (wr : World) : Prop where
  res : Blk wr w.heap.size #[.int .i64 0, .int .i64 0, .int .i64 0, .int .i64 0, .int .i64 0, .int .u64 0, .slice none 0 0, .slice none 0 0] 29
  ln : Blk wr (w.heap.size + 1) #[.string (St []), .int .i64 0, .bool false] 39
  rd : LnAt wr (w.heap.size + 1 + 1) s r
  own : wr.ownsRow (w.heap.size + 1 + 1 + 1) 3 1 v xs.length (xs.map (Value.int .i64))
  ext : Ext w wr
theorem Lng.next {w : World} {s : List UInt8} {r r' : Tx.Rd} {xs : List Int} {v : Value} {wr w' : World} (h : Lng w s r xs v wr) (hr : LnAt w' (w.heap.size + 1 + 1) s r') (hk : Keep (w.heap.size + 1 + 1) wr w') : Lng w s r' xs v w' :=
  ⟨h.res.keep hk (by omega), h.ln.keep hk (by omega), hr, hk.own h.own (by omega), Keep.below_any hk h.ext (by omega) h.ext.size⟩
theorem Lng.grow {w : World} {s : List UInt8} {r : Tx.Rd} {xs : List Int} {v v' : Value} {wr w' : World} {x : Int} (h : Lng w s r xs v wr) (o : Obj) (hg : (wr.alloc o).grownBy w' v.ownBlock) (ho : w'.ownsRow (w.heap.size + 1 + 1 + 1) 3 1 v' (xs.length + 1) (xs.map (Value.int .i64) ++ [.int .i64 x])) : Lng w s r (xs ++ [x]) v' w' := by
  have hb : ∀ k, v.ownBlock = some k → w.heap.size + 1 + 1 + 1 ≤ k := fun k hk => (h.own.lt k hk).1
  refine ⟨(h.res.alloc o).grown hg (fun he => by have := hb _ he; omega), (h.ln.alloc o).grown hg (fun he => by have := hb _ he; omega), ln_grown (h.rd.ext ((Ext.refl _).alloc o)) hg (fun he => by have := hb _ he; omega), by simpa using ho, ?_⟩
  exact Below.trans (h.ext.alloc o) ((Below.refl _ _).grown hg (by have := h.ext.size; simp; omega) (fun k hk => by have := hb k hk; omega))

/-- While the reference puts an event together. -/
structure Evr (w : World) (E : Nat) (s : List UInt8) (r : Tx.Rd) (cs : Array Value) (wr : World) : Prop where
  res : Blk wr w.heap.size #[.int .i64 0, .int .i64 0, .int .i64 0, .int .i64 0, .int .i64 0, .int .u64 0, .slice none 0 0, .slice none 0 0] 29
  ln : Blk wr (w.heap.size + 1) #[.string (St []), .int .i64 0, .bool false] 39
  ev : Blk wr E cs 29
  hE : (w.heap.size + 1 + 1) < E
  rd : LnAt wr (w.heap.size + 1 + 1) s r
  ext : Ext w wr
theorem Evr.next {w : World} {E : Nat} {s : List UInt8} {r r' : Tx.Rd} {cs : Array Value} {wr w' : World} (h : Evr w E s r cs wr) (hr : LnAt w' (w.heap.size + 1 + 1) s r') (hk : Keep (w.heap.size + 1 + 1) wr w') : Evr w E s r' cs w' :=
  ⟨h.res.keep hk (by omega), h.ln.keep hk (by omega), h.ev.keep hk (by have := h.hE; omega), h.hE, hr, Keep.below_any hk h.ext (by omega) h.ext.size⟩
theorem Evr.ext' {w : World} {E : Nat} {s : List UInt8} {r : Tx.Rd} {cs : Array Value} {wr w' : World} (h : Evr w E s r cs wr) (hx : Ext wr w') : Evr w E s r cs w' :=
  ⟨h.res.ext hx, h.ln.ext hx, h.ev.ext hx, h.hE, h.rd.ext hx, h.ext.trans hx⟩
theorem Evr.set {w : World} {E : Nat} {s : List UInt8} {r : Tx.Rd} {cs : Array Value} {wr : World} (h : Evr w E s r cs wr) (i : Nat) (v : Value) : Evr w E s r (cs.setIfInBounds i v) (wr.setCell ⟨E, i, none⟩ v) := by
  obtain ⟨h1, h2, h3, h4, h5, h6⟩ := h
  exact ⟨h1.set_ne (by omega) v, h2.set_ne (by omega) v, h3.set i v, h4, ln_set h5 (by omega) v, Below.setCell h6 (by simp; omega) v⟩
theorem Evr.grow {w : World} {E : Nat} {s : List UInt8} {r : Tx.Rd} {cs : Array Value} {wr w' : World} {B n : Nat} {T : TypeId} {v : Value} {xs : List Value} (h : Evr w E s r cs wr) (o : Obj) (ho : wr.ownsRow B T 1 v n xs) (hB : E < B) (hg : (wr.alloc o).grownBy w' v.ownBlock) : Evr w E s r cs w' := by
  have hb : ∀ k, v.ownBlock = some k → B ≤ k := fun k hk => (ho.lt k hk).1
  obtain ⟨h1, h2, h3, h4, h5, h6⟩ := h
  refine ⟨(h1.alloc o).grown hg (fun he => by have := hb _ he; omega), (h2.alloc o).grown hg (fun he => by have := hb _ he; omega), (h3.alloc o).grown hg (fun he => by have := hb _ he; omega), h4, ln_grown (h5.ext ((Ext.refl _).alloc o)) hg (fun he => by have := hb _ he; omega), ?_⟩
  exact Below.trans (h6.alloc o) ((Below.refl _ _).grown hg (by have := h6.size; simp; omega) (fun k hk => by have := hb k hk; omega))
theorem ints_grown' {k : IntKind} {w w' : World} {a : Option Addr} {xs : List Int} (h : IsInts k w a xs) {row : Option Nat} (hg : w.grownBy w' row) {B : Nat} (hlt : ∀ x, a = some x → x.block < B ∨ xs = []) (hrow : ∀ j, row = some j → B ≤ j) : IsInts k w' a xs := by
  by_cases h0 : xs = []
  · exact .inl h0
  · rcases h with h | ⟨b, off, ha, hc⟩
    · exact absurd h h0
    · refine .inr ⟨b, off, ha, fun j hj => ?_⟩
      have h1 := hc j hj
      have h2 := (hlt _ ha).resolve_right h0
      rw [World.cell?_of_block (hg.block b (World.block_lt_of_cell? _ _ h1) (fun he => by have := hrow _ he.symm; simp only at h2; omega))]
      exact h1
theorem ints_grown {k : IntKind} {w w' : World} {a : Option Addr} {xs : List Int} (h : IsInts k w a xs) {row : Option Nat} (hg : w.grownBy w' row) (hne : ∀ x, a = some x → row ≠ some x.block) : IsInts k w' a xs := by
  rcases h with h | ⟨b, off, ha, hc⟩
  · exact .inl h
  · refine .inr ⟨b, off, ha, fun j hj => ?_⟩
    have h1 := hc j hj
    have h2 := hne _ ha
    rw [World.cell?_of_block (hg.block b (World.block_lt_of_cell? _ _ h1) (fun he => h2 he.symm))]
    exact h1

def cellLen (w : World) (a : Addr) : Nat := match w.cell? a with
  | some v => lenOf v
  | none => 0
theorem must_le (b : UInt8) (r : Tx.Rd) : (Tx.mustF b r).rest.length ≤ r.rest.length := by
  rcases take_cases b r with ⟨h1, hbad, t, hrest, h2⟩ | ⟨h1, hcase⟩
  · rw [Tx.mustF_is h1, h2, hrest]; simp
  · unfold Tx.mustF; rw [h1]; simp
theorem alike_less {ro one : Tx.Rd → Int × Tx.Rd} {good : Int → Prop} (H : Tx.Reads one good) (A : Tx.Alike ro one) {r : Tx.Rd} (hb : (ro r).2.bad = false) : (ro r).2.rest.length < r.rest.length := by
  rw [(A r).1] at hb ⊢
  exact one_less H hb

theorem Try.infoRow_u : (Try.prog.info? 23).map (fun i => (i.zero, i.size, i.bytes)) = some (some (.int .u64 0), 1, 8) := by kernel_rfl
theorem ln_len {w : World} {R : Nat} {s : List UInt8} {r : Tx.Rd} (h : LnAt w R s r) : r.rest.length ≤ s.length := by
  obtain ⟨k, hk, hr, _⟩ := h
  rw [hr, List.length_drop]; omega
theorem Try.infoRow_i : (Try.prog.info? 3).map (fun i => (i.zero, i.size, i.bytes)) = some (some (.int .i64 0), 1, 8) := by kernel_rfl

/-- What the reference's reading hands back. -/
def LPost (w : World) (p : Tx.Evt × Tx.Rd) (s : List UInt8) (e : Ending) (w' : World) : Prop :=
  Ext w w' ∧ ∃ (la : Option Addr) (lc : Nat) (ka : Option Addr) (kc : Nat) (k : Nat), e = .returned (.tuple #[.agg #[.int .i64 p.1.call, .int .i64 p.1.inv, .int .i64 p.1.resp, .int .i64 p.1.steps, .int .i64 p.1.err, .int .u64 p.1.val, .slice la p.1.list.length lc, .slice ka p.1.key.length kc], .agg #[.string (St s), .int .i64 k, .bool (!Tx.okRd p.2)]]) ∧
    k ≤ s.length ∧ p.2.rest = s.drop k ∧ IsInts .u64 w' la p.1.list ∧ IsInts .i64 w' ka p.1.key

set_option maxRecDepth 100000 in
set_option maxHeartbeats 4000000 in
theorem rread_any (s : List UInt8) (w : World) (hs : s.length ≤ 1000000) :
    Calls Try.prog 13 #[.string (St s)] w (LPost w (Tx.rreadE ⟨s, false⟩) s) := by
  generalize hpost : LPost w (Tx.rreadE ⟨s, false⟩) s = POST
  have HPOST := Lib.hid hpost; clear hpost
  go_enter Try.func13, Try.ntmps13
  go_wp2_with fail
  have hg : Lng w s ⟨s, false⟩ [] (.slice none 0 0) (((w.alloc (.cells #[.int .i64 0, .int .i64 0, .int .i64 0, .int .i64 0, .int .i64 0, .int .u64 0, .slice none 0 0, .slice none 0 0] 29)).alloc (.cells #[.string (St []), .int .i64 0, .bool false] 39)).alloc (.cells #[.string (St s), .int .i64 0, .bool false] 39)) := by
    refine ⟨((Blk.new _ _ _).alloc _).alloc _, ?_, ⟨0, Nat.zero_le _, rfl, ?_⟩, World.ownsRow_nil _ _ _ _, (((Ext.refl w).alloc _).alloc _).alloc _⟩
    · have := (Blk.new (w.alloc (.cells #[.int .i64 0, .int .i64 0, .int .i64 0, .int .i64 0, .int .i64 0, .int .u64 0, .slice none 0 0, .slice none 0 0] 29)) #[.string (St []), .int .i64 0, .bool false] 39).alloc (.cells #[.string (St s), .int .i64 0, .bool false] 39)
      simpa using this
    · have := Blk.new ((w.alloc (.cells #[.int .i64 0, .int .i64 0, .int .i64 0, .int .i64 0, .int .i64 0, .int .u64 0, .slice none 0 0, .slice none 0 0] 29)).alloc (.cells #[.string (St []), .int .i64 0, .bool false] 39)) #[.string (St s), .int .i64 0, .bool false] 39
      simpa using this
  generalize (((w.alloc (.cells #[.int .i64 0, .int .i64 0, .int .i64 0, .int .i64 0, .int .i64 0, .int .u64 0, .slice none 0 0, .slice none 0 0] 29)).alloc (.cells #[.string (St []), .int .i64 0, .bool false] 39)).alloc (.cells #[.string (St s), .int .i64 0, .bool false] 39)) = W0 at *
  have HG0 := Lib.hid hg; clear hg
  generalize hrr : (⟨s, false⟩ : Tx.Rd) = r0 at *
  have HRR := Lib.hid hrr; clear hrr
  refine wp_loop_rounds 6 ?_
  rw [rounds_succ]
  have hc := lint_any W0 (w.heap.size + 1 + 1) s r0 HG0.out.rd hs
  have HC := Lib.hid hc; clear hc
  generalize hx0 : Tx.rintF r0 = p0 at *
  obtain ⟨x0, r1⟩ := p0
  have HX0 := Lib.hid hx0; clear hx0
  simp only at HC
  go_wp2_with fail
  refine HC.out.mono ?_
  rintro e W1 ⟨rfl, hr, hk⟩
  have HG1 := Lib.hid (HG0.out.next hr hk)
  clear hr hk HC HG0
  go_wp2_with (at_builtin; refine wpList_app1 rfl (.tmp 14) (.tmp 17) 27 rfl (w.heap.size + 1 + 1 + 1) 3 _ 8 Try.underlying27 Try.infoRow_i rfl _ 0 _ (.int .i64 x0) _ rfl (HG1.out.own.alloc _) rfl ?_ rfl ?_ ?_ ?_ ?_; rotate_right; intro v0 W2 ho hgr hbb)
  case refine_1 => exact World.cell?_alloc_at _ _ _ _ rfl
  case refine_2 => decide
  case refine_3 => decide
  case refine_4 => have := HG1.out.rd.lt; simp; omega
  have HG2 := Lib.hid (HG1.out.grow _ hgr ho)
  clear ho hgr hbb HG1
  have hc := sign_any 32 32 W2 (w.heap.size + 1 + 1) s r1 rfl HG2.out.rd hs
  have HC := Lib.hid hc; clear hc
  generalize hm0 : Tx.mustF 32 r1 = r2 at *
  have HM0 := Lib.hid hm0; clear hm0
  go_wp2_with fail
  refine HC.out.mono ?_
  rintro e W3 ⟨rfl, hr, hk⟩
  have HG3 := Lib.hid (HG2.out.next hr hk)
  clear hr hk HC HG2
  go_wp2_with fail
  rw [rounds_succ]
  have hc := lint_any W3 (w.heap.size + 1 + 1) s r2 HG3.out.rd hs
  have HC := Lib.hid hc; clear hc
  generalize hx1 : Tx.rintF r2 = p1 at *
  obtain ⟨x1, r3⟩ := p1
  have HX1 := Lib.hid hx1; clear hx1
  simp only at HC
  go_wp2_with fail
  refine HC.out.mono ?_
  rintro e W4 ⟨rfl, hr, hk⟩
  have HG4 := Lib.hid (HG3.out.next hr hk)
  clear hr hk HC HG3
  go_wp2_with (at_builtin; refine wpList_app1 rfl (.tmp 14) (.tmp 17) 27 rfl (w.heap.size + 1 + 1 + 1) 3 _ 8 Try.underlying27 Try.infoRow_i rfl _ 1 _ (.int .i64 x1) _ rfl (HG4.out.own.alloc _) rfl ?_ rfl ?_ ?_ ?_ ?_; rotate_right; intro v1 W5 ho hgr hbb)
  case refine_1 => exact World.cell?_alloc_at _ _ _ _ rfl
  case refine_2 => decide
  case refine_3 => decide
  case refine_4 => have := HG4.out.rd.lt; simp; omega
  have HG5 := Lib.hid (HG4.out.grow _ hgr ho)
  clear ho hgr hbb HG4
  have hc := sign_any 32 32 W5 (w.heap.size + 1 + 1) s r3 rfl HG5.out.rd hs
  have HC := Lib.hid hc; clear hc
  generalize hm1 : Tx.mustF 32 r3 = r4 at *
  have HM1 := Lib.hid hm1; clear hm1
  go_wp2_with fail
  refine HC.out.mono ?_
  rintro e W6 ⟨rfl, hr, hk⟩
  have HG6 := Lib.hid (HG5.out.next hr hk)
  clear hr hk HC HG5
  go_wp2_with fail
  rw [rounds_succ]
  have hc := lint_any W6 (w.heap.size + 1 + 1) s r4 HG6.out.rd hs
  have HC := Lib.hid hc; clear hc
  generalize hx2 : Tx.rintF r4 = p2 at *
  obtain ⟨x2, r5⟩ := p2
  have HX2 := Lib.hid hx2; clear hx2
  simp only at HC
  go_wp2_with fail
  refine HC.out.mono ?_
  rintro e W7 ⟨rfl, hr, hk⟩
  have HG7 := Lib.hid (HG6.out.next hr hk)
  clear hr hk HC HG6
  go_wp2_with (at_builtin; refine wpList_app1 rfl (.tmp 14) (.tmp 17) 27 rfl (w.heap.size + 1 + 1 + 1) 3 _ 8 Try.underlying27 Try.infoRow_i rfl _ 2 _ (.int .i64 x2) _ rfl (HG7.out.own.alloc _) rfl ?_ rfl ?_ ?_ ?_ ?_; rotate_right; intro v2 W8 ho hgr hbb)
  case refine_1 => exact World.cell?_alloc_at _ _ _ _ rfl
  case refine_2 => decide
  case refine_3 => decide
  case refine_4 => have := HG7.out.rd.lt; simp; omega
  have HG8 := Lib.hid (HG7.out.grow _ hgr ho)
  clear ho hgr hbb HG7
  have hc := sign_any 32 32 W8 (w.heap.size + 1 + 1) s r5 rfl HG8.out.rd hs
  have HC := Lib.hid hc; clear hc
  generalize hm2 : Tx.mustF 32 r5 = r6 at *
  have HM2 := Lib.hid hm2; clear hm2
  go_wp2_with fail
  refine HC.out.mono ?_
  rintro e W9 ⟨rfl, hr, hk⟩
  have HG9 := Lib.hid (HG8.out.next hr hk)
  clear hr hk HC HG8
  go_wp2_with fail
  rw [rounds_succ]
  have hc := lint_any W9 (w.heap.size + 1 + 1) s r6 HG9.out.rd hs
  have HC := Lib.hid hc; clear hc
  generalize hx3 : Tx.rintF r6 = p3 at *
  obtain ⟨x3, r7⟩ := p3
  have HX3 := Lib.hid hx3; clear hx3
  simp only at HC
  go_wp2_with fail
  refine HC.out.mono ?_
  rintro e W10 ⟨rfl, hr, hk⟩
  have HG10 := Lib.hid (HG9.out.next hr hk)
  clear hr hk HC HG9
  go_wp2_with (at_builtin; refine wpList_app1 rfl (.tmp 14) (.tmp 17) 27 rfl (w.heap.size + 1 + 1 + 1) 3 _ 8 Try.underlying27 Try.infoRow_i rfl _ 3 _ (.int .i64 x3) _ rfl (HG10.out.own.alloc _) rfl ?_ rfl ?_ ?_ ?_ ?_; rotate_right; intro v3 W11 ho hgr hbb)
  case refine_1 => exact World.cell?_alloc_at _ _ _ _ rfl
  case refine_2 => decide
  case refine_3 => decide
  case refine_4 => have := HG10.out.rd.lt; simp; omega
  have HG11 := Lib.hid (HG10.out.grow _ hgr ho)
  clear ho hgr hbb HG10
  have hc := sign_any 32 32 W11 (w.heap.size + 1 + 1) s r7 rfl HG11.out.rd hs
  have HC := Lib.hid hc; clear hc
  generalize hm3 : Tx.mustF 32 r7 = r8 at *
  have HM3 := Lib.hid hm3; clear hm3
  go_wp2_with fail
  refine HC.out.mono ?_
  rintro e W12 ⟨rfl, hr, hk⟩
  have HG12 := Lib.hid (HG11.out.next hr hk)
  clear hr hk HC HG11
  go_wp2_with fail
  rw [rounds_succ]
  have hc := lint_any W12 (w.heap.size + 1 + 1) s r8 HG12.out.rd hs
  have HC := Lib.hid hc; clear hc
  generalize hx4 : Tx.rintF r8 = p4 at *
  obtain ⟨x4, r9⟩ := p4
  have HX4 := Lib.hid hx4; clear hx4
  simp only at HC
  go_wp2_with fail
  refine HC.out.mono ?_
  rintro e W13 ⟨rfl, hr, hk⟩
  have HG13 := Lib.hid (HG12.out.next hr hk)
  clear hr hk HC HG12
  go_wp2_with (at_builtin; refine wpList_app1 rfl (.tmp 14) (.tmp 17) 27 rfl (w.heap.size + 1 + 1 + 1) 3 _ 8 Try.underlying27 Try.infoRow_i rfl _ 4 _ (.int .i64 x4) _ rfl (HG13.out.own.alloc _) rfl ?_ rfl ?_ ?_ ?_ ?_; rotate_right; intro v4 W14 ho hgr hbb)
  case refine_1 => exact World.cell?_alloc_at _ _ _ _ rfl
  case refine_2 => decide
  case refine_3 => decide
  case refine_4 => have := HG13.out.rd.lt; simp; omega
  have HG14 := Lib.hid (HG13.out.grow _ hgr ho)
  clear ho hgr hbb HG13
  have hc := sign_any 32 32 W14 (w.heap.size + 1 + 1) s r9 rfl HG14.out.rd hs
  have HC := Lib.hid hc; clear hc
  generalize hm4 : Tx.mustF 32 r9 = r10 at *
  have HM4 := Lib.hid hm4; clear hm4
  go_wp2_with fail
  refine HC.out.mono ?_
  rintro e W15 ⟨rfl, hr, hk⟩
  have HG15 := Lib.hid (HG14.out.next hr hk)
  clear hr hk HC HG14
  go_wp2_with fail
  rw [rounds_succ]
  obtain ⟨va, vc, hv, hvi, -⟩ := own_ints HG15.out.own
  subst hv
  rcases hvi with hvi | ⟨vb, vo, rfl, hvc⟩
  · cases hvi
  have q0 : W15.cell? ⟨vb, vo + 0, none⟩ = some (.int .i64 x0) := hvc 0 (by simp)
  have q1 : W15.cell? ⟨vb, vo + 1, none⟩ = some (.int .i64 x1) := hvc 1 (by simp)
  have q2 : W15.cell? ⟨vb, vo + 2, none⟩ = some (.int .i64 x2) := hvc 2 (by simp)
  have q3 : W15.cell? ⟨vb, vo + 3, none⟩ = some (.int .i64 x3) := hvc 3 (by simp)
  have q4 : W15.cell? ⟨vb, vo + 4, none⟩ = some (.int .i64 x4) := hvc 4 (by simp)
  rw [Nat.add_zero] at q0
  clear hvc
  have hvb : vb < W15.heap.size := World.block_lt_of_cell? W15 _ q0
  have hvn : ¬ W15.heap.size = vb := by omega
  have hvn2 : ¬ vb = W15.heap.size := by omega
  go_upto_region 8 with (fail)
  go_cut [6] (fun s6 wx => ∃ E : Nat, s6 = .pointer (some ⟨E, 0, none⟩) ∧ Hid (Evr w E s r10 #[.int .i64 x0, .int .i64 x1, .int .i64 x2, .int .i64 x3, .int .i64 x4, .int .u64 0, .slice none 0 0, .slice none 0 0] wx))
  case first =>
    go_region
    go_wp2_with fail
    go_meet
    refine ⟨W15.heap.size, rfl, Lib.hid (Evr.ext' ⟨HG15.out.res.alloc _, HG15.out.ln.alloc _, Blk.new _ _ _, ?_, HG15.out.rd.ext ((Ext.refl _).alloc _), HG15.out.ext.alloc _⟩ (Ext.refl _).drew)⟩
    exact HG15.out.rd.lt
  case rest =>
  obtain ⟨E, rfl, HEV⟩ := hcut
  clear q0 q1 q2 q3 q4 hvb hvn hvn2 HG15
  have hc := ldig64 wc (w.heap.size + 1 + 1) s r10 HEV.out.rd hs
  have HC := Lib.hid hc; clear hc
  generalize hx5 : Tx.ruintF r10 = p5 at *
  obtain ⟨x5, r11⟩ := p5
  have HX5 := Lib.hid hx5; clear hx5
  simp only at HC
  go_wp2_with fail
  refine HC.out.mono ?_
  rintro e W17 ⟨rfl, hr, hk⟩
  have HG := Lib.hid (HEV.out.next hr hk)
  clear hr hk HC HEV
  have hEE := HG.out.hE
  have g5 := HG.out.ev.cell 5 rfl
  have f5 := HG.out.ev.fz 5
  have l5 := HG.out.ev.lt
  have hset : Evr w E s r11 #[.int .i64 x0, .int .i64 x1, .int .i64 x2, .int .i64 x3, .int .i64 x4, .int .u64 x5, .slice none 0 0, .slice none 0 0] (W17.setCell ⟨E, 5, none⟩ (.int .u64 x5)) := HG.out.set 5 (.int .u64 x5)
  have HSET := Lib.hid hset; clear hset
  have hc := sign_any 32 32 (W17.setCell ⟨E, 5, none⟩ (.int .u64 x5)) (w.heap.size + 1 + 1) s r11 rfl HSET.out.rd hs
  have HC := Lib.hid hc; clear hc
  generalize hm5 : Tx.mustF 32 r11 = r12 at *
  have HM5 := Lib.hid hm5; clear hm5
  go_wp2_with fail
  refine HC.out.mono ?_
  rintro e W19 ⟨rfl, hr, hk⟩
  have HG19 := Lib.hid (HSET.out.next hr hk)
  clear hr hk HC HSET HG g5 f5 l5
  have hc := sign_any 91 91 W19 (w.heap.size + 1 + 1) s r12 rfl HG19.out.rd hs
  have HC := Lib.hid hc; clear hc
  generalize hmu : Tx.mustF 91 r12 = ru at *
  have HMu := Lib.hid hmu; clear hmu
  go_wp2_with fail
  refine HC.out.mono ?_
  rintro e Wau ⟨rfl, hr, hk⟩
  have HGau := Lib.hid (HG19.out.next hr hk)
  clear hr hk HC HG19
  have HT := Lib.hid (is_any 93 93 Wau (w.heap.size + 1 + 1) s ru rfl HGau.out.rd hs)
  go_wp2_with fail
  refine HT.out.mono ?_
  rintro e Wbu ⟨rfl, hx⟩
  have HGbu := Lib.hid (HGau.out.ext' hx)
  clear hx HT HGau
  go_upto_block 2 with (fail)
  go_cut [] (fun wx => ∃ (rr : Tx.Rd) (l : List Int) (la : Option Addr) (lc : Nat), Hid (Tx.rrowGo Tx.ruintF (ru.rest.length + 2) ru [] = (l, rr)) ∧ Hid (Evr w E s rr #[.int .i64 x0, .int .i64 x1, .int .i64 x2, .int .i64 x3, .int .i64 x4, .int .u64 x5, (.slice la l.length lc), .slice none 0 0] wx) ∧ Hid (IsInts .u64 wx la l) ∧ Hid (∀ x, la = some x → E < x.block))
  case first =>
    obtain ⟨B0, hB0⟩ : ∃ B0 : Nat, B0 = Wbu.heap.size := ⟨_, rfl⟩
    have hEB : E < B0 := by rw [hB0]; exact HGbu.out.ev.lt
    have hRE : (w.heap.size + 1 + 1) < E := HGbu.out.hE
    have HB0 := Lib.hid hB0; clear hB0
    go_wp2_with fail
    go_loopw [7] (fun t wr => ∃ (b : Bool) (rr : Tx.Rd) (out : List Int) (f : Nat) (va : Option Addr) (vc : Nat), t = .bool b ∧ Hid (b = !Tx.isF 93 rr) ∧ Hid (wr.ownsRow B0 23 1 (.slice va out.length vc) out.length (out.map (Value.int .u64))) ∧ Hid (Evr w E s rr #[.int .i64 x0, .int .i64 x1, .int .i64 x2, .int .i64 x3, .int .i64 x4, .int .u64 x5, (.slice va out.length vc), .slice none 0 0] wr) ∧ Hid (B0 ≤ wr.heap.size) ∧
      Hid (Tx.rrowGo Tx.ruintF (ru.rest.length + 2) ru [] = Tx.rrowGo Tx.ruintF f rr out) ∧ Hid (rr.bad = false → rr.rest.length < f ∧ out.length + rr.rest.length ≤ s.length) ∧ out.length ≤ s.length + 1) (fun _ wr => s.length + 2 - cellLen wr ⟨E, 6, none⟩)
    case atStart => exact ⟨_, ru, [], _, none, 0, rfl, Lib.hid rfl, Lib.hid (World.ownsRow_nil _ _ _ _), HGbu, Lib.hid (by rw [HB0.out]; exact Nat.le_refl _), Lib.hid rfl, Lib.hid (fun _ => ⟨by omega, by have := ln_len HGbu.out.rd; simp; omega⟩), by simp⟩
    case round =>
      obtain ⟨b, rr, out, f, va, vc, rfl, HBI, HOW, HEV, HBS, HG, HL, hol⟩ := hrel
      have HM1 : Hid (cellLen wr ⟨E, 6, none⟩ = out.length) := Lib.hid (by unfold cellLen; rw [HEV.out.ev.cell 6 rfl]; rfl)
      cases b with
      | false =>
        have HGX : Hid (Tx.rrowGo Tx.ruintF (ru.rest.length + 2) ru [] = (out, rr)) := Lib.hid (by rw [HG.out]; exact Tx.rrowGo_is _ _ _ _ (by have := HBI.out; simpa using this.symm))
        go_wp2_with fail
        go_meet
        obtain ⟨a', c', e1, e2, e3⟩ := own_ints HOW.out
        simp only [Value.slice.injEq] at e1
        obtain ⟨rfl, -, rfl⟩ := e1
        exact ⟨rr, out, va, vc, HGX, HEV, Lib.hid e2, Lib.hid (fun x h => by have := e3 x h; omega)⟩
      | true =>
        have HII : Hid (Tx.isF 93 rr = false) := Lib.hid (by have := HBI.out; simpa using this.symm)
        obtain ⟨kk, hkk, hrk, hbk⟩ := HEV.out.rd
        have c2 := hbk.cell 2 (v := .bool rr.bad) rfl
        clear hbk hrk hkk
        cases hbad : rr.bad with
        | true =>
          rw [hbad] at c2
          have HGX : Hid (Tx.rrowGo Tx.ruintF (ru.rest.length + 2) ru [] = (out, rr)) := Lib.hid (by rw [HG.out]; exact Tx.rrowGo_bad _ _ _ _ hbad)
          clear hbad
          go_wp2_with fail
          go_meet
          obtain ⟨a', c', e1, e2, e3⟩ := own_ints HOW.out
          simp only [Value.slice.injEq] at e1
          obtain ⟨rfl, -, rfl⟩ := e1
          exact ⟨rr, out, va, vc, HGX, HEV, Lib.hid e2, Lib.hid (fun x h => by have := e3 x h; omega)⟩
        | false =>
          rw [hbad] at c2
          obtain ⟨hl1, hl2⟩ := HL.out hbad
          obtain ⟨g, rfl⟩ : ∃ g, f = g + 1 := ⟨f - 1, by omega⟩
          have HX : Hid (Tx.rrowGo Tx.ruintF (ru.rest.length + 2) ru [] = Tx.rrowGo Tx.ruintF g (Tx.ruintF (if out.isEmpty then rr else Tx.mustF 32 rr)).2 (out ++ [(Tx.ruintF (if out.isEmpty then rr else Tx.mustF 32 rr)).1])) := Lib.hid (by
            rw [HG.out]
            show (if Tx.isF 93 rr || rr.bad then _ else _) = _
            rw [HII.out, hbad]; rfl)
          have HL1 := Lib.hid hl1
          have HL2 := Lib.hid hl2
          clear hbad HL HG hl1 hl2
          have g6 := HEV.out.ev.cell 6 (v := .slice va out.length vc) rfl
          have hvl : out.length ≤ 9223372036854775807 := by omega
          by_cases hpos : 0 < out.length
          · have hrm : Hid ((if out.isEmpty then rr else Tx.mustF 32 rr) = Tx.mustF 32 rr) := Lib.hid (by rw [if_neg (by simp; intro h; rw [h] at hpos; simp at hpos)])
            rw [hrm.out] at HX
            have hc := sign_any 32 32 wr (w.heap.size + 1 + 1) s rr rfl HEV.out.rd hs
            have HC := Lib.hid hc; clear hc
            have HRL := Lib.hid (must_le 32 rr)
            clear hrm
            generalize Tx.mustF 32 rr = rm at *
            go_wp2_with fail
            refine HC.out.mono ?_
            rintro e wm ⟨rfl, hr, hk⟩
            have HEVm := Lib.hid (HEV.out.next hr hk)
            have HOWm := Lib.hid (hk.own HOW.out (by omega))
            have HBSm : Hid (B0 ≤ wm.heap.size) := Lib.hid (Nat.le_trans HBS.out hk.size)
            clear hr hk HC g6 c2
            have g6 := HEVm.out.ev.cell 6 (v := .slice va out.length vc) rfl
            have HD : Hid (∀ wx, Ext wm wx → Calls Try.prog 34 #[.pointer (some ⟨(w.heap.size + 1 + 1), 0, none⟩), .string (St [49, 56, 52, 52, 54, 55, 52, 52, 48, 55, 51, 55, 48, 57, 53, 53, 49, 54, 49, 53])] wx (LnPost wx (w.heap.size + 1 + 1) s (Tx.ruintF rm).2 (.int .u64 (Tx.ruintF rm).1))) := Lib.hid (fun wx hx => ldig64 wx (w.heap.size + 1 + 1) s rm (HEVm.out.rd.ext hx) hs)
            have HLS := Lib.hid (fun hb => alike_less Tx.reads_uint Tx.alike_uint (r := rm) hb)
            generalize hone : Tx.ruintF rm = p at *
            obtain ⟨x, r3⟩ := p
            clear hone
            simp only at HX HD HLS
            go_wp2_with fail
            obtain ⟨i0, hi, hz0, hz1, hz2⟩ := info_parts Try.infoRow_u
            have HI := Lib.hid hi
            have HZ := Lib.hid (And.intro hz0 (And.intro hz1 hz2))
            clear hi hz0 hz1 hz2
            go_region_law (first
              | ((refine step_append_lies _ (by rfl) (.tmp 70) (.tmp 73) 24 (by rfl) B0 23 i0 _ 1 8 Try.underlying24 HI.out HZ.out.1 HZ.out.2.1 HZ.out.2.2 (by rfl) (by decide) _ _ _ (by rfl) (HO3.out.alloc _) ⟨_, 0, none⟩ 1 1 [.int .u64 x] (by rfl) rfl (World.news_of_block (heap_alloc_new w3 _)) (by intro u hu; simp at hu; subst hu; rfl) (by decide) (by unfold maxLen; omega) (by omega) (by have := HBS3.out; simp; omega) _ rfl ?_; intro gb c4 w4 hon hg4 hat4 hlt4; have HEV4 := Lib.hid (HEV3.out.grow _ HO3.out hEB hg4); have k1 := HEV4.out.ev.cell 6 (v := .slice va out.length vc) rfl; have k2 := HEV4.out.ev.fz 6; have k3 := HEV4.out.ev.lt; have HO4 : Hid (w4.ownsRow B0 23 1 (.slice (some ⟨gb, 0, none⟩) (out ++ [x]).length c4) (out ++ [x]).length ((out ++ [x]).map (Value.int .u64))) := Lib.hid (by simpa using hon); have HBS4 : Hid (B0 ≤ w4.heap.size) := Lib.hid (by have h1 := HBS3.out; have h2 := hg4.size; simp at h2; omega); clear hon hg4 hat4 hlt4))
              | ((go_simp; go_at_call 34; refine (HD.out _ ((Ext.refl _).drew)).mono ?_; rintro e3 w3 ⟨rfl, hr3, hk3⟩; have HEV3 := Lib.hid ((HEVm.out.ext' ((Ext.refl _).drew)).next hr3 hk3); have HO3 := Lib.hid (hk3.own (own_ext' HOWm.out ((Ext.refl _).drew)) (by omega)); have HBS3 : Hid (B0 ≤ w3.heap.size) := Lib.hid (Nat.le_trans HBSm.out hk3.size); clear hr3 hk3; have g3 := HEV3.out.ev.cell 6 (v := .slice va out.length vc) rfl; have hE3 := HEV3.out.ev.lt; have hE4 : ¬ w3.heap.size = E := (by omega); have hE5 : ¬ E = w3.heap.size := (by omega))))
            all_goals clear hE3 hE4 hE5 HD g6 HEVm HOWm HBSm HEV3 HO3 HBS3 g3
            all_goals generalize (some ⟨gb, 0, none⟩ : Option Addr) = a4 at *
            all_goals
              have hlen5 : (out ++ [x]).length = out.length + 1 := by simp
              rw [hlen5] at HO4
              have HEV5 : Hid (Evr w E s r3 #[.int .i64 x0, .int .i64 x1, .int .i64 x2, .int .i64 x3, .int .i64 x4, .int .u64 x5, (.slice a4 (out.length + 1) c4), .slice none 0 0] (w4.setCell ⟨E, 6, none⟩ (.slice a4 (out.length + 1) c4))) := Lib.hid (HEV4.out.set 6 _)
              have HO5 : Hid ((w4.setCell ⟨E, 6, none⟩ (.slice a4 (out.length + 1) c4)).ownsRow B0 23 1 (.slice a4 (out.length + 1) c4) (out.length + 1) ((out ++ [x]).map (Value.int .u64))) := Lib.hid (own_set HO4.out hEB _)
              have HBS5 : Hid (B0 ≤ (w4.setCell ⟨E, 6, none⟩ (.slice a4 (out.length + 1) c4)).heap.size) := Lib.hid (by have := HBS4.out; simp; omega)
              clear HEV4 HO4 HBS4
              clear hlen5 k1 k2 k3
              generalize (w4.setCell ⟨E, 6, none⟩ (.slice a4 (out.length + 1) c4)) = w5 at *
              obtain ⟨out5, hol5⟩ : ∃ out5 : List Int, out5 = out ++ [x] := ⟨_, rfl⟩
              have hol6 : out.length + 1 = out5.length := by rw [hol5]; simp
              rw [← hol5] at HX HO5
              rw [hol6] at HEV5 HO5
              have HOL5 : Hid (out5.length = out.length + 1) := Lib.hid hol6.symm
              clear hol5
              rw [hol6]
              clear hol6
              have HT5 := Lib.hid (is_any 93 93 w5 (w.heap.size + 1 + 1) s r3 rfl HEV5.out.rd hs)
              have HM5 : Hid (cellLen w5 ⟨E, 6, none⟩ = out5.length) := Lib.hid (by unfold cellLen; rw [HEV5.out.ev.cell 6 rfl]; rfl)
              go_wp2_with fail
              refine HT5.out.mono ?_
              rintro e w6 ⟨rfl, hx⟩
              have HEV6 := Lib.hid (HEV5.out.ext' hx)
              have HO6 := Lib.hid (own_ext' HO5.out hx)
              have HBS6 : Hid (B0 ≤ w6.heap.size) := Lib.hid (Nat.le_trans HBS5.out hx.size)
              have HM6 : Hid (cellLen w6 ⟨E, 6, none⟩ = out5.length) := Lib.hid (by unfold cellLen; rw [HEV6.out.ev.cell 6 rfl]; rfl)
              clear hx HT5 HEV5 HO5 HBS5 HM5
              go_wp2_with fail
              go_roundw
              case rel => exact ⟨_, r3, out5, g, a4, c4, rfl, Lib.hid rfl, HO6, HEV6, HBS6, HX, Lib.hid (fun hb => by have a1 := HLS.out hb; have a2 := HL1.out; have a3 := HL2.out; have a5 := HOL5.out; have a6 := HRL.out; omega), by have a3 := HL2.out; have a5 := HOL5.out; omega⟩
              case measure => have a1 := HM1.out; have a2 := HM6.out; have a3 := HL2.out; have a5 := HOL5.out; simp only [a1, a2]; omega
          · have hd0 : decide (0 < out.length) = false := by rw [decide_eq_false_iff_not]; exact hpos
            have hd1 : out.length = 0 := by omega
            have HX := Lib.hid (HX.out.trans (by rw [show (if out.isEmpty then rr else Tx.mustF 32 rr) = rr from if_pos (by simp; exact List.length_eq_zero_iff.1 hd1)]))
            have HRL : Hid (rr.rest.length ≤ rr.rest.length) := Lib.hid (Nat.le_refl _)
            have HD1 := Lib.hid hd1
            clear hd1
            have g6 := HEV.out.ev.cell 6 (v := .slice va out.length vc) rfl
            have HD : Hid (∀ wx, Ext wr wx → Calls Try.prog 34 #[.pointer (some ⟨(w.heap.size + 1 + 1), 0, none⟩), .string (St [49, 56, 52, 52, 54, 55, 52, 52, 48, 55, 51, 55, 48, 57, 53, 53, 49, 54, 49, 53])] wx (LnPost wx (w.heap.size + 1 + 1) s (Tx.ruintF rr).2 (.int .u64 (Tx.ruintF rr).1))) := Lib.hid (fun wx hx => ldig64 wx (w.heap.size + 1 + 1) s rr (HEV.out.rd.ext hx) hs)
            have HLS := Lib.hid (fun hb => alike_less Tx.reads_uint Tx.alike_uint (r := rr) hb)
            generalize hone : Tx.ruintF rr = p at *
            obtain ⟨x, r3⟩ := p
            clear hone
            simp only at HX HD HLS
            go_wp2_with fail
            obtain ⟨i0, hi, hz0, hz1, hz2⟩ := info_parts Try.infoRow_u
            have HI := Lib.hid hi
            have HZ := Lib.hid (And.intro hz0 (And.intro hz1 hz2))
            clear hi hz0 hz1 hz2
            go_region_law (first
              | ((refine step_append_lies _ (by rfl) (.tmp 70) (.tmp 73) 24 (by rfl) B0 23 i0 _ 1 8 Try.underlying24 HI.out HZ.out.1 HZ.out.2.1 HZ.out.2.2 (by rfl) (by decide) _ _ _ (by rfl) (HO3.out.alloc _) ⟨_, 0, none⟩ 1 1 [.int .u64 x] (by rfl) rfl (World.news_of_block (heap_alloc_new w3 _)) (by intro u hu; simp at hu; subst hu; rfl) (by decide) (by unfold maxLen; omega) (by omega) (by have := HBS3.out; simp; omega) _ rfl ?_; intro gb c4 w4 hon hg4 hat4 hlt4; have HEV4 := Lib.hid (HEV3.out.grow _ HO3.out hEB hg4); have k1 := HEV4.out.ev.cell 6 (v := .slice va out.length vc) rfl; have k2 := HEV4.out.ev.fz 6; have k3 := HEV4.out.ev.lt; have HO4 : Hid (w4.ownsRow B0 23 1 (.slice (some ⟨gb, 0, none⟩) (out ++ [x]).length c4) (out ++ [x]).length ((out ++ [x]).map (Value.int .u64))) := Lib.hid (by simpa using hon); have HBS4 : Hid (B0 ≤ w4.heap.size) := Lib.hid (by have h1 := HBS3.out; have h2 := hg4.size; simp at h2; omega); clear hon hg4 hat4 hlt4))
              | ((go_simp; go_at_call 34; refine (HD.out _ ((Ext.refl _).drew)).mono ?_; rintro e3 w3 ⟨rfl, hr3, hk3⟩; have HEV3 := Lib.hid ((HEV.out.ext' ((Ext.refl _).drew)).next hr3 hk3); have HO3 := Lib.hid (hk3.own (own_ext' HOW.out ((Ext.refl _).drew)) (by omega)); have HBS3 : Hid (B0 ≤ w3.heap.size) := Lib.hid (Nat.le_trans HBS.out hk3.size); clear hr3 hk3; have g3 := HEV3.out.ev.cell 6 (v := .slice va out.length vc) rfl; have hE3 := HEV3.out.ev.lt; have hE4 : ¬ w3.heap.size = E := (by omega); have hE5 : ¬ E = w3.heap.size := (by omega))))
            all_goals clear hE3 hE4 hE5 HD g6 HEV HOW HBS HEV3 HO3 HBS3 g3
            all_goals generalize (some ⟨gb, 0, none⟩ : Option Addr) = a4 at *
            all_goals
              have hlen5 : (out ++ [x]).length = out.length + 1 := by simp
              rw [hlen5] at HO4
              have HEV5 : Hid (Evr w E s r3 #[.int .i64 x0, .int .i64 x1, .int .i64 x2, .int .i64 x3, .int .i64 x4, .int .u64 x5, (.slice a4 (out.length + 1) c4), .slice none 0 0] (w4.setCell ⟨E, 6, none⟩ (.slice a4 (out.length + 1) c4))) := Lib.hid (HEV4.out.set 6 _)
              have HO5 : Hid ((w4.setCell ⟨E, 6, none⟩ (.slice a4 (out.length + 1) c4)).ownsRow B0 23 1 (.slice a4 (out.length + 1) c4) (out.length + 1) ((out ++ [x]).map (Value.int .u64))) := Lib.hid (own_set HO4.out hEB _)
              have HBS5 : Hid (B0 ≤ (w4.setCell ⟨E, 6, none⟩ (.slice a4 (out.length + 1) c4)).heap.size) := Lib.hid (by have := HBS4.out; simp; omega)
              clear HEV4 HO4 HBS4
              clear hlen5 k1 k2 k3
              generalize (w4.setCell ⟨E, 6, none⟩ (.slice a4 (out.length + 1) c4)) = w5 at *
              obtain ⟨out5, hol5⟩ : ∃ out5 : List Int, out5 = out ++ [x] := ⟨_, rfl⟩
              have hol6 : out.length + 1 = out5.length := by rw [hol5]; simp
              rw [← hol5] at HX HO5
              rw [hol6] at HEV5 HO5
              have HOL5 : Hid (out5.length = out.length + 1) := Lib.hid hol6.symm
              clear hol5
              rw [hol6]
              clear hol6
              have HT5 := Lib.hid (is_any 93 93 w5 (w.heap.size + 1 + 1) s r3 rfl HEV5.out.rd hs)
              have HM5 : Hid (cellLen w5 ⟨E, 6, none⟩ = out5.length) := Lib.hid (by unfold cellLen; rw [HEV5.out.ev.cell 6 rfl]; rfl)
              go_wp2_with fail
              refine HT5.out.mono ?_
              rintro e w6 ⟨rfl, hx⟩
              have HEV6 := Lib.hid (HEV5.out.ext' hx)
              have HO6 := Lib.hid (own_ext' HO5.out hx)
              have HBS6 : Hid (B0 ≤ w6.heap.size) := Lib.hid (Nat.le_trans HBS5.out hx.size)
              have HM6 : Hid (cellLen w6 ⟨E, 6, none⟩ = out5.length) := Lib.hid (by unfold cellLen; rw [HEV6.out.ev.cell 6 rfl]; rfl)
              clear hx HT5 HEV5 HO5 HBS5 HM5
              go_wp2_with fail
              go_roundw
              case rel => exact ⟨_, r3, out5, g, a4, c4, rfl, Lib.hid rfl, HO6, HEV6, HBS6, HX, Lib.hid (fun hb => by have a1 := HLS.out hb; have a2 := HL1.out; have a3 := HL2.out; have a5 := HOL5.out; have a6 := HRL.out; omega), by have a3 := HL2.out; have a5 := HOL5.out; omega⟩
              case measure => have a1 := HM1.out; have a2 := HM6.out; have a3 := HL2.out; have a5 := HOL5.out; simp only [a1, a2]; omega
  case rest =>

  obtain ⟨r13, l6, la6, lc6, HROWA, HEVA, HOT, HOB⟩ := hcut
  obtain ⟨WA, hWA⟩ : ∃ WA : World, WA = wc := ⟨_, rfl⟩
  rw [← hWA] at HEVA HOT ⊢
  clear hWA
  have hc := sign_any 93 93 WA (w.heap.size + 1 + 1) s r13 rfl HEVA.out.rd hs
  have HC := Lib.hid hc; clear hc
  generalize hm7 : Tx.mustF 93 r13 = r13b at *
  have HM7 := Lib.hid hm7; clear hm7
  go_wp2_with fail
  refine HC.out.mono ?_
  rintro e WA1 ⟨rfl, hr, hk⟩
  have HGA1 := Lib.hid (HEVA.out.next hr hk)
  have HOT1 := Lib.hid (HOT.out.keep hk (fun x h => by have := HOB.out x h; omega))
  clear hr hk HC HEVA HOT
  have hc := sign_any 32 32 WA1 (w.heap.size + 1 + 1) s r13b rfl HGA1.out.rd hs
  have HC := Lib.hid hc; clear hc
  generalize hm8 : Tx.mustF 32 r13b = r14 at *
  have HM8 := Lib.hid hm8; clear hm8
  go_wp2_with fail
  refine HC.out.mono ?_
  rintro e WA2 ⟨rfl, hr, hk⟩
  have HGA2 := Lib.hid (HGA1.out.next hr hk)
  have HOT := Lib.hid (HOT1.out.keep hk (fun x h => by have := HOB.out x h; omega))
  clear hr hk HC HGA1 HOT1
  have hc := sign_any 91 91 WA2 (w.heap.size + 1 + 1) s r14 rfl HGA2.out.rd hs
  have HC := Lib.hid hc; clear hc
  generalize hmi : Tx.mustF 91 r14 = ri at *
  have HMi := Lib.hid hmi; clear hmi
  go_wp2_with fail
  refine HC.out.mono ?_
  rintro e Wai ⟨rfl, hr, hk⟩
  have HGai := Lib.hid (HGA2.out.next hr hk)
  have HOa := Lib.hid (HOT.out.keep hk (fun x h => by have := HOB.out x h; have := HGA2.out.hE; omega))
  clear HOT
  clear hr hk HC HGA2
  have HT := Lib.hid (is_any 93 93 Wai (w.heap.size + 1 + 1) s ri rfl HGai.out.rd hs)
  go_wp2_with fail
  refine HT.out.mono ?_
  rintro e Wbi ⟨rfl, hx⟩
  have HGbi := Lib.hid (HGai.out.ext' hx)
  have HOb := Lib.hid (HOa.out.ext hx)
  clear HOa
  clear hx HT HGai
  go_upto_block 4 with (fail)
  go_cut [] (fun wx => ∃ (rr : Tx.Rd) (l : List Int) (la : Option Addr) (lc : Nat), Hid (Tx.rrowGo Tx.rintF (ri.rest.length + 2) ri [] = (l, rr)) ∧ Hid (Evr w E s rr #[.int .i64 x0, .int .i64 x1, .int .i64 x2, .int .i64 x3, .int .i64 x4, .int .u64 x5, .slice la6 l6.length lc6, (.slice la l.length lc)] wx) ∧ Hid (IsInts .i64 wx la l) ∧ Hid (∀ x, la = some x → E < x.block) ∧ Hid (IsInts .u64 wx la6 l6))
  case first =>
    obtain ⟨B0, hB0⟩ : ∃ B0 : Nat, B0 = Wbi.heap.size := ⟨_, rfl⟩
    have hEB : E < B0 := by rw [hB0]; exact HGbi.out.ev.lt
    have hRE : (w.heap.size + 1 + 1) < E := HGbi.out.hE
    have HLT : Hid (∀ x, la6 = some x → x.block < B0 ∨ l6 = []) := Lib.hid (fun x h => by
      rcases HOb.out with h1 | ⟨b, off, hb, hc⟩
      · exact .inr h1
      · by_cases hl0 : l6 = []
        · exact .inr hl0
        · left
          have := World.block_lt_of_cell? Wbi _ (hc 0 (List.length_pos_iff.2 hl0))
          rw [h] at hb; cases hb
          rw [hB0]; exact this)
    have HB0 := Lib.hid hB0; clear hB0
    go_wp2_with fail
    go_loopw [8] (fun t wr => ∃ (b : Bool) (rr : Tx.Rd) (out : List Int) (f : Nat) (va : Option Addr) (vc : Nat), t = .bool b ∧ Hid (b = !Tx.isF 93 rr) ∧ Hid (wr.ownsRow B0 3 1 (.slice va out.length vc) out.length (out.map (Value.int .i64))) ∧ Hid (Evr w E s rr #[.int .i64 x0, .int .i64 x1, .int .i64 x2, .int .i64 x3, .int .i64 x4, .int .u64 x5, .slice la6 l6.length lc6, (.slice va out.length vc)] wr) ∧ Hid (B0 ≤ wr.heap.size) ∧
      Hid (Tx.rrowGo Tx.rintF (ri.rest.length + 2) ri [] = Tx.rrowGo Tx.rintF f rr out) ∧ Hid (rr.bad = false → rr.rest.length < f ∧ out.length + rr.rest.length ≤ s.length) ∧ out.length ≤ s.length + 1 ∧ Hid (IsInts .u64 wr la6 l6)) (fun _ wr => s.length + 2 - cellLen wr ⟨E, 7, none⟩)
    case atStart => exact ⟨_, ri, [], _, none, 0, rfl, Lib.hid rfl, Lib.hid (World.ownsRow_nil _ _ _ _), HGbi, Lib.hid (by rw [HB0.out]; exact Nat.le_refl _), Lib.hid rfl, Lib.hid (fun _ => ⟨by omega, by have := ln_len HGbi.out.rd; simp; omega⟩), by simp, HOb⟩
    case round =>
      obtain ⟨b, rr, out, f, va, vc, rfl, HBI, HOW, HEV, HBS, HG, HL, hol, HOT⟩ := hrel
      have HM1 : Hid (cellLen wr ⟨E, 7, none⟩ = out.length) := Lib.hid (by unfold cellLen; rw [HEV.out.ev.cell 7 rfl]; rfl)
      cases b with
      | false =>
        have HGX : Hid (Tx.rrowGo Tx.rintF (ri.rest.length + 2) ri [] = (out, rr)) := Lib.hid (by rw [HG.out]; exact Tx.rrowGo_is _ _ _ _ (by have := HBI.out; simpa using this.symm))
        go_wp2_with fail
        go_meet
        obtain ⟨a', c', e1, e2, e3⟩ := own_ints HOW.out
        simp only [Value.slice.injEq] at e1
        obtain ⟨rfl, -, rfl⟩ := e1
        exact ⟨rr, out, va, vc, HGX, HEV, Lib.hid e2, Lib.hid (fun x h => by have := e3 x h; omega), HOT⟩
      | true =>
        have HII : Hid (Tx.isF 93 rr = false) := Lib.hid (by have := HBI.out; simpa using this.symm)
        obtain ⟨kk, hkk, hrk, hbk⟩ := HEV.out.rd
        have c2 := hbk.cell 2 (v := .bool rr.bad) rfl
        clear hbk hrk hkk
        cases hbad : rr.bad with
        | true =>
          rw [hbad] at c2
          have HGX : Hid (Tx.rrowGo Tx.rintF (ri.rest.length + 2) ri [] = (out, rr)) := Lib.hid (by rw [HG.out]; exact Tx.rrowGo_bad _ _ _ _ hbad)
          clear hbad
          go_wp2_with fail
          go_meet
          obtain ⟨a', c', e1, e2, e3⟩ := own_ints HOW.out
          simp only [Value.slice.injEq] at e1
          obtain ⟨rfl, -, rfl⟩ := e1
          exact ⟨rr, out, va, vc, HGX, HEV, Lib.hid e2, Lib.hid (fun x h => by have := e3 x h; omega), HOT⟩
        | false =>
          rw [hbad] at c2
          obtain ⟨hl1, hl2⟩ := HL.out hbad
          obtain ⟨g, rfl⟩ : ∃ g, f = g + 1 := ⟨f - 1, by omega⟩
          have HX : Hid (Tx.rrowGo Tx.rintF (ri.rest.length + 2) ri [] = Tx.rrowGo Tx.rintF g (Tx.rintF (if out.isEmpty then rr else Tx.mustF 32 rr)).2 (out ++ [(Tx.rintF (if out.isEmpty then rr else Tx.mustF 32 rr)).1])) := Lib.hid (by
            rw [HG.out]
            show (if Tx.isF 93 rr || rr.bad then _ else _) = _
            rw [HII.out, hbad]; rfl)
          have HL1 := Lib.hid hl1
          have HL2 := Lib.hid hl2
          clear hbad HL HG hl1 hl2
          have g6 := HEV.out.ev.cell 7 (v := .slice va out.length vc) rfl
          have hvl : out.length ≤ 9223372036854775807 := by omega
          by_cases hpos : 0 < out.length
          · have hrm : Hid ((if out.isEmpty then rr else Tx.mustF 32 rr) = Tx.mustF 32 rr) := Lib.hid (by rw [if_neg (by simp; intro h; rw [h] at hpos; simp at hpos)])
            rw [hrm.out] at HX
            have hc := sign_any 32 32 wr (w.heap.size + 1 + 1) s rr rfl HEV.out.rd hs
            have HC := Lib.hid hc; clear hc
            have HRL := Lib.hid (must_le 32 rr)
            clear hrm
            generalize Tx.mustF 32 rr = rm at *
            go_wp2_with fail
            refine HC.out.mono ?_
            rintro e wm ⟨rfl, hr, hk⟩
            have HEVm := Lib.hid (HEV.out.next hr hk)
            have HOWm := Lib.hid (hk.own HOW.out (by omega))
            have HBSm : Hid (B0 ≤ wm.heap.size) := Lib.hid (Nat.le_trans HBS.out hk.size)
            have HOTm := Lib.hid (HOT.out.keep hk (fun x h => by have := HOB.out x h; omega))
            clear hr hk HC g6 c2
            have g6 := HEVm.out.ev.cell 7 (v := .slice va out.length vc) rfl
            have HD : Hid (∀ wx, Ext wm wx → Calls Try.prog 32 #[.pointer (some ⟨(w.heap.size + 1 + 1), 0, none⟩)] wx (LnPost wx (w.heap.size + 1 + 1) s (Tx.rintF rm).2 (.int .i64 (Tx.rintF rm).1))) := Lib.hid (fun wx hx => lint_any wx (w.heap.size + 1 + 1) s rm (HEVm.out.rd.ext hx) hs)
            have HLS := Lib.hid (fun hb => alike_less Tx.reads_int Tx.alike_int (r := rm) hb)
            generalize hone : Tx.rintF rm = p at *
            obtain ⟨x, r3⟩ := p
            clear hone
            simp only at HX HD HLS
            go_wp2_with fail
            obtain ⟨i0, hi, hz0, hz1, hz2⟩ := info_parts Try.infoRow_i
            have HI := Lib.hid hi
            have HZ := Lib.hid (And.intro hz0 (And.intro hz1 hz2))
            clear hi hz0 hz1 hz2
            go_region_law (first
              | ((refine step_append_lies _ (by rfl) (.tmp 104) (.tmp 107) 27 (by rfl) B0 3 i0 _ 1 8 Try.underlying27 HI.out HZ.out.1 HZ.out.2.1 HZ.out.2.2 (by rfl) (by decide) _ _ _ (by rfl) (HO3.out.alloc _) ⟨_, 0, none⟩ 1 1 [.int .i64 x] (by rfl) rfl (World.news_of_block (heap_alloc_new w3 _)) (by intro u hu; simp at hu; subst hu; rfl) (by decide) (by unfold maxLen; omega) (by omega) (by have := HBS3.out; simp; omega) _ rfl ?_; intro gb c4 w4 hon hg4 hat4 hlt4; have HEV4 := Lib.hid (HEV3.out.grow _ HO3.out hEB hg4); have k1 := HEV4.out.ev.cell 7 (v := .slice va out.length vc) rfl; have k2 := HEV4.out.ev.fz 7; have k3 := HEV4.out.ev.lt; have HO4 : Hid (w4.ownsRow B0 3 1 (.slice (some ⟨gb, 0, none⟩) (out ++ [x]).length c4) (out ++ [x]).length ((out ++ [x]).map (Value.int .i64))) := Lib.hid (by simpa using hon); have HBS4 : Hid (B0 ≤ w4.heap.size) := Lib.hid (by have h1 := HBS3.out; have h2 := hg4.size; simp at h2; omega); have HOT4 := Lib.hid (ints_grown' (HOT3.out.ext ((Ext.refl w3).alloc _)) hg4 (fun x h => HLT.out x h) (fun j hj => (HO3.out.lt j hj).1)); clear hon hg4 hat4 hlt4))
              | ((go_simp; go_at_call 32; refine (HD.out _ ((Ext.refl _).drew)).mono ?_; rintro e3 w3 ⟨rfl, hr3, hk3⟩; have HEV3 := Lib.hid ((HEVm.out.ext' ((Ext.refl _).drew)).next hr3 hk3); have HO3 := Lib.hid (hk3.own (own_ext' HOWm.out ((Ext.refl _).drew)) (by omega)); have HBS3 : Hid (B0 ≤ w3.heap.size) := Lib.hid (Nat.le_trans HBSm.out hk3.size); have HOT3 := Lib.hid ((HOTm.out.ext ((Ext.refl _).drew)).keep hk3 (fun x h => by have := HOB.out x h; omega)); clear hr3 hk3; have g3 := HEV3.out.ev.cell 7 (v := .slice va out.length vc) rfl; have hE3 := HEV3.out.ev.lt; have hE4 : ¬ w3.heap.size = E := (by omega); have hE5 : ¬ E = w3.heap.size := (by omega))))
            all_goals clear hE3 hE4 hE5 HD g6 HEVm HOWm HBSm HEV3 HO3 HBS3 g3 HOTm HOT3
            all_goals generalize (some ⟨gb, 0, none⟩ : Option Addr) = a4 at *
            all_goals
              have hlen5 : (out ++ [x]).length = out.length + 1 := by simp
              rw [hlen5] at HO4
              have HEV5 : Hid (Evr w E s r3 #[.int .i64 x0, .int .i64 x1, .int .i64 x2, .int .i64 x3, .int .i64 x4, .int .u64 x5, .slice la6 l6.length lc6, (.slice a4 (out.length + 1) c4)] (w4.setCell ⟨E, 7, none⟩ (.slice a4 (out.length + 1) c4))) := Lib.hid (HEV4.out.set 7 _)
              have HO5 : Hid ((w4.setCell ⟨E, 7, none⟩ (.slice a4 (out.length + 1) c4)).ownsRow B0 3 1 (.slice a4 (out.length + 1) c4) (out.length + 1) ((out ++ [x]).map (Value.int .i64))) := Lib.hid (own_set HO4.out hEB _)
              have HBS5 : Hid (B0 ≤ (w4.setCell ⟨E, 7, none⟩ (.slice a4 (out.length + 1) c4)).heap.size) := Lib.hid (by have := HBS4.out; simp; omega)
              have HOT5 : Hid (IsInts .u64 (w4.setCell ⟨E, 7, none⟩ (.slice a4 (out.length + 1) c4)) la6 l6) := Lib.hid (ints_set HOT4.out (fun x h => by have := HOB.out x h; omega) _)
              clear HEV4 HO4 HBS4
              clear hlen5 k1 k2 k3
              generalize (w4.setCell ⟨E, 7, none⟩ (.slice a4 (out.length + 1) c4)) = w5 at *
              obtain ⟨out5, hol5⟩ : ∃ out5 : List Int, out5 = out ++ [x] := ⟨_, rfl⟩
              have hol6 : out.length + 1 = out5.length := by rw [hol5]; simp
              rw [← hol5] at HX HO5
              rw [hol6] at HEV5 HO5
              have HOL5 : Hid (out5.length = out.length + 1) := Lib.hid hol6.symm
              clear hol5
              rw [hol6]
              clear hol6
              have HT5 := Lib.hid (is_any 93 93 w5 (w.heap.size + 1 + 1) s r3 rfl HEV5.out.rd hs)
              have HM5 : Hid (cellLen w5 ⟨E, 7, none⟩ = out5.length) := Lib.hid (by unfold cellLen; rw [HEV5.out.ev.cell 7 rfl]; rfl)
              go_wp2_with fail
              refine HT5.out.mono ?_
              rintro e w6 ⟨rfl, hx⟩
              have HEV6 := Lib.hid (HEV5.out.ext' hx)
              have HO6 := Lib.hid (own_ext' HO5.out hx)
              have HBS6 : Hid (B0 ≤ w6.heap.size) := Lib.hid (Nat.le_trans HBS5.out hx.size)
              have HOT6 := Lib.hid (HOT5.out.ext hx)
              have HM6 : Hid (cellLen w6 ⟨E, 7, none⟩ = out5.length) := Lib.hid (by unfold cellLen; rw [HEV6.out.ev.cell 7 rfl]; rfl)
              clear hx HT5 HEV5 HO5 HBS5 HM5
              go_wp2_with fail
              go_roundw
              case rel => exact ⟨_, r3, out5, g, a4, c4, rfl, Lib.hid rfl, HO6, HEV6, HBS6, HX, Lib.hid (fun hb => by have a1 := HLS.out hb; have a2 := HL1.out; have a3 := HL2.out; have a5 := HOL5.out; have a6 := HRL.out; omega), by have a3 := HL2.out; have a5 := HOL5.out; omega, HOT6⟩
              case measure => have a1 := HM1.out; have a2 := HM6.out; have a3 := HL2.out; have a5 := HOL5.out; simp only [a1, a2]; omega
          · have hd0 : decide (0 < out.length) = false := by rw [decide_eq_false_iff_not]; exact hpos
            have hd1 : out.length = 0 := by omega
            have HX := Lib.hid (HX.out.trans (by rw [show (if out.isEmpty then rr else Tx.mustF 32 rr) = rr from if_pos (by simp; exact List.length_eq_zero_iff.1 hd1)]))
            have HRL : Hid (rr.rest.length ≤ rr.rest.length) := Lib.hid (Nat.le_refl _)
            have HD1 := Lib.hid hd1
            clear hd1
            have g6 := HEV.out.ev.cell 7 (v := .slice va out.length vc) rfl
            have HD : Hid (∀ wx, Ext wr wx → Calls Try.prog 32 #[.pointer (some ⟨(w.heap.size + 1 + 1), 0, none⟩)] wx (LnPost wx (w.heap.size + 1 + 1) s (Tx.rintF rr).2 (.int .i64 (Tx.rintF rr).1))) := Lib.hid (fun wx hx => lint_any wx (w.heap.size + 1 + 1) s rr (HEV.out.rd.ext hx) hs)
            have HLS := Lib.hid (fun hb => alike_less Tx.reads_int Tx.alike_int (r := rr) hb)
            generalize hone : Tx.rintF rr = p at *
            obtain ⟨x, r3⟩ := p
            clear hone
            simp only at HX HD HLS
            go_wp2_with fail
            obtain ⟨i0, hi, hz0, hz1, hz2⟩ := info_parts Try.infoRow_i
            have HI := Lib.hid hi
            have HZ := Lib.hid (And.intro hz0 (And.intro hz1 hz2))
            clear hi hz0 hz1 hz2
            go_region_law (first
              | ((refine step_append_lies _ (by rfl) (.tmp 104) (.tmp 107) 27 (by rfl) B0 3 i0 _ 1 8 Try.underlying27 HI.out HZ.out.1 HZ.out.2.1 HZ.out.2.2 (by rfl) (by decide) _ _ _ (by rfl) (HO3.out.alloc _) ⟨_, 0, none⟩ 1 1 [.int .i64 x] (by rfl) rfl (World.news_of_block (heap_alloc_new w3 _)) (by intro u hu; simp at hu; subst hu; rfl) (by decide) (by unfold maxLen; omega) (by omega) (by have := HBS3.out; simp; omega) _ rfl ?_; intro gb c4 w4 hon hg4 hat4 hlt4; have HEV4 := Lib.hid (HEV3.out.grow _ HO3.out hEB hg4); have k1 := HEV4.out.ev.cell 7 (v := .slice va out.length vc) rfl; have k2 := HEV4.out.ev.fz 7; have k3 := HEV4.out.ev.lt; have HO4 : Hid (w4.ownsRow B0 3 1 (.slice (some ⟨gb, 0, none⟩) (out ++ [x]).length c4) (out ++ [x]).length ((out ++ [x]).map (Value.int .i64))) := Lib.hid (by simpa using hon); have HBS4 : Hid (B0 ≤ w4.heap.size) := Lib.hid (by have h1 := HBS3.out; have h2 := hg4.size; simp at h2; omega); have HOT4 := Lib.hid (ints_grown' (HOT3.out.ext ((Ext.refl w3).alloc _)) hg4 (fun x h => HLT.out x h) (fun j hj => (HO3.out.lt j hj).1)); clear hon hg4 hat4 hlt4))
              | ((go_simp; go_at_call 32; refine (HD.out _ ((Ext.refl _).drew)).mono ?_; rintro e3 w3 ⟨rfl, hr3, hk3⟩; have HEV3 := Lib.hid ((HEV.out.ext' ((Ext.refl _).drew)).next hr3 hk3); have HO3 := Lib.hid (hk3.own (own_ext' HOW.out ((Ext.refl _).drew)) (by omega)); have HBS3 : Hid (B0 ≤ w3.heap.size) := Lib.hid (Nat.le_trans HBS.out hk3.size); have HOT3 := Lib.hid ((HOT.out.ext ((Ext.refl _).drew)).keep hk3 (fun x h => by have := HOB.out x h; omega)); clear hr3 hk3; have g3 := HEV3.out.ev.cell 7 (v := .slice va out.length vc) rfl; have hE3 := HEV3.out.ev.lt; have hE4 : ¬ w3.heap.size = E := (by omega); have hE5 : ¬ E = w3.heap.size := (by omega))))
            all_goals clear hE3 hE4 hE5 HD g6 HEV HOW HBS HEV3 HO3 HBS3 g3 HOT HOT3
            all_goals generalize (some ⟨gb, 0, none⟩ : Option Addr) = a4 at *
            all_goals
              have hlen5 : (out ++ [x]).length = out.length + 1 := by simp
              rw [hlen5] at HO4
              have HEV5 : Hid (Evr w E s r3 #[.int .i64 x0, .int .i64 x1, .int .i64 x2, .int .i64 x3, .int .i64 x4, .int .u64 x5, .slice la6 l6.length lc6, (.slice a4 (out.length + 1) c4)] (w4.setCell ⟨E, 7, none⟩ (.slice a4 (out.length + 1) c4))) := Lib.hid (HEV4.out.set 7 _)
              have HO5 : Hid ((w4.setCell ⟨E, 7, none⟩ (.slice a4 (out.length + 1) c4)).ownsRow B0 3 1 (.slice a4 (out.length + 1) c4) (out.length + 1) ((out ++ [x]).map (Value.int .i64))) := Lib.hid (own_set HO4.out hEB _)
              have HBS5 : Hid (B0 ≤ (w4.setCell ⟨E, 7, none⟩ (.slice a4 (out.length + 1) c4)).heap.size) := Lib.hid (by have := HBS4.out; simp; omega)
              have HOT5 : Hid (IsInts .u64 (w4.setCell ⟨E, 7, none⟩ (.slice a4 (out.length + 1) c4)) la6 l6) := Lib.hid (ints_set HOT4.out (fun x h => by have := HOB.out x h; omega) _)
              clear HEV4 HO4 HBS4
              clear hlen5 k1 k2 k3
              generalize (w4.setCell ⟨E, 7, none⟩ (.slice a4 (out.length + 1) c4)) = w5 at *
              obtain ⟨out5, hol5⟩ : ∃ out5 : List Int, out5 = out ++ [x] := ⟨_, rfl⟩
              have hol6 : out.length + 1 = out5.length := by rw [hol5]; simp
              rw [← hol5] at HX HO5
              rw [hol6] at HEV5 HO5
              have HOL5 : Hid (out5.length = out.length + 1) := Lib.hid hol6.symm
              clear hol5
              rw [hol6]
              clear hol6
              have HT5 := Lib.hid (is_any 93 93 w5 (w.heap.size + 1 + 1) s r3 rfl HEV5.out.rd hs)
              have HM5 : Hid (cellLen w5 ⟨E, 7, none⟩ = out5.length) := Lib.hid (by unfold cellLen; rw [HEV5.out.ev.cell 7 rfl]; rfl)
              go_wp2_with fail
              refine HT5.out.mono ?_
              rintro e w6 ⟨rfl, hx⟩
              have HEV6 := Lib.hid (HEV5.out.ext' hx)
              have HO6 := Lib.hid (own_ext' HO5.out hx)
              have HBS6 : Hid (B0 ≤ w6.heap.size) := Lib.hid (Nat.le_trans HBS5.out hx.size)
              have HOT6 := Lib.hid (HOT5.out.ext hx)
              have HM6 : Hid (cellLen w6 ⟨E, 7, none⟩ = out5.length) := Lib.hid (by unfold cellLen; rw [HEV6.out.ev.cell 7 rfl]; rfl)
              clear hx HT5 HEV5 HO5 HBS5 HM5
              go_wp2_with fail
              go_roundw
              case rel => exact ⟨_, r3, out5, g, a4, c4, rfl, Lib.hid rfl, HO6, HEV6, HBS6, HX, Lib.hid (fun hb => by have a1 := HLS.out hb; have a2 := HL1.out; have a3 := HL2.out; have a5 := HOL5.out; have a6 := HRL.out; omega), by have a3 := HL2.out; have a5 := HOL5.out; omega, HOT6⟩
              case measure => have a1 := HM1.out; have a2 := HM6.out; have a3 := HL2.out; have a5 := HOL5.out; simp only [a1, a2]; omega
  case rest =>
  obtain ⟨r15, l7, la7, lc7, HROWB, HEVB, HIB, HOB7, HOT⟩ := hcut
  obtain ⟨WB, hWB⟩ : ∃ WB : World, WB = wc := ⟨_, rfl⟩
  rw [← hWB] at HEVB HOT HIB ⊢
  clear hWB
  have hc := sign_any 93 93 WB (w.heap.size + 1 + 1) s r15 rfl HEVB.out.rd hs
  have HC := Lib.hid hc; clear hc
  generalize hm9 : Tx.mustF 93 r15 = r16 at *
  have HM9 := Lib.hid hm9; clear hm9
  go_wp2_with fail
  refine HC.out.mono ?_
  rintro e WB1 ⟨rfl, hr, hk⟩
  have HEV := Lib.hid (HEVB.out.next hr hk)
  have HLA := Lib.hid (HOT.out.keep hk (fun x h => by have := HOB.out x h; omega))
  have HKA := Lib.hid (HIB.out.keep hk (fun x h => by have := HOB7.out x h; omega))
  clear hr hk HC HEVB HOT HIB
  have HREAD : Hid (Tx.rreadE r0 = (⟨x0, x1, x2, x3, x4, x5, l6, l7⟩, r16)) := Lib.hid (by
    unfold Tx.rreadE Tx.rrowF
    simp only [HX0.out, HM0.out, HX1.out, HM1.out, HX2.out, HM2.out, HX3.out, HM3.out, HX4.out, HM4.out, HX5.out, HM5.out, HMu.out, HROWA.out, HM7.out, HM8.out, HMi.out, HROWB.out, HM9.out])
  clear HRR HX0 HM0 HX1 HM1 HX2 HM2 HX3 HM3 HX4 HM4 HX5 HM5 HMu HROWA HM7 HM8 HMi HROWB HM9
  obtain ⟨k, hk, hrk, hb⟩ := HEV.out.rd
  have c0 := hb.cell 0 (v := .string (St s)) rfl
  have c1 := hb.cell 1 (v := .int .i64 k) rfl
  have c2 := hb.cell 2 (v := .bool r16.bad) rfl
  have f2 := hb.fz 2
  have l2 := hb.lt
  have HB := Lib.hid hb
  have HRK := Lib.hid hrk
  clear hb hrk
  by_cases hlt : k < s.length
  · have HOK : Hid ((!Tx.okRd r16) = true) := Lib.hid (by
      unfold Tx.okRd
      rw [HRK.out, List.drop_eq_getElem_cons hlt]; cases r16.bad <;> rfl)
    go_upto_region 30 with (fail)
    have HL : Hid (Blk (WB1.setCell ⟨(w.heap.size + 1 + 1), 2, none⟩ (.bool true)) (w.heap.size + 1 + 1) #[.string (St s), .int .i64 k, .bool true] 39) := Lib.hid (HB.out.set 2 (.bool true))
    have HR : Hid (Blk (WB1.setCell ⟨(w.heap.size + 1 + 1), 2, none⟩ (.bool true)) w.heap.size #[.int .i64 0, .int .i64 0, .int .i64 0, .int .i64 0, .int .i64 0, .int .u64 0, .slice none 0 0, .slice none 0 0] 29) := Lib.hid (HEV.out.res.set_ne (by omega) _)
    have HN : Hid (Blk (WB1.setCell ⟨(w.heap.size + 1 + 1), 2, none⟩ (.bool true)) (w.heap.size + 1) #[.string (St []), .int .i64 0, .bool false] 39) := Lib.hid (HEV.out.ln.set_ne (by omega) _)
    have HE : Hid (Blk (WB1.setCell ⟨(w.heap.size + 1 + 1), 2, none⟩ (.bool true)) E #[.int .i64 x0, .int .i64 x1, .int .i64 x2, .int .i64 x3, .int .i64 x4, .int .u64 x5, .slice la6 l6.length lc6, .slice la7 l7.length lc7] 29) := Lib.hid (HEV.out.ev.set_ne (by omega) _)
    have HX : Hid (Ext w (WB1.setCell ⟨(w.heap.size + 1 + 1), 2, none⟩ (.bool true))) := Lib.hid (Below.setCell HEV.out.ext (by simp; omega) _)
    have HA2 : Hid (IsInts .u64 (WB1.setCell ⟨(w.heap.size + 1 + 1), 2, none⟩ (.bool true)) la6 l6) := Lib.hid (ints_set HLA.out (fun x h => by have := HOB.out x h; omega) _)
    have HK2 : Hid (IsInts .i64 (WB1.setCell ⟨(w.heap.size + 1 + 1), 2, none⟩ (.bool true)) la7 l7) := Lib.hid (ints_set HKA.out (fun x h => by have := HOB7.out x h; omega) _)
    clear c0 c1 c2 f2 l2 HB HEV HLA HKA
    generalize WB1.setCell ⟨(w.heap.size + 1 + 1), 2, none⟩ (.bool true) = WC at *
    have e0 := HE.out.cell 0 rfl
    have b0 := HR.out.cell 0 rfl
    have zb0 := HR.out.fz 0
    have e1 := HE.out.cell 1 rfl
    have b1 := HR.out.cell 1 rfl
    have zb1 := HR.out.fz 1
    have e2 := HE.out.cell 2 rfl
    have b2 := HR.out.cell 2 rfl
    have zb2 := HR.out.fz 2
    have e3 := HE.out.cell 3 rfl
    have b3 := HR.out.cell 3 rfl
    have zb3 := HR.out.fz 3
    have e4 := HE.out.cell 4 rfl
    have b4 := HR.out.cell 4 rfl
    have zb4 := HR.out.fz 4
    have e5 := HE.out.cell 5 rfl
    have b5 := HR.out.cell 5 rfl
    have zb5 := HR.out.fz 5
    have e6 := HE.out.cell 6 rfl
    have b6 := HR.out.cell 6 rfl
    have zb6 := HR.out.fz 6
    have e7 := HE.out.cell 7 rfl
    have b7 := HR.out.cell 7 rfl
    have zb7 := HR.out.fz 7
    have y0 := HL.out.cell 0 rfl
    have n0 := HN.out.cell 0 rfl
    have zn0 := HN.out.fz 0
    have y1 := HL.out.cell 1 rfl
    have n1 := HN.out.cell 1 rfl
    have zn1 := HN.out.fz 1
    have y2 := HL.out.cell 2 rfl
    have n2 := HN.out.cell 2 rfl
    have zn2 := HN.out.fz 2
    have lb := HR.out.lt
    have ln := HN.out.lt
    have hne1 : ¬ E = w.heap.size := by omega
    have hne2 : ¬ E = w.heap.size + 1 := by omega
    go_region
    have hx : Ext w (((((((((((WC.setCell ⟨w.heap.size, 0, none⟩ (.int .i64 x0)).setCell ⟨w.heap.size, 1, none⟩ (.int .i64 x1)).setCell ⟨w.heap.size, 2, none⟩ (.int .i64 x2)).setCell ⟨w.heap.size, 3, none⟩ (.int .i64 x3)).setCell ⟨w.heap.size, 4, none⟩ (.int .i64 x4)).setCell ⟨w.heap.size, 5, none⟩ (.int .u64 x5)).setCell ⟨w.heap.size, 6, none⟩ (.slice la6 l6.length lc6)).setCell ⟨w.heap.size, 7, none⟩ (.slice la7 l7.length lc7)).setCell ⟨w.heap.size + 1, 0, none⟩ (.string (St s))).setCell ⟨w.heap.size + 1, 1, none⟩ (.int .i64 k)).setCell ⟨w.heap.size + 1, 2, none⟩ (.bool true)) := (Below.setCell (Below.setCell (Below.setCell (Below.setCell (Below.setCell (Below.setCell (Below.setCell (Below.setCell (Below.setCell (Below.setCell (Below.setCell HX.out (Nat.le_refl _) (.int .i64 x0)) (Nat.le_refl _) (.int .i64 x1)) (Nat.le_refl _) (.int .i64 x2)) (Nat.le_refl _) (.int .i64 x3)) (Nat.le_refl _) (.int .i64 x4)) (Nat.le_refl _) (.int .u64 x5)) (Nat.le_refl _) (.slice la6 l6.length lc6)) (Nat.le_refl _) (.slice la7 l7.length lc7)) (Nat.le_succ _) (.string (St s))) (Nat.le_succ _) (.int .i64 k)) (Nat.le_succ _) (.bool true))
    have hb1 : Blk (((((((((((WC.setCell ⟨w.heap.size, 0, none⟩ (.int .i64 x0)).setCell ⟨w.heap.size, 1, none⟩ (.int .i64 x1)).setCell ⟨w.heap.size, 2, none⟩ (.int .i64 x2)).setCell ⟨w.heap.size, 3, none⟩ (.int .i64 x3)).setCell ⟨w.heap.size, 4, none⟩ (.int .i64 x4)).setCell ⟨w.heap.size, 5, none⟩ (.int .u64 x5)).setCell ⟨w.heap.size, 6, none⟩ (.slice la6 l6.length lc6)).setCell ⟨w.heap.size, 7, none⟩ (.slice la7 l7.length lc7)).setCell ⟨w.heap.size + 1, 0, none⟩ (.string (St s))).setCell ⟨w.heap.size + 1, 1, none⟩ (.int .i64 k)).setCell ⟨w.heap.size + 1, 2, none⟩ (.bool true)) w.heap.size #[.int .i64 x0, .int .i64 x1, .int .i64 x2, .int .i64 x3, .int .i64 x4, .int .u64 x5, .slice la6 l6.length lc6, .slice la7 l7.length lc7] 29 := (((((((((((HR.out.set 0 (.int .i64 x0)).set 1 (.int .i64 x1)).set 2 (.int .i64 x2)).set 3 (.int .i64 x3)).set 4 (.int .i64 x4)).set 5 (.int .u64 x5)).set 6 (.slice la6 l6.length lc6)).set 7 (.slice la7 l7.length lc7)).set_ne (by omega) (.string (St s))).set_ne (by omega) (.int .i64 k)).set_ne (by omega) (.bool true))
    have hb2 : Blk (((((((((((WC.setCell ⟨w.heap.size, 0, none⟩ (.int .i64 x0)).setCell ⟨w.heap.size, 1, none⟩ (.int .i64 x1)).setCell ⟨w.heap.size, 2, none⟩ (.int .i64 x2)).setCell ⟨w.heap.size, 3, none⟩ (.int .i64 x3)).setCell ⟨w.heap.size, 4, none⟩ (.int .i64 x4)).setCell ⟨w.heap.size, 5, none⟩ (.int .u64 x5)).setCell ⟨w.heap.size, 6, none⟩ (.slice la6 l6.length lc6)).setCell ⟨w.heap.size, 7, none⟩ (.slice la7 l7.length lc7)).setCell ⟨w.heap.size + 1, 0, none⟩ (.string (St s))).setCell ⟨w.heap.size + 1, 1, none⟩ (.int .i64 k)).setCell ⟨w.heap.size + 1, 2, none⟩ (.bool true)) (w.heap.size + 1) #[.string (St s), .int .i64 k, .bool true] 39 := (((((((((((HN.out.set_ne (by omega) (.int .i64 x0)).set_ne (by omega) (.int .i64 x1)).set_ne (by omega) (.int .i64 x2)).set_ne (by omega) (.int .i64 x3)).set_ne (by omega) (.int .i64 x4)).set_ne (by omega) (.int .u64 x5)).set_ne (by omega) (.slice la6 l6.length lc6)).set_ne (by omega) (.slice la7 l7.length lc7)).set 0 (.string (St s))).set 1 (.int .i64 k)).set 2 (.bool true))
    have hl : IsInts .u64 (((((((((((WC.setCell ⟨w.heap.size, 0, none⟩ (.int .i64 x0)).setCell ⟨w.heap.size, 1, none⟩ (.int .i64 x1)).setCell ⟨w.heap.size, 2, none⟩ (.int .i64 x2)).setCell ⟨w.heap.size, 3, none⟩ (.int .i64 x3)).setCell ⟨w.heap.size, 4, none⟩ (.int .i64 x4)).setCell ⟨w.heap.size, 5, none⟩ (.int .u64 x5)).setCell ⟨w.heap.size, 6, none⟩ (.slice la6 l6.length lc6)).setCell ⟨w.heap.size, 7, none⟩ (.slice la7 l7.length lc7)).setCell ⟨w.heap.size + 1, 0, none⟩ (.string (St s))).setCell ⟨w.heap.size + 1, 1, none⟩ (.int .i64 k)).setCell ⟨w.heap.size + 1, 2, none⟩ (.bool true)) la6 l6 := (ints_set (ints_set (ints_set (ints_set (ints_set (ints_set (ints_set (ints_set (ints_set (ints_set (ints_set HA2.out (fun x h => by have := HOB.out x h; omega) (.int .i64 x0)) (fun x h => by have := HOB.out x h; omega) (.int .i64 x1)) (fun x h => by have := HOB.out x h; omega) (.int .i64 x2)) (fun x h => by have := HOB.out x h; omega) (.int .i64 x3)) (fun x h => by have := HOB.out x h; omega) (.int .i64 x4)) (fun x h => by have := HOB.out x h; omega) (.int .u64 x5)) (fun x h => by have := HOB.out x h; omega) (.slice la6 l6.length lc6)) (fun x h => by have := HOB.out x h; omega) (.slice la7 l7.length lc7)) (fun x h => by have := HOB.out x h; omega) (.string (St s))) (fun x h => by have := HOB.out x h; omega) (.int .i64 k)) (fun x h => by have := HOB.out x h; omega) (.bool true))
    have hk' : IsInts .i64 (((((((((((WC.setCell ⟨w.heap.size, 0, none⟩ (.int .i64 x0)).setCell ⟨w.heap.size, 1, none⟩ (.int .i64 x1)).setCell ⟨w.heap.size, 2, none⟩ (.int .i64 x2)).setCell ⟨w.heap.size, 3, none⟩ (.int .i64 x3)).setCell ⟨w.heap.size, 4, none⟩ (.int .i64 x4)).setCell ⟨w.heap.size, 5, none⟩ (.int .u64 x5)).setCell ⟨w.heap.size, 6, none⟩ (.slice la6 l6.length lc6)).setCell ⟨w.heap.size, 7, none⟩ (.slice la7 l7.length lc7)).setCell ⟨w.heap.size + 1, 0, none⟩ (.string (St s))).setCell ⟨w.heap.size + 1, 1, none⟩ (.int .i64 k)).setCell ⟨w.heap.size + 1, 2, none⟩ (.bool true)) la7 l7 := (ints_set (ints_set (ints_set (ints_set (ints_set (ints_set (ints_set (ints_set (ints_set (ints_set (ints_set HK2.out (fun x h => by have := HOB7.out x h; omega) (.int .i64 x0)) (fun x h => by have := HOB7.out x h; omega) (.int .i64 x1)) (fun x h => by have := HOB7.out x h; omega) (.int .i64 x2)) (fun x h => by have := HOB7.out x h; omega) (.int .i64 x3)) (fun x h => by have := HOB7.out x h; omega) (.int .i64 x4)) (fun x h => by have := HOB7.out x h; omega) (.int .u64 x5)) (fun x h => by have := HOB7.out x h; omega) (.slice la6 l6.length lc6)) (fun x h => by have := HOB7.out x h; omega) (.slice la7 l7.length lc7)) (fun x h => by have := HOB7.out x h; omega) (.string (St s))) (fun x h => by have := HOB7.out x h; omega) (.int .i64 k)) (fun x h => by have := HOB7.out x h; omega) (.bool true))
    clear HR HN HE HL HX HA2 HK2 e0 b0 zb0 e1 b1 zb1 e2 b2 zb2 e3 b3 zb3 e4 b4 zb4 e5 b5 zb5 e6 b6 zb6 e7 b7 zb7 y0 n0 zn0 y1 n1 zn1 y2 n2 zn2 lb ln
    generalize (((((((((((WC.setCell ⟨w.heap.size, 0, none⟩ (.int .i64 x0)).setCell ⟨w.heap.size, 1, none⟩ (.int .i64 x1)).setCell ⟨w.heap.size, 2, none⟩ (.int .i64 x2)).setCell ⟨w.heap.size, 3, none⟩ (.int .i64 x3)).setCell ⟨w.heap.size, 4, none⟩ (.int .i64 x4)).setCell ⟨w.heap.size, 5, none⟩ (.int .u64 x5)).setCell ⟨w.heap.size, 6, none⟩ (.slice la6 l6.length lc6)).setCell ⟨w.heap.size, 7, none⟩ (.slice la7 l7.length lc7)).setCell ⟨w.heap.size + 1, 0, none⟩ (.string (St s))).setCell ⟨w.heap.size + 1, 1, none⟩ (.int .i64 k)).setCell ⟨w.heap.size + 1, 2, none⟩ (.bool true)) = WD at *
    have HX := Lib.hid (Ext.drew hx)
    have HB1 := Lib.hid (hb1.ext (Ext.refl _).drew)
    have HB2 := Lib.hid (hb2.ext (Ext.refl _).drew)
    have HLF := Lib.hid (hl.ext (Ext.refl _).drew)
    have HKF := Lib.hid (hk'.ext (Ext.refl _).drew)
    clear hx hb1 hb2 hl hk'
    generalize WD.drew = WF at *
    go_wp2_with fail
    have d0 := HB1.out.cell 0 rfl
    have d1 := HB1.out.cell 1 rfl
    have d2 := HB1.out.cell 2 rfl
    have d3 := HB1.out.cell 3 rfl
    have d4 := HB1.out.cell 4 rfl
    have d5 := HB1.out.cell 5 rfl
    have d6 := HB1.out.cell 6 rfl
    have d7 := HB1.out.cell 7 rfl
    have m0 := HB2.out.cell 0 rfl
    have m1 := HB2.out.cell 1 rfl
    have m2 := HB2.out.cell 2 rfl
    refine bodyPost_ret (v := .tuple #[.agg #[.int .i64 x0, .int .i64 x1, .int .i64 x2, .int .i64 x3, .int .i64 x4, .int .u64 x5, .slice la6 l6.length lc6, .slice la7 l7.length lc7], .agg #[.string (St s), .int .i64 k, .bool true]]) (by simp [results, Try.results13, go_sem, d0, d1, d2, d3, d4, d5, d6, d7, m0, m1, m2]) rfl ?_
    rw [← HPOST.out, HREAD.out]
    refine ⟨HX.out, la6, lc6, la7, lc7, k, ?_, hk, HRK.out, HLF.out, HKF.out⟩
    simp only [HOK.out]
  · have HOK : Hid ((!Tx.okRd r16) = r16.bad) := Lib.hid (by
      unfold Tx.okRd
      rw [HRK.out, List.drop_eq_nil_iff.2 (by omega)]; cases r16.bad <;> rfl)
    go_upto_region 30 with (fail)
    have HL : Hid (Blk WB1 (w.heap.size + 1 + 1) #[.string (St s), .int .i64 k, .bool r16.bad] 39) := HB
    have HR := Lib.hid HEV.out.res
    have HN := Lib.hid HEV.out.ln
    have HE := Lib.hid HEV.out.ev
    have HX := Lib.hid HEV.out.ext
    have HA2 := HLA
    have HK2 := HKA
    clear c0 c1 c2 f2 l2 HB HEV HLA HKA
    generalize WB1 = WC at *
    have e0 := HE.out.cell 0 rfl
    have b0 := HR.out.cell 0 rfl
    have zb0 := HR.out.fz 0
    have e1 := HE.out.cell 1 rfl
    have b1 := HR.out.cell 1 rfl
    have zb1 := HR.out.fz 1
    have e2 := HE.out.cell 2 rfl
    have b2 := HR.out.cell 2 rfl
    have zb2 := HR.out.fz 2
    have e3 := HE.out.cell 3 rfl
    have b3 := HR.out.cell 3 rfl
    have zb3 := HR.out.fz 3
    have e4 := HE.out.cell 4 rfl
    have b4 := HR.out.cell 4 rfl
    have zb4 := HR.out.fz 4
    have e5 := HE.out.cell 5 rfl
    have b5 := HR.out.cell 5 rfl
    have zb5 := HR.out.fz 5
    have e6 := HE.out.cell 6 rfl
    have b6 := HR.out.cell 6 rfl
    have zb6 := HR.out.fz 6
    have e7 := HE.out.cell 7 rfl
    have b7 := HR.out.cell 7 rfl
    have zb7 := HR.out.fz 7
    have y0 := HL.out.cell 0 rfl
    have n0 := HN.out.cell 0 rfl
    have zn0 := HN.out.fz 0
    have y1 := HL.out.cell 1 rfl
    have n1 := HN.out.cell 1 rfl
    have zn1 := HN.out.fz 1
    have y2 := HL.out.cell 2 rfl
    have n2 := HN.out.cell 2 rfl
    have zn2 := HN.out.fz 2
    have lb := HR.out.lt
    have ln := HN.out.lt
    have hne1 : ¬ E = w.heap.size := by omega
    have hne2 : ¬ E = w.heap.size + 1 := by omega
    go_region
    have hx : Ext w (((((((((((WC.setCell ⟨w.heap.size, 0, none⟩ (.int .i64 x0)).setCell ⟨w.heap.size, 1, none⟩ (.int .i64 x1)).setCell ⟨w.heap.size, 2, none⟩ (.int .i64 x2)).setCell ⟨w.heap.size, 3, none⟩ (.int .i64 x3)).setCell ⟨w.heap.size, 4, none⟩ (.int .i64 x4)).setCell ⟨w.heap.size, 5, none⟩ (.int .u64 x5)).setCell ⟨w.heap.size, 6, none⟩ (.slice la6 l6.length lc6)).setCell ⟨w.heap.size, 7, none⟩ (.slice la7 l7.length lc7)).setCell ⟨w.heap.size + 1, 0, none⟩ (.string (St s))).setCell ⟨w.heap.size + 1, 1, none⟩ (.int .i64 k)).setCell ⟨w.heap.size + 1, 2, none⟩ (.bool r16.bad)) := (Below.setCell (Below.setCell (Below.setCell (Below.setCell (Below.setCell (Below.setCell (Below.setCell (Below.setCell (Below.setCell (Below.setCell (Below.setCell HX.out (Nat.le_refl _) (.int .i64 x0)) (Nat.le_refl _) (.int .i64 x1)) (Nat.le_refl _) (.int .i64 x2)) (Nat.le_refl _) (.int .i64 x3)) (Nat.le_refl _) (.int .i64 x4)) (Nat.le_refl _) (.int .u64 x5)) (Nat.le_refl _) (.slice la6 l6.length lc6)) (Nat.le_refl _) (.slice la7 l7.length lc7)) (Nat.le_succ _) (.string (St s))) (Nat.le_succ _) (.int .i64 k)) (Nat.le_succ _) (.bool r16.bad))
    have hb1 : Blk (((((((((((WC.setCell ⟨w.heap.size, 0, none⟩ (.int .i64 x0)).setCell ⟨w.heap.size, 1, none⟩ (.int .i64 x1)).setCell ⟨w.heap.size, 2, none⟩ (.int .i64 x2)).setCell ⟨w.heap.size, 3, none⟩ (.int .i64 x3)).setCell ⟨w.heap.size, 4, none⟩ (.int .i64 x4)).setCell ⟨w.heap.size, 5, none⟩ (.int .u64 x5)).setCell ⟨w.heap.size, 6, none⟩ (.slice la6 l6.length lc6)).setCell ⟨w.heap.size, 7, none⟩ (.slice la7 l7.length lc7)).setCell ⟨w.heap.size + 1, 0, none⟩ (.string (St s))).setCell ⟨w.heap.size + 1, 1, none⟩ (.int .i64 k)).setCell ⟨w.heap.size + 1, 2, none⟩ (.bool r16.bad)) w.heap.size #[.int .i64 x0, .int .i64 x1, .int .i64 x2, .int .i64 x3, .int .i64 x4, .int .u64 x5, .slice la6 l6.length lc6, .slice la7 l7.length lc7] 29 := (((((((((((HR.out.set 0 (.int .i64 x0)).set 1 (.int .i64 x1)).set 2 (.int .i64 x2)).set 3 (.int .i64 x3)).set 4 (.int .i64 x4)).set 5 (.int .u64 x5)).set 6 (.slice la6 l6.length lc6)).set 7 (.slice la7 l7.length lc7)).set_ne (by omega) (.string (St s))).set_ne (by omega) (.int .i64 k)).set_ne (by omega) (.bool r16.bad))
    have hb2 : Blk (((((((((((WC.setCell ⟨w.heap.size, 0, none⟩ (.int .i64 x0)).setCell ⟨w.heap.size, 1, none⟩ (.int .i64 x1)).setCell ⟨w.heap.size, 2, none⟩ (.int .i64 x2)).setCell ⟨w.heap.size, 3, none⟩ (.int .i64 x3)).setCell ⟨w.heap.size, 4, none⟩ (.int .i64 x4)).setCell ⟨w.heap.size, 5, none⟩ (.int .u64 x5)).setCell ⟨w.heap.size, 6, none⟩ (.slice la6 l6.length lc6)).setCell ⟨w.heap.size, 7, none⟩ (.slice la7 l7.length lc7)).setCell ⟨w.heap.size + 1, 0, none⟩ (.string (St s))).setCell ⟨w.heap.size + 1, 1, none⟩ (.int .i64 k)).setCell ⟨w.heap.size + 1, 2, none⟩ (.bool r16.bad)) (w.heap.size + 1) #[.string (St s), .int .i64 k, .bool r16.bad] 39 := (((((((((((HN.out.set_ne (by omega) (.int .i64 x0)).set_ne (by omega) (.int .i64 x1)).set_ne (by omega) (.int .i64 x2)).set_ne (by omega) (.int .i64 x3)).set_ne (by omega) (.int .i64 x4)).set_ne (by omega) (.int .u64 x5)).set_ne (by omega) (.slice la6 l6.length lc6)).set_ne (by omega) (.slice la7 l7.length lc7)).set 0 (.string (St s))).set 1 (.int .i64 k)).set 2 (.bool r16.bad))
    have hl : IsInts .u64 (((((((((((WC.setCell ⟨w.heap.size, 0, none⟩ (.int .i64 x0)).setCell ⟨w.heap.size, 1, none⟩ (.int .i64 x1)).setCell ⟨w.heap.size, 2, none⟩ (.int .i64 x2)).setCell ⟨w.heap.size, 3, none⟩ (.int .i64 x3)).setCell ⟨w.heap.size, 4, none⟩ (.int .i64 x4)).setCell ⟨w.heap.size, 5, none⟩ (.int .u64 x5)).setCell ⟨w.heap.size, 6, none⟩ (.slice la6 l6.length lc6)).setCell ⟨w.heap.size, 7, none⟩ (.slice la7 l7.length lc7)).setCell ⟨w.heap.size + 1, 0, none⟩ (.string (St s))).setCell ⟨w.heap.size + 1, 1, none⟩ (.int .i64 k)).setCell ⟨w.heap.size + 1, 2, none⟩ (.bool r16.bad)) la6 l6 := (ints_set (ints_set (ints_set (ints_set (ints_set (ints_set (ints_set (ints_set (ints_set (ints_set (ints_set HA2.out (fun x h => by have := HOB.out x h; omega) (.int .i64 x0)) (fun x h => by have := HOB.out x h; omega) (.int .i64 x1)) (fun x h => by have := HOB.out x h; omega) (.int .i64 x2)) (fun x h => by have := HOB.out x h; omega) (.int .i64 x3)) (fun x h => by have := HOB.out x h; omega) (.int .i64 x4)) (fun x h => by have := HOB.out x h; omega) (.int .u64 x5)) (fun x h => by have := HOB.out x h; omega) (.slice la6 l6.length lc6)) (fun x h => by have := HOB.out x h; omega) (.slice la7 l7.length lc7)) (fun x h => by have := HOB.out x h; omega) (.string (St s))) (fun x h => by have := HOB.out x h; omega) (.int .i64 k)) (fun x h => by have := HOB.out x h; omega) (.bool r16.bad))
    have hk' : IsInts .i64 (((((((((((WC.setCell ⟨w.heap.size, 0, none⟩ (.int .i64 x0)).setCell ⟨w.heap.size, 1, none⟩ (.int .i64 x1)).setCell ⟨w.heap.size, 2, none⟩ (.int .i64 x2)).setCell ⟨w.heap.size, 3, none⟩ (.int .i64 x3)).setCell ⟨w.heap.size, 4, none⟩ (.int .i64 x4)).setCell ⟨w.heap.size, 5, none⟩ (.int .u64 x5)).setCell ⟨w.heap.size, 6, none⟩ (.slice la6 l6.length lc6)).setCell ⟨w.heap.size, 7, none⟩ (.slice la7 l7.length lc7)).setCell ⟨w.heap.size + 1, 0, none⟩ (.string (St s))).setCell ⟨w.heap.size + 1, 1, none⟩ (.int .i64 k)).setCell ⟨w.heap.size + 1, 2, none⟩ (.bool r16.bad)) la7 l7 := (ints_set (ints_set (ints_set (ints_set (ints_set (ints_set (ints_set (ints_set (ints_set (ints_set (ints_set HK2.out (fun x h => by have := HOB7.out x h; omega) (.int .i64 x0)) (fun x h => by have := HOB7.out x h; omega) (.int .i64 x1)) (fun x h => by have := HOB7.out x h; omega) (.int .i64 x2)) (fun x h => by have := HOB7.out x h; omega) (.int .i64 x3)) (fun x h => by have := HOB7.out x h; omega) (.int .i64 x4)) (fun x h => by have := HOB7.out x h; omega) (.int .u64 x5)) (fun x h => by have := HOB7.out x h; omega) (.slice la6 l6.length lc6)) (fun x h => by have := HOB7.out x h; omega) (.slice la7 l7.length lc7)) (fun x h => by have := HOB7.out x h; omega) (.string (St s))) (fun x h => by have := HOB7.out x h; omega) (.int .i64 k)) (fun x h => by have := HOB7.out x h; omega) (.bool r16.bad))
    clear HR HN HE HL HX HA2 HK2 e0 b0 zb0 e1 b1 zb1 e2 b2 zb2 e3 b3 zb3 e4 b4 zb4 e5 b5 zb5 e6 b6 zb6 e7 b7 zb7 y0 n0 zn0 y1 n1 zn1 y2 n2 zn2 lb ln
    generalize (((((((((((WC.setCell ⟨w.heap.size, 0, none⟩ (.int .i64 x0)).setCell ⟨w.heap.size, 1, none⟩ (.int .i64 x1)).setCell ⟨w.heap.size, 2, none⟩ (.int .i64 x2)).setCell ⟨w.heap.size, 3, none⟩ (.int .i64 x3)).setCell ⟨w.heap.size, 4, none⟩ (.int .i64 x4)).setCell ⟨w.heap.size, 5, none⟩ (.int .u64 x5)).setCell ⟨w.heap.size, 6, none⟩ (.slice la6 l6.length lc6)).setCell ⟨w.heap.size, 7, none⟩ (.slice la7 l7.length lc7)).setCell ⟨w.heap.size + 1, 0, none⟩ (.string (St s))).setCell ⟨w.heap.size + 1, 1, none⟩ (.int .i64 k)).setCell ⟨w.heap.size + 1, 2, none⟩ (.bool r16.bad)) = WD at *
    have HX := Lib.hid (Ext.drew hx)
    have HB1 := Lib.hid (hb1.ext (Ext.refl _).drew)
    have HB2 := Lib.hid (hb2.ext (Ext.refl _).drew)
    have HLF := Lib.hid (hl.ext (Ext.refl _).drew)
    have HKF := Lib.hid (hk'.ext (Ext.refl _).drew)
    clear hx hb1 hb2 hl hk'
    generalize WD.drew = WF at *
    go_wp2_with fail
    have d0 := HB1.out.cell 0 rfl
    have d1 := HB1.out.cell 1 rfl
    have d2 := HB1.out.cell 2 rfl
    have d3 := HB1.out.cell 3 rfl
    have d4 := HB1.out.cell 4 rfl
    have d5 := HB1.out.cell 5 rfl
    have d6 := HB1.out.cell 6 rfl
    have d7 := HB1.out.cell 7 rfl
    have m0 := HB2.out.cell 0 rfl
    have m1 := HB2.out.cell 1 rfl
    have m2 := HB2.out.cell 2 rfl
    refine bodyPost_ret (v := .tuple #[.agg #[.int .i64 x0, .int .i64 x1, .int .i64 x2, .int .i64 x3, .int .i64 x4, .int .u64 x5, .slice la6 l6.length lc6, .slice la7 l7.length lc7], .agg #[.string (St s), .int .i64 k, .bool r16.bad]]) (by simp [results, Try.results13, go_sem, d0, d1, d2, d3, d4, d5, d6, d7, m0, m1, m2]) rfl ?_
    rw [← HPOST.out, HREAD.out]
    refine ⟨HX.out, la6, lc6, la7, lc7, k, ?_, hk, HRK.out, HLF.out, HKF.out⟩
    simp only [HOK.out]

end Go.Proofs.Ytkhagpnnkfglbaa
