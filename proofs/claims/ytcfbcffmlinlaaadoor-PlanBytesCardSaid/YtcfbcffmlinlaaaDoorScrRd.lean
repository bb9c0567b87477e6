/-
  script's reader: where it lies, what its calls leave as it was; how it gives up.
-/
import Derived.Test.YtcfbcffmlinlaaaDoorScrEnc
import Derived.StillTailTactics
namespace Go.Proofs.YtcfbcffmlinlaaaDoor
open Go.RowKit

theorem insist_ok (at' e : Int) (w : World) : Calls Tryd.prog 49 #[.bool true, .int .i64 at', .int .i64 e] w fun x w' => x = .returned (.tuple #[]) ∧ w' = w := by
  go_enter Tryd.func49, Tryd.ntmps49
  go_wp2
  first | go_end0 | refine bodyPost_ret (results_none rfl _ _ _) rfl ?_
  exact ⟨rfl, rfl⟩

theorem insist_no (at' e : Int) (w : World) : Calls Tryd.prog 49 #[.bool false, .int .i64 at', .int .i64 e] w fun x w' =>
    x = .panicked [{ v := .iface 86 (.agg #[.int .i64 at', .int .i64 e]), recovered := false }] ∧ w' = w := by
  go_enter Tryd.func49, Tryd.ntmps49
  go_wp2
  exact ⟨rfl, rfl, rfl⟩

/-- All blocks that were there are as they were, but for R. -/
def Keep (R : Nat) (w w' : World) : Prop := w.grownBy w' (some R)
theorem Keep.refl (R : Nat) (w : World) : Keep R w w := ⟨rfl, rfl, rfl, Nat.le_refl _, fun _ _ _ => rfl⟩
theorem Keep.trans {R : Nat} {a b c : World} (h : Keep R a b) (k : Keep R b c) : Keep R a c := World.grownBy.trans h k
theorem Keep.size {R : Nat} {a b : World} (h : Keep R a b) : a.heap.size ≤ b.heap.size := World.grownBy.size h
theorem Keep.of_ext {R : Nat} {a b : World} (h : Ext a b) : Keep R a b := ⟨h.os, h.tape, h.output, h.size, fun k hk _ => h.block k hk⟩
theorem Keep.alloc {R : Nat} {a w : World} (h : Keep R a w) (o : Obj) : Keep R a (w.alloc o) := h.trans (Keep.of_ext ((Ext.refl w).alloc o))
theorem Keep.drewN {R : Nat} {a w : World} (h : Keep R a w) (n : Nat) : Keep R a (w.drewN n) := h.trans (Keep.of_ext ((Ext.refl w).drewN n))
theorem keep_set (R i : Nat) (w : World) (v : Value) : Keep R w (w.setCell ⟨R, i, none⟩ v) :=
  ⟨rfl, rfl, rfl, by simp, fun k _ hne => heap_setCell_other w _ k v (by intro h; exact hne (by rw [h]))⟩
theorem Keep.below {R : Nat} {w0 a b : World} (h : Keep R a b) (h0 : Below R w0 a) (hR : R ≤ a.heap.size) : Below R w0 b :=
  ⟨h.os.trans h0.os, h.tape.trans h0.tape, h.output.trans h0.output, Nat.le_trans h0.size h.size, fun k hk => (World.grownBy.block h k (by omega) (by intro he; simp at he; omega)).trans (h0.block k hk)⟩
theorem Keep.block {R : Nat} {a b : World} (h : Keep R a b) {k : Nat} {x : Obj} (hk : k ≠ R) (hx : a.heap[k]? = some x) : b.heap[k]? = some x := by
  rw [World.grownBy.block h k (block_lt hx) (by intro he; simp at he; exact hk he)]; exact hx
theorem Keep.cell {R : Nat} {a b : World} (h : Keep R a b) {p : Addr} {v : Value} (hk : p.block ≠ R) (hx : a.cell? p = some v) : b.cell? p = some v := by
  rw [World.cell?_of_block (World.grownBy.block h p.block (World.block_lt_of_cell? _ _ hx) (by intro he; simp at he; exact hk he))]; exact hx
theorem Keep.own {R : Nat} {a b : World} (h : Keep R a b) {B : Nat} {E : TypeId} {size n : Nat} {v : Value} {xs : List Value} (ho : a.ownsRow B E size v n xs) (hB : R < B) : b.ownsRow B E size v n xs := by
  refine ⟨ho.1, ?_⟩
  rcases ho.2 with h2 | ⟨g, cap, cur, hv, hg, hh, r⟩
  · exact .inl h2
  · exact .inr ⟨g, cap, cur, hv, hg, h.block (by omega) hh, r⟩

/-- The reader at R: the bytes l, and how far it has come. -/
structure Rd (w : World) (R : Nat) (l : List Int) (ba : Option Addr) (bc : Nat) (j : Nat) : Prop where
  here : w.heap[R]? = some (.cells #[.slice ba l.length bc, .int .i64 j] 90 (0, 0))
  bytes : l = [] ∨ ∃ b off, ba = some ⟨b, off, none⟩ ∧ b ≠ R ∧ ∀ i, i < l.length → w.cell? ⟨b, off + i, none⟩ = some (.int .u8 (nth l i))
  le : j ≤ l.length

theorem Rd.keep {w w' : World} {R : Nat} {l : List Int} {ba : Option Addr} {bc j : Nat} (h : Rd w R l ba bc j) (hk : Keep R w w') (hh : w'.heap[R]? = w.heap[R]?) : Rd w' R l ba bc j := by
  refine ⟨hh.trans h.here, ?_, h.le⟩
  rcases h.bytes with h1 | ⟨b, off, h1, h2, h3⟩
  · exact .inl h1
  · exact .inr ⟨b, off, h1, h2, fun i hi => hk.cell h2 (h3 i hi)⟩
theorem Rd.ext {w w' : World} {R : Nat} {l : List Int} {ba : Option Addr} {bc j : Nat} (h : Rd w R l ba bc j) (he : Ext w w') : Rd w' R l ba bc j := h.keep (Keep.of_ext he) (he.block R (block_lt h.here))
theorem Rd.alloc {w : World} {R : Nat} {l : List Int} {ba : Option Addr} {bc j : Nat} (h : Rd w R l ba bc j) (o : Obj) : Rd (w.alloc o) R l ba bc j := h.ext ((Ext.refl w).alloc o)
theorem Rd.drewN {w : World} {R : Nat} {l : List Int} {ba : Option Addr} {bc j : Nat} (h : Rd w R l ba bc j) (n : Nat) : Rd (w.drewN n) R l ba bc j := h.ext ((Ext.refl w).drewN n)
theorem Rd.set {w : World} {R : Nat} {l : List Int} {ba : Option Addr} {bc j : Nat} (h : Rd w R l ba bc j) (k : Nat) (hk : k ≤ l.length) : Rd (w.setCell ⟨R, 1, none⟩ (.int .i64 k)) R l ba bc k := by
  refine ⟨?_, ?_, hk⟩
  · rw [heap_setCell_same w R 1 _ _ _ h.here]; rfl
  · rcases h.bytes with h1 | ⟨b, off, h1, h2, h3⟩
    · exact .inl h1
    · exact .inr ⟨b, off, h1, h2, fun i hi => (keep_set R 1 w _).cell h2 (h3 i hi)⟩
theorem Rd.lt {w : World} {R : Nat} {l : List Int} {ba : Option Addr} {bc j : Nat} (h : Rd w R l ba bc j) : R < w.heap.size := block_lt h.here
theorem Rd.c0 {w : World} {R : Nat} {l : List Int} {ba : Option Addr} {bc j : Nat} (h : Rd w R l ba bc j) : w.cell? ⟨R, 0, none⟩ = some (.slice ba l.length bc) := block_cell h.here 0 rfl
theorem Rd.c1 {w : World} {R : Nat} {l : List Int} {ba : Option Addr} {bc j : Nat} (h : Rd w R l ba bc j) : w.cell? ⟨R, 1, none⟩ = some (.int .i64 j) := block_cell h.here 1 rfl
theorem Rd.fz {w : World} {R : Nat} {l : List Int} {ba : Option Addr} {bc j : Nat} (h : Rd w R l ba bc j) (i : Nat) : w.frozen? ⟨R, i, none⟩ = false := by simp [World.frozen?, h.here]
theorem Rd.at {w : World} {R : Nat} {l : List Int} {ba : Option Addr} {bc j : Nat} (h : Rd w R l ba bc j) (hj : j < l.length) : ∃ b off, ba = some ⟨b, off, none⟩ ∧ b ≠ R ∧ w.cell? ⟨b, off + j, none⟩ = some (.int .u8 (nth l j)) := by
  rcases h.bytes with h1 | ⟨b, off, h1, h2, h3⟩
  · subst h1; simp at hj
  · exact ⟨b, off, h1, h2, h3 j hj⟩

/-- It gives up: at a place among the bytes, for a reason. -/
def Bad (l : List Int) (e : Ending) : Prop :=
  ∃ p r : Int, e = .panicked [{ v := .iface 86 (.agg #[.int .i64 p, .int .i64 r]), recovered := false }] ∧ 0 ≤ p ∧ p ≤ l.length ∧ r ≠ 0 ∧ (l = [1, 1] → p = 2 ∧ r = 4)

theorem Bad.mk (l : List Int) (p r : Int) (h0 : 0 ≤ p) (h1 : p ≤ l.length) (h2 : r ≠ 0) (h3 : l = [1, 1] → p = 2 ∧ r = 4) : Bad l (.panicked [{ v := .iface 86 (.agg #[.int .i64 p, .int .i64 r]), recovered := false }]) := ⟨p, r, rfl, h0, h1, h2, h3⟩

/-- What a reading call answers, p being what it should read. -/
def ReadPost {α : Type} (w : World) (R : Nat) (l : List Int) (ba : Option Addr) (bc : Nat) (p : Option (α × List Int)) (ret : α → Ending → World → Prop) (e : Ending) (w' : World) : Prop :=
  Keep R w w' ∧ ((p = none ∧ Bad l e) ∨ ∃ v j, p = some (v, l.drop j) ∧ ret v e w' ∧ Rd w' R l ba bc j)

def pByte : List Int → Option (Int × List Int)
  | [] => none
  | x :: r => some (x, r)
def retInt (k : IntKind) (x : Int) (e : Ending) (_ : World) : Prop := e = .returned (.int k x)

theorem pByte_none {l : List Int} {j : Nat} (h : ¬ j < l.length) : pByte (l.drop j) = none := by rw [List.drop_eq_nil_iff.2 (by omega)]; rfl
theorem pByte_some {l : List Int} {j : Nat} (h : j < l.length) : pByte (l.drop j) = some (nth l j, l.drop (j + 1)) := by rw [drop_cons l j h]; rfl

theorem eleven {l : List Int} {j : Nat} (h : l = [1, 1]) (hj : j < l.length) : nth l j = 1 := by
  subst h
  rcases (show j = 0 ∨ j = 1 by simp at hj; omega) with rfl | rfl <;> rfl

set_option maxRecDepth 100000 in
set_option maxHeartbeats 1000000 in
theorem byte_any (w : World) (R : Nat) (l : List Int) (ba : Option Addr) (bc j : Nat) (h : Rd w R l ba bc j) (hb : ∀ b ∈ l, byteOk b) (hl : l.length ≤ 9223372036854775807) :
    Calls Tryd.prog 48 #[.pointer (some ⟨R, 0, none⟩)] w (ReadPost w R l ba bc (pByte (l.drop j)) (retInt .i64)) := by
  have h0 := h.c0
  have h1 := h.c1
  have h2 := h.fz 1
  have hlt := h.lt
  have hle := h.le
  by_cases hj : j < l.length
  · have HN := Lib.hid (pByte_some hj)
    obtain ⟨b, off, rfl, hne, hc⟩ := h.at hj
    obtain ⟨x0, x1⟩ := hb _ (nth_mem l j hj)
    generalize nth l j = x at *
    have HR := Lib.hid h; clear h hb
    go_enter Tryd.func48, Tryd.ntmps48
    go_wp2
    go_quiet (refine Calls.quiet_of_same (insist_ok _ _ _))
    go_wp2
    have hr1 : Rd ((w.drewN nq).setCell ⟨R, 1, none⟩ (.int .i64 ((j : Int) + 1))) R l (some ⟨b, off, none⟩) bc (j + 1) := (HR.out.drewN nq).set (j + 1) (by omega)
    have hk1 : Keep R w ((w.drewN nq).setCell ⟨R, 1, none⟩ (.int .i64 ((j : Int) + 1))) := ((Keep.refl R w).drewN nq).trans (keep_set _ _ _ _)
    generalize (w.drewN nq).setCell ⟨R, 1, none⟩ (.int .i64 ((j : Int) + 1)) = w1 at hr1 hk1 ⊢
    have hc1 := hk1.cell hne hc
    clear h0 h1 h2 hc HR hlt
    have g0 := hr1.c0
    have g1 := hr1.c1
    have hlt := hr1.lt
    have HK1 := Lib.hid hk1; clear hk1
    have HR1 := Lib.hid hr1; clear hr1
    go_quiet (fail)
    go_wp2
    go_ret
    exact ⟨HK1.out.drewN _, .inr ⟨x, j + 1, HN.out, rfl, HR1.out.drewN _⟩⟩
  · have HN := Lib.hid (pByte_none hj)
    go_enter Tryd.func48, Tryd.ntmps48
    go_wp2
    go_still_tail 15, (by kernel_rfl)
    change wpList _ _ _ _ _ (w.drewN 1)
    have HK := Lib.hid ((Keep.refl R w).drewN 1)
    have hbad := Bad.mk l (l.length : Int) 4 (by omega) (by omega) (by decide) (fun h => by subst h; exact ⟨rfl, rfl⟩)
    generalize w.drewN 1 = w1 at *
    go_wp2_with fail
    refine (insist_no _ _ _).mono ?_
    rintro e w' ⟨rfl, rfl⟩
    exact ⟨rfl, HK.out, .inl ⟨HN.out, hbad⟩⟩

end Go.Proofs.YtcfbcffmlinlaaaDoor
