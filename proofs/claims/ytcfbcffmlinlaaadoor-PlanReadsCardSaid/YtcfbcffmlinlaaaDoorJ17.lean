/-
  The reference's line: what is wrong with it.
-/
import Derived.Test.YtcfbcffmlinlaaaDoorJ15
import Derived.Test.YtcfbcffmlinlaaaDoorJ11
set_option linter.unusedVariables false
namespace Go.Proofs.YtcfbcffmlinlaaaDoor
open Go.RowKit

set_option maxRecDepth 100000 in
set_option maxHeartbeats 4000000 in
theorem rwrong_T4 (w : World) (B R : Nat) (r : Pl.St) (a : Option Addr) (c : Nat) (l : List Int) (h : IsRPl w B R r) (hok : Rok r) (hi : IsInts .u64 w a l) (hg : ∀ x ∈ l, 0 ≤ x ∧ x ≤ 18446744073709551615) (hp : r.part ≠ 0) :
    Calls Tryd.prog 29 #[.pointer (some ⟨R, 0, none⟩), .agg #[.string (St [116, 104, 114, 101, 97, 100, 115]), .slice a l.length c, .bool true]] w (fun e w' => e = .returned (.int .i64 5) ∧ Ext w w') := by
  have HG := Lib.hid hg
  clear hg
  obtain ⟨sa, ca, pa, h⟩ := h
  obtain ⟨xa, xc, rfl, -⟩ := own_slice h.specs
  obtain ⟨ya, yc, rfl, -⟩ := own_slice h.calls
  obtain ⟨za, zc, rfl, -⟩ := own_slice h.picks
  have HE0 := (Ext.refl w).alloc (.cells #[.string (St [116, 104, 114, 101, 97, 100, 115]), .slice a l.length c, .bool true] 78)
  have H := Lib.hid (h.ext HE0)
  have HI := Lib.hid (hi.ext HE0)
  have hb := Blk.new w #[.string (St [116, 104, 114, 101, 97, 100, 115]), .slice a l.length c, .bool true] 78
  have HE := Lib.hid HE0
  clear HE0 h hi
  go_enter Tryd.func29, Tryd.ntmps29
  go_upto_region 1 with (fail)
  generalize w.alloc (.cells #[.string (St [116, 104, 114, 101, 97, 100, 115]), .slice a l.length c, .bool true] 78) = W0 at *
  have q0 := hb.cell 0 (v := .string (St [116, 104, 114, 101, 97, 100, 115])) rfl
  have q1 := hb.cell 1 (v := .slice a l.length c) rfl
  have q2 := hb.cell 2 (v := .bool true) rfl
  clear hb
  have h0 := H.out.here.cell 0 (v := .int .i64 r.s.n) rfl
  have h1 := H.out.here.cell 1 (v := .slice xa r.s.specs.length xc) rfl
  have h2 := H.out.here.cell 2 (v := .slice ya r.s.calls.length yc) rfl
  have h3 := H.out.here.cell 3 (v := .slice za r.s.picks.length zc) rfl
  have h4 := H.out.here.cell 4 (v := .int .i64 r.part) rfl
  have h5 := H.out.here.cell 5 (v := .bool (fullOf r)) rfl
  have p0 : (r.part == 0) = false := beq_eq_false_iff_ne.2 (by omega); have p0n : (r.part != 0) = true := by rw [bne, p0]; rfl
  clear hp
  go_wp2_with fail
  refine bodyPost_ret (v := .int .i64 5) (by simp [results, Tryd.results29, go_sem]) rfl ?_
  exact ⟨rfl, HE.out⟩

set_option maxRecDepth 100000 in
set_option maxHeartbeats 4000000 in
theorem rwrong_T5 (w : World) (B R : Nat) (r : Pl.St) (a : Option Addr) (c : Nat) (l : List Int) (h : IsRPl w B R r) (hok : Rok r) (hi : IsInts .u64 w a l) (hg : ∀ x ∈ l, 0 ≤ x ∧ x ≤ 18446744073709551615) (hp : r.part = 0) (hl : l.length ≠ 1) :
    Calls Tryd.prog 29 #[.pointer (some ⟨R, 0, none⟩), .agg #[.string (St [116, 104, 114, 101, 97, 100, 115]), .slice a l.length c, .bool true]] w (fun e w' => e = .returned (.int .i64 5) ∧ Ext w w') := by
  have HG := Lib.hid hg
  clear hg
  obtain ⟨sa, ca, pa, h⟩ := h
  obtain ⟨xa, xc, rfl, -⟩ := own_slice h.specs
  obtain ⟨ya, yc, rfl, -⟩ := own_slice h.calls
  obtain ⟨za, zc, rfl, -⟩ := own_slice h.picks
  have HE0 := (Ext.refl w).alloc (.cells #[.string (St [116, 104, 114, 101, 97, 100, 115]), .slice a l.length c, .bool true] 78)
  have H := Lib.hid (h.ext HE0)
  have HI := Lib.hid (hi.ext HE0)
  have hb := Blk.new w #[.string (St [116, 104, 114, 101, 97, 100, 115]), .slice a l.length c, .bool true] 78
  have HE := Lib.hid HE0
  clear HE0 h hi
  go_enter Tryd.func29, Tryd.ntmps29
  go_upto_region 1 with (fail)
  generalize w.alloc (.cells #[.string (St [116, 104, 114, 101, 97, 100, 115]), .slice a l.length c, .bool true] 78) = W0 at *
  have q0 := hb.cell 0 (v := .string (St [116, 104, 114, 101, 97, 100, 115])) rfl
  have q1 := hb.cell 1 (v := .slice a l.length c) rfl
  have q2 := hb.cell 2 (v := .bool true) rfl
  clear hb
  have h0 := H.out.here.cell 0 (v := .int .i64 r.s.n) rfl
  have h1 := H.out.here.cell 1 (v := .slice xa r.s.specs.length xc) rfl
  have h2 := H.out.here.cell 2 (v := .slice ya r.s.calls.length yc) rfl
  have h3 := H.out.here.cell 3 (v := .slice za r.s.picks.length zc) rfl
  have h4 := H.out.here.cell 4 (v := .int .i64 r.part) rfl
  have h5 := H.out.here.cell 5 (v := .bool (fullOf r)) rfl
  have p0 : (r.part == 0) = true := beq_iff_eq.2 (by omega); have p0n : (r.part != 0) = false := by rw [bne, p0]; rfl
  have l1 : ((l.length : Int) == 1) = false := beq_eq_false_iff_ne.2 (by omega); have l1n : ((l.length : Int) != 1) = true := by rw [bne, l1]; rfl
  clear hp hl
  go_wp2_with fail
  refine bodyPost_ret (v := .int .i64 5) (by simp [results, Tryd.results29, go_sem]) rfl ?_
  exact ⟨rfl, HE.out⟩

set_option maxRecDepth 100000 in
set_option maxHeartbeats 4000000 in
theorem rwrong_T2 (w : World) (B R : Nat) (r : Pl.St) (a : Option Addr) (c : Nat) (l : List Int) (h : IsRPl w B R r) (hok : Rok r) (hi : IsInts .u64 w a l) (hg : ∀ x ∈ l, 0 ≤ x ∧ x ≤ 18446744073709551615) (hp : r.part = 0) (hl : l.length = 1) (hy : nth l 0 < 1) :
    Calls Tryd.prog 29 #[.pointer (some ⟨R, 0, none⟩), .agg #[.string (St [116, 104, 114, 101, 97, 100, 115]), .slice a l.length c, .bool true]] w (fun e w' => e = .returned (.int .i64 1) ∧ Ext w w') := by
  have HG := Lib.hid hg
  clear hg
  obtain ⟨sa, ca, pa, h⟩ := h
  obtain ⟨xa, xc, rfl, -⟩ := own_slice h.specs
  obtain ⟨ya, yc, rfl, -⟩ := own_slice h.calls
  obtain ⟨za, zc, rfl, -⟩ := own_slice h.picks
  have HE0 := (Ext.refl w).alloc (.cells #[.string (St [116, 104, 114, 101, 97, 100, 115]), .slice a l.length c, .bool true] 78)
  have H := Lib.hid (h.ext HE0)
  have HI := Lib.hid (hi.ext HE0)
  have hb := Blk.new w #[.string (St [116, 104, 114, 101, 97, 100, 115]), .slice a l.length c, .bool true] 78
  have HE := Lib.hid HE0
  clear HE0 h hi
  have HL0 := Lib.hid hl
  clear hl
  go_enter Tryd.func29, Tryd.ntmps29
  go_upto_region 1 with (fail)
  generalize w.alloc (.cells #[.string (St [116, 104, 114, 101, 97, 100, 115]), .slice a l.length c, .bool true] 78) = W0 at *
  have q0 := hb.cell 0 (v := .string (St [116, 104, 114, 101, 97, 100, 115])) rfl
  have q1 := hb.cell 1 (v := .slice a l.length c) rfl
  have q2 := hb.cell 2 (v := .bool true) rfl
  clear hb
  have h0 := H.out.here.cell 0 (v := .int .i64 r.s.n) rfl
  have h1 := H.out.here.cell 1 (v := .slice xa r.s.specs.length xc) rfl
  have h2 := H.out.here.cell 2 (v := .slice ya r.s.calls.length yc) rfl
  have h3 := H.out.here.cell 3 (v := .slice za r.s.picks.length zc) rfl
  have h4 := H.out.here.cell 4 (v := .int .i64 r.part) rfl
  have h5 := H.out.here.cell 5 (v := .bool (fullOf r)) rfl
  have hl := HL0.out
  obtain ⟨b, off, rfl, k0⟩ := HI.out.at (i := 0) (by omega)
  rw [Nat.add_zero] at k0
  have g0 := (HG.out _ (nth_mem l 0 (by omega))).1
  have p0 : (r.part == 0) = true := beq_iff_eq.2 (by omega); have p0n : (r.part != 0) = false := by rw [bne, p0]; rfl
  have l1 : ((l.length : Int) == 1) = true := beq_iff_eq.2 (by omega); have l1n : ((l.length : Int) != 1) = false := by rw [bne, l1]; rfl
  have y1 : decide (nth l 0 < 1) = true := decide_eq_true (by omega)
  have y2 : decide (16 < nth l 0) = false := decide_eq_false (by omega)
  generalize nth l 0 = y0 at *
  have hl0 : 0 < l.length := by omega
  clear hp
  clear hl
  go_wp2_with fail
  refine bodyPost_ret (v := .int .i64 1) (by simp [results, Tryd.results29, go_sem]) rfl ?_
  exact ⟨rfl, HE.out⟩

set_option maxRecDepth 100000 in
set_option maxHeartbeats 4000000 in
theorem rwrong_T3 (w : World) (B R : Nat) (r : Pl.St) (a : Option Addr) (c : Nat) (l : List Int) (h : IsRPl w B R r) (hok : Rok r) (hi : IsInts .u64 w a l) (hg : ∀ x ∈ l, 0 ≤ x ∧ x ≤ 18446744073709551615) (hp : r.part = 0) (hl : l.length = 1) (hy : ¬ nth l 0 < 1) (hz : 16 < nth l 0) :
    Calls Tryd.prog 29 #[.pointer (some ⟨R, 0, none⟩), .agg #[.string (St [116, 104, 114, 101, 97, 100, 115]), .slice a l.length c, .bool true]] w (fun e w' => e = .returned (.int .i64 1) ∧ Ext w w') := by
  have HG := Lib.hid hg
  clear hg
  obtain ⟨sa, ca, pa, h⟩ := h
  obtain ⟨xa, xc, rfl, -⟩ := own_slice h.specs
  obtain ⟨ya, yc, rfl, -⟩ := own_slice h.calls
  obtain ⟨za, zc, rfl, -⟩ := own_slice h.picks
  have HE0 := (Ext.refl w).alloc (.cells #[.string (St [116, 104, 114, 101, 97, 100, 115]), .slice a l.length c, .bool true] 78)
  have H := Lib.hid (h.ext HE0)
  have HI := Lib.hid (hi.ext HE0)
  have hb := Blk.new w #[.string (St [116, 104, 114, 101, 97, 100, 115]), .slice a l.length c, .bool true] 78
  have HE := Lib.hid HE0
  clear HE0 h hi
  have HL0 := Lib.hid hl
  clear hl
  go_enter Tryd.func29, Tryd.ntmps29
  go_upto_region 1 with (fail)
  generalize w.alloc (.cells #[.string (St [116, 104, 114, 101, 97, 100, 115]), .slice a l.length c, .bool true] 78) = W0 at *
  have q0 := hb.cell 0 (v := .string (St [116, 104, 114, 101, 97, 100, 115])) rfl
  have q1 := hb.cell 1 (v := .slice a l.length c) rfl
  have q2 := hb.cell 2 (v := .bool true) rfl
  clear hb
  have h0 := H.out.here.cell 0 (v := .int .i64 r.s.n) rfl
  have h1 := H.out.here.cell 1 (v := .slice xa r.s.specs.length xc) rfl
  have h2 := H.out.here.cell 2 (v := .slice ya r.s.calls.length yc) rfl
  have h3 := H.out.here.cell 3 (v := .slice za r.s.picks.length zc) rfl
  have h4 := H.out.here.cell 4 (v := .int .i64 r.part) rfl
  have h5 := H.out.here.cell 5 (v := .bool (fullOf r)) rfl
  have hl := HL0.out
  obtain ⟨b, off, rfl, k0⟩ := HI.out.at (i := 0) (by omega)
  rw [Nat.add_zero] at k0
  have g0 := (HG.out _ (nth_mem l 0 (by omega))).1
  have p0 : (r.part == 0) = true := beq_iff_eq.2 (by omega); have p0n : (r.part != 0) = false := by rw [bne, p0]; rfl
  have l1 : ((l.length : Int) == 1) = true := beq_iff_eq.2 (by omega); have l1n : ((l.length : Int) != 1) = false := by rw [bne, l1]; rfl
  have y1 : decide (nth l 0 < 1) = false := decide_eq_false (by omega)
  have y2 : decide (16 < nth l 0) = true := decide_eq_true (by omega)
  generalize nth l 0 = y0 at *
  have hl0 : 0 < l.length := by omega
  clear hp
  clear hl
  go_wp2_with fail
  refine bodyPost_ret (v := .int .i64 1) (by simp [results, Tryd.results29, go_sem]) rfl ?_
  exact ⟨rfl, HE.out⟩

set_option maxRecDepth 100000 in
set_option maxHeartbeats 4000000 in
theorem rwrong_T1 (w : World) (B R : Nat) (r : Pl.St) (a : Option Addr) (c : Nat) (l : List Int) (h : IsRPl w B R r) (hok : Rok r) (hi : IsInts .u64 w a l) (hg : ∀ x ∈ l, 0 ≤ x ∧ x ≤ 18446744073709551615) (hp : r.part = 0) (hl : l.length = 1) (hy : ¬ nth l 0 < 1) (hz : ¬ 16 < nth l 0) :
    Calls Tryd.prog 29 #[.pointer (some ⟨R, 0, none⟩), .agg #[.string (St [116, 104, 114, 101, 97, 100, 115]), .slice a l.length c, .bool true]] w (fun e w' => e = .returned (.int .i64 0) ∧ Ext w w') := by
  have HG := Lib.hid hg
  clear hg
  obtain ⟨sa, ca, pa, h⟩ := h
  obtain ⟨xa, xc, rfl, -⟩ := own_slice h.specs
  obtain ⟨ya, yc, rfl, -⟩ := own_slice h.calls
  obtain ⟨za, zc, rfl, -⟩ := own_slice h.picks
  have HE0 := (Ext.refl w).alloc (.cells #[.string (St [116, 104, 114, 101, 97, 100, 115]), .slice a l.length c, .bool true] 78)
  have H := Lib.hid (h.ext HE0)
  have HI := Lib.hid (hi.ext HE0)
  have hb := Blk.new w #[.string (St [116, 104, 114, 101, 97, 100, 115]), .slice a l.length c, .bool true] 78
  have HE := Lib.hid HE0
  clear HE0 h hi
  have HL0 := Lib.hid hl
  clear hl
  go_enter Tryd.func29, Tryd.ntmps29
  go_upto_region 1 with (fail)
  generalize w.alloc (.cells #[.string (St [116, 104, 114, 101, 97, 100, 115]), .slice a l.length c, .bool true] 78) = W0 at *
  have q0 := hb.cell 0 (v := .string (St [116, 104, 114, 101, 97, 100, 115])) rfl
  have q1 := hb.cell 1 (v := .slice a l.length c) rfl
  have q2 := hb.cell 2 (v := .bool true) rfl
  clear hb
  have h0 := H.out.here.cell 0 (v := .int .i64 r.s.n) rfl
  have h1 := H.out.here.cell 1 (v := .slice xa r.s.specs.length xc) rfl
  have h2 := H.out.here.cell 2 (v := .slice ya r.s.calls.length yc) rfl
  have h3 := H.out.here.cell 3 (v := .slice za r.s.picks.length zc) rfl
  have h4 := H.out.here.cell 4 (v := .int .i64 r.part) rfl
  have h5 := H.out.here.cell 5 (v := .bool (fullOf r)) rfl
  have hl := HL0.out
  obtain ⟨b, off, rfl, k0⟩ := HI.out.at (i := 0) (by omega)
  rw [Nat.add_zero] at k0
  have g0 := (HG.out _ (nth_mem l 0 (by omega))).1
  have p0 : (r.part == 0) = true := beq_iff_eq.2 (by omega); have p0n : (r.part != 0) = false := by rw [bne, p0]; rfl
  have l1 : ((l.length : Int) == 1) = true := beq_iff_eq.2 (by omega); have l1n : ((l.length : Int) != 1) = false := by rw [bne, l1]; rfl
  have y1 : decide (nth l 0 < 1) = false := decide_eq_false (by omega)
  have y2 : decide (16 < nth l 0) = false := decide_eq_false (by omega)
  generalize nth l 0 = y0 at *
  have hl0 : 0 < l.length := by omega
  clear hp
  clear hl
  go_wp2_with fail
  refine bodyPost_ret (v := .int .i64 0) (by simp [results, Tryd.results29, go_sem]) rfl ?_
  exact ⟨rfl, HE.out⟩

set_option maxRecDepth 100000 in
set_option maxHeartbeats 4000000 in
theorem rwrong_O2 (w : World) (B R : Nat) (r : Pl.St) (a : Option Addr) (c : Nat) (l : List Int) (h : IsRPl w B R r) (hok : Rok r) (hi : IsInts .u64 w a l) (hg : ∀ x ∈ l, 0 ≤ x ∧ x ≤ 18446744073709551615) (hp : r.part ≠ 1) :
    Calls Tryd.prog 29 #[.pointer (some ⟨R, 0, none⟩), .agg #[.string (St [111, 98, 106, 101, 99, 116]), .slice a l.length c, .bool true]] w (fun e w' => e = .returned (.int .i64 5) ∧ Ext w w') := by
  have HG := Lib.hid hg
  clear hg
  obtain ⟨sa, ca, pa, h⟩ := h
  obtain ⟨xa, xc, rfl, -⟩ := own_slice h.specs
  obtain ⟨ya, yc, rfl, -⟩ := own_slice h.calls
  obtain ⟨za, zc, rfl, -⟩ := own_slice h.picks
  have HE0 := (Ext.refl w).alloc (.cells #[.string (St [111, 98, 106, 101, 99, 116]), .slice a l.length c, .bool true] 78)
  have H := Lib.hid (h.ext HE0)
  have HI := Lib.hid (hi.ext HE0)
  have hb := Blk.new w #[.string (St [111, 98, 106, 101, 99, 116]), .slice a l.length c, .bool true] 78
  have HE := Lib.hid HE0
  clear HE0 h hi
  go_enter Tryd.func29, Tryd.ntmps29
  go_upto_region 1 with (fail)
  generalize w.alloc (.cells #[.string (St [111, 98, 106, 101, 99, 116]), .slice a l.length c, .bool true] 78) = W0 at *
  have q0 := hb.cell 0 (v := .string (St [111, 98, 106, 101, 99, 116])) rfl
  have q1 := hb.cell 1 (v := .slice a l.length c) rfl
  have q2 := hb.cell 2 (v := .bool true) rfl
  clear hb
  have h0 := H.out.here.cell 0 (v := .int .i64 r.s.n) rfl
  have h1 := H.out.here.cell 1 (v := .slice xa r.s.specs.length xc) rfl
  have h2 := H.out.here.cell 2 (v := .slice ya r.s.calls.length yc) rfl
  have h3 := H.out.here.cell 3 (v := .slice za r.s.picks.length zc) rfl
  have h4 := H.out.here.cell 4 (v := .int .i64 r.part) rfl
  have h5 := H.out.here.cell 5 (v := .bool (fullOf r)) rfl
  have p1 : (r.part == 1) = false := beq_eq_false_iff_ne.2 (by omega); have p1n : (r.part != 1) = true := by rw [bne, p1]; rfl
  clear hp
  go_wp2_with fail
  refine bodyPost_ret (v := .int .i64 5) (by simp [results, Tryd.results29, go_sem]) rfl ?_
  exact ⟨rfl, HE.out⟩

set_option maxRecDepth 100000 in
set_option maxHeartbeats 4000000 in
theorem rwrong_O3 (w : World) (B R : Nat) (r : Pl.St) (a : Option Addr) (c : Nat) (l : List Int) (h : IsRPl w B R r) (hok : Rok r) (hi : IsInts .u64 w a l) (hg : ∀ x ∈ l, 0 ≤ x ∧ x ≤ 18446744073709551615) (hp : r.part = 1) (hl : l.length ≠ 3) :
    Calls Tryd.prog 29 #[.pointer (some ⟨R, 0, none⟩), .agg #[.string (St [111, 98, 106, 101, 99, 116]), .slice a l.length c, .bool true]] w (fun e w' => e = .returned (.int .i64 5) ∧ Ext w w') := by
  have HG := Lib.hid hg
  clear hg
  obtain ⟨sa, ca, pa, h⟩ := h
  obtain ⟨xa, xc, rfl, -⟩ := own_slice h.specs
  obtain ⟨ya, yc, rfl, -⟩ := own_slice h.calls
  obtain ⟨za, zc, rfl, -⟩ := own_slice h.picks
  have HE0 := (Ext.refl w).alloc (.cells #[.string (St [111, 98, 106, 101, 99, 116]), .slice a l.length c, .bool true] 78)
  have H := Lib.hid (h.ext HE0)
  have HI := Lib.hid (hi.ext HE0)
  have hb := Blk.new w #[.string (St [111, 98, 106, 101, 99, 116]), .slice a l.length c, .bool true] 78
  have HE := Lib.hid HE0
  clear HE0 h hi
  go_enter Tryd.func29, Tryd.ntmps29
  go_upto_region 1 with (fail)
  generalize w.alloc (.cells #[.string (St [111, 98, 106, 101, 99, 116]), .slice a l.length c, .bool true] 78) = W0 at *
  have q0 := hb.cell 0 (v := .string (St [111, 98, 106, 101, 99, 116])) rfl
  have q1 := hb.cell 1 (v := .slice a l.length c) rfl
  have q2 := hb.cell 2 (v := .bool true) rfl
  clear hb
  have h0 := H.out.here.cell 0 (v := .int .i64 r.s.n) rfl
  have h1 := H.out.here.cell 1 (v := .slice xa r.s.specs.length xc) rfl
  have h2 := H.out.here.cell 2 (v := .slice ya r.s.calls.length yc) rfl
  have h3 := H.out.here.cell 3 (v := .slice za r.s.picks.length zc) rfl
  have h4 := H.out.here.cell 4 (v := .int .i64 r.part) rfl
  have h5 := H.out.here.cell 5 (v := .bool (fullOf r)) rfl
  have p1 : (r.part == 1) = true := beq_iff_eq.2 (by omega); have p1n : (r.part != 1) = false := by rw [bne, p1]; rfl
  have l3 : ((l.length : Int) == 3) = false := beq_eq_false_iff_ne.2 (by omega); have l3n : ((l.length : Int) != 3) = true := by rw [bne, l3]; rfl
  clear hp hl
  go_wp2_with fail
  refine bodyPost_ret (v := .int .i64 5) (by simp [results, Tryd.results29, go_sem]) rfl ?_
  exact ⟨rfl, HE.out⟩

set_option maxRecDepth 100000 in
set_option maxHeartbeats 4000000 in
theorem rwrong_O4 (w : World) (B R : Nat) (r : Pl.St) (a : Option Addr) (c : Nat) (l : List Int) (h : IsRPl w B R r) (hok : Rok r) (hi : IsInts .u64 w a l) (hg : ∀ x ∈ l, 0 ≤ x ∧ x ≤ 18446744073709551615) (hp : r.part = 1) (hl : l.length = 3) (hy0 : 255 < nth l 0) :
    Calls Tryd.prog 29 #[.pointer (some ⟨R, 0, none⟩), .agg #[.string (St [111, 98, 106, 101, 99, 116]), .slice a l.length c, .bool true]] w (fun e w' => e = .returned (.int .i64 10) ∧ Ext w w') := by
  have HG := Lib.hid hg
  clear hg
  obtain ⟨sa, ca, pa, h⟩ := h
  obtain ⟨xa, xc, rfl, -⟩ := own_slice h.specs
  obtain ⟨ya, yc, rfl, -⟩ := own_slice h.calls
  obtain ⟨za, zc, rfl, -⟩ := own_slice h.picks
  have HE0 := (Ext.refl w).alloc (.cells #[.string (St [111, 98, 106, 101, 99, 116]), .slice a l.length c, .bool true] 78)
  have H := Lib.hid (h.ext HE0)
  have HI := Lib.hid (hi.ext HE0)
  have hb := Blk.new w #[.string (St [111, 98, 106, 101, 99, 116]), .slice a l.length c, .bool true] 78
  have HE := Lib.hid HE0
  clear HE0 h hi
  have HL0 := Lib.hid hl
  clear hl
  go_enter Tryd.func29, Tryd.ntmps29
  go_upto_region 1 with (fail)
  generalize w.alloc (.cells #[.string (St [111, 98, 106, 101, 99, 116]), .slice a l.length c, .bool true] 78) = W0 at *
  have q0 := hb.cell 0 (v := .string (St [111, 98, 106, 101, 99, 116])) rfl
  have q1 := hb.cell 1 (v := .slice a l.length c) rfl
  have q2 := hb.cell 2 (v := .bool true) rfl
  clear hb
  have h0 := H.out.here.cell 0 (v := .int .i64 r.s.n) rfl
  have h1 := H.out.here.cell 1 (v := .slice xa r.s.specs.length xc) rfl
  have h2 := H.out.here.cell 2 (v := .slice ya r.s.calls.length yc) rfl
  have h3 := H.out.here.cell 3 (v := .slice za r.s.picks.length zc) rfl
  have h4 := H.out.here.cell 4 (v := .int .i64 r.part) rfl
  have h5 := H.out.here.cell 5 (v := .bool (fullOf r)) rfl
  have hl := HL0.out
  obtain ⟨b, off, rfl, k0⟩ := HI.out.at (i := 0) (by omega)
  rw [Nat.add_zero] at k0
  obtain ⟨b1, off1, e1, k1⟩ := HI.out.at (i := 1) (by omega)
  simp only [Option.some.injEq, Addr.mk.injEq, and_true] at e1
  obtain ⟨rfl, rfl⟩ := e1
  obtain ⟨b2, off2, e2, k2⟩ := HI.out.at (i := 2) (by omega)
  simp only [Option.some.injEq, Addr.mk.injEq, and_true] at e2
  obtain ⟨rfl, rfl⟩ := e2
  have g0 := (HG.out _ (nth_mem l 0 (by omega))).1
  have g1 := (HG.out _ (nth_mem l 1 (by omega))).1
  have g2 := (HG.out _ (nth_mem l 2 (by omega))).1
  have p1 : (r.part == 1) = true := beq_iff_eq.2 (by omega); have p1n : (r.part != 1) = false := by rw [bne, p1]; rfl
  have l3 : ((l.length : Int) == 3) = true := beq_iff_eq.2 (by omega); have l3n : ((l.length : Int) != 3) = false := by rw [bne, l3]; rfl
  have y0d : decide (255 < nth l 0) = true := decide_eq_true (by omega)
  generalize nth l 0 = y0 at *
  generalize nth l 1 = y1 at *
  generalize nth l 2 = y2 at *
  have hl0 : 0 < l.length := by omega
  have hl1 : 1 < l.length := by omega
  have hl2 : 2 < l.length := by omega
  clear hp
  clear hl
  go_wp2_with fail
  refine bodyPost_ret (v := .int .i64 10) (by simp [results, Tryd.results29, go_sem]) rfl ?_
  exact ⟨rfl, HE.out⟩

set_option maxRecDepth 100000 in
set_option maxHeartbeats 4000000 in
theorem rwrong_O5 (w : World) (B R : Nat) (r : Pl.St) (a : Option Addr) (c : Nat) (l : List Int) (h : IsRPl w B R r) (hok : Rok r) (hi : IsInts .u64 w a l) (hg : ∀ x ∈ l, 0 ≤ x ∧ x ≤ 18446744073709551615) (hp : r.part = 1) (hl : l.length = 3) (hy0 : ¬ 255 < nth l 0) (hy1 : 65535 < nth l 1) :
    Calls Tryd.prog 29 #[.pointer (some ⟨R, 0, none⟩), .agg #[.string (St [111, 98, 106, 101, 99, 116]), .slice a l.length c, .bool true]] w (fun e w' => e = .returned (.int .i64 10) ∧ Ext w w') := by
  have HG := Lib.hid hg
  clear hg
  obtain ⟨sa, ca, pa, h⟩ := h
  obtain ⟨xa, xc, rfl, -⟩ := own_slice h.specs
  obtain ⟨ya, yc, rfl, -⟩ := own_slice h.calls
  obtain ⟨za, zc, rfl, -⟩ := own_slice h.picks
  have HE0 := (Ext.refl w).alloc (.cells #[.string (St [111, 98, 106, 101, 99, 116]), .slice a l.length c, .bool true] 78)
  have H := Lib.hid (h.ext HE0)
  have HI := Lib.hid (hi.ext HE0)
  have hb := Blk.new w #[.string (St [111, 98, 106, 101, 99, 116]), .slice a l.length c, .bool true] 78
  have HE := Lib.hid HE0
  clear HE0 h hi
  have HL0 := Lib.hid hl
  clear hl
  go_enter Tryd.func29, Tryd.ntmps29
  go_upto_region 1 with (fail)
  generalize w.alloc (.cells #[.string (St [111, 98, 106, 101, 99, 116]), .slice a l.length c, .bool true] 78) = W0 at *
  have q0 := hb.cell 0 (v := .string (St [111, 98, 106, 101, 99, 116])) rfl
  have q1 := hb.cell 1 (v := .slice a l.length c) rfl
  have q2 := hb.cell 2 (v := .bool true) rfl
  clear hb
  have h0 := H.out.here.cell 0 (v := .int .i64 r.s.n) rfl
  have h1 := H.out.here.cell 1 (v := .slice xa r.s.specs.length xc) rfl
  have h2 := H.out.here.cell 2 (v := .slice ya r.s.calls.length yc) rfl
  have h3 := H.out.here.cell 3 (v := .slice za r.s.picks.length zc) rfl
  have h4 := H.out.here.cell 4 (v := .int .i64 r.part) rfl
  have h5 := H.out.here.cell 5 (v := .bool (fullOf r)) rfl
  have hl := HL0.out
  obtain ⟨b, off, rfl, k0⟩ := HI.out.at (i := 0) (by omega)
  rw [Nat.add_zero] at k0
  obtain ⟨b1, off1, e1, k1⟩ := HI.out.at (i := 1) (by omega)
  simp only [Option.some.injEq, Addr.mk.injEq, and_true] at e1
  obtain ⟨rfl, rfl⟩ := e1
  obtain ⟨b2, off2, e2, k2⟩ := HI.out.at (i := 2) (by omega)
  simp only [Option.some.injEq, Addr.mk.injEq, and_true] at e2
  obtain ⟨rfl, rfl⟩ := e2
  have g0 := (HG.out _ (nth_mem l 0 (by omega))).1
  have g1 := (HG.out _ (nth_mem l 1 (by omega))).1
  have g2 := (HG.out _ (nth_mem l 2 (by omega))).1
  have p1 : (r.part == 1) = true := beq_iff_eq.2 (by omega); have p1n : (r.part != 1) = false := by rw [bne, p1]; rfl
  have l3 : ((l.length : Int) == 3) = true := beq_iff_eq.2 (by omega); have l3n : ((l.length : Int) != 3) = false := by rw [bne, l3]; rfl
  have y0d : decide (255 < nth l 0) = false := decide_eq_false (by omega)
  have y1d : decide (65535 < nth l 1) = true := decide_eq_true (by omega)
  generalize nth l 0 = y0 at *
  generalize nth l 1 = y1 at *
  generalize nth l 2 = y2 at *
  have hl0 : 0 < l.length := by omega
  have hl1 : 1 < l.length := by omega
  have hl2 : 2 < l.length := by omega
  clear hp
  clear hl
  go_wp2_with fail
  refine bodyPost_ret (v := .int .i64 10) (by simp [results, Tryd.results29, go_sem]) rfl ?_
  exact ⟨rfl, HE.out⟩

set_option maxRecDepth 100000 in
set_option maxHeartbeats 4000000 in
theorem rwrong_O6 (w : World) (B R : Nat) (r : Pl.St) (a : Option Addr) (c : Nat) (l : List Int) (h : IsRPl w B R r) (hok : Rok r) (hi : IsInts .u64 w a l) (hg : ∀ x ∈ l, 0 ≤ x ∧ x ≤ 18446744073709551615) (hp : r.part = 1) (hl : l.length = 3) (hy0 : ¬ 255 < nth l 0) (hy1 : ¬ 65535 < nth l 1) (hy2 : 65535 < nth l 2) :
    Calls Tryd.prog 29 #[.pointer (some ⟨R, 0, none⟩), .agg #[.string (St [111, 98, 106, 101, 99, 116]), .slice a l.length c, .bool true]] w (fun e w' => e = .returned (.int .i64 10) ∧ Ext w w') := by
  have HG := Lib.hid hg
  clear hg
  obtain ⟨sa, ca, pa, h⟩ := h
  obtain ⟨xa, xc, rfl, -⟩ := own_slice h.specs
  obtain ⟨ya, yc, rfl, -⟩ := own_slice h.calls
  obtain ⟨za, zc, rfl, -⟩ := own_slice h.picks
  have HE0 := (Ext.refl w).alloc (.cells #[.string (St [111, 98, 106, 101, 99, 116]), .slice a l.length c, .bool true] 78)
  have H := Lib.hid (h.ext HE0)
  have HI := Lib.hid (hi.ext HE0)
  have hb := Blk.new w #[.string (St [111, 98, 106, 101, 99, 116]), .slice a l.length c, .bool true] 78
  have HE := Lib.hid HE0
  clear HE0 h hi
  have HL0 := Lib.hid hl
  clear hl
  go_enter Tryd.func29, Tryd.ntmps29
  go_upto_region 1 with (fail)
  generalize w.alloc (.cells #[.string (St [111, 98, 106, 101, 99, 116]), .slice a l.length c, .bool true] 78) = W0 at *
  have q0 := hb.cell 0 (v := .string (St [111, 98, 106, 101, 99, 116])) rfl
  have q1 := hb.cell 1 (v := .slice a l.length c) rfl
  have q2 := hb.cell 2 (v := .bool true) rfl
  clear hb
  have h0 := H.out.here.cell 0 (v := .int .i64 r.s.n) rfl
  have h1 := H.out.here.cell 1 (v := .slice xa r.s.specs.length xc) rfl
  have h2 := H.out.here.cell 2 (v := .slice ya r.s.calls.length yc) rfl
  have h3 := H.out.here.cell 3 (v := .slice za r.s.picks.length zc) rfl
  have h4 := H.out.here.cell 4 (v := .int .i64 r.part) rfl
  have h5 := H.out.here.cell 5 (v := .bool (fullOf r)) rfl
  have hl := HL0.out
  obtain ⟨b, off, rfl, k0⟩ := HI.out.at (i := 0) (by omega)
  rw [Nat.add_zero] at k0
  obtain ⟨b1, off1, e1, k1⟩ := HI.out.at (i := 1) (by omega)
  simp only [Option.some.injEq, Addr.mk.injEq, and_true] at e1
  obtain ⟨rfl, rfl⟩ := e1
  obtain ⟨b2, off2, e2, k2⟩ := HI.out.at (i := 2) (by omega)
  simp only [Option.some.injEq, Addr.mk.injEq, and_true] at e2
  obtain ⟨rfl, rfl⟩ := e2
  have g0 := (HG.out _ (nth_mem l 0 (by omega))).1
  have g1 := (HG.out _ (nth_mem l 1 (by omega))).1
  have g2 := (HG.out _ (nth_mem l 2 (by omega))).1
  have p1 : (r.part == 1) = true := beq_iff_eq.2 (by omega); have p1n : (r.part != 1) = false := by rw [bne, p1]; rfl
  have l3 : ((l.length : Int) == 3) = true := beq_iff_eq.2 (by omega); have l3n : ((l.length : Int) != 3) = false := by rw [bne, l3]; rfl
  have y0d : decide (255 < nth l 0) = false := decide_eq_false (by omega)
  have y1d : decide (65535 < nth l 1) = false := decide_eq_false (by omega)
  have y2d : decide (65535 < nth l 2) = true := decide_eq_true (by omega)
  generalize nth l 0 = y0 at *
  generalize nth l 1 = y1 at *
  generalize nth l 2 = y2 at *
  have hl0 : 0 < l.length := by omega
  have hl1 : 1 < l.length := by omega
  have hl2 : 2 < l.length := by omega
  clear hp
  clear hl
  go_wp2_with fail
  refine bodyPost_ret (v := .int .i64 10) (by simp [results, Tryd.results29, go_sem]) rfl ?_
  exact ⟨rfl, HE.out⟩

set_option maxRecDepth 100000 in
set_option maxHeartbeats 4000000 in
theorem rwrong_O7 (w : World) (B R : Nat) (r : Pl.St) (a : Option Addr) (c : Nat) (l : List Int) (h : IsRPl w B R r) (hok : Rok r) (hi : IsInts .u64 w a l) (hg : ∀ x ∈ l, 0 ≤ x ∧ x ≤ 18446744073709551615) (hp : r.part = 1) (hl : l.length = 3) (hy0 : ¬ 255 < nth l 0) (hy1 : ¬ 65535 < nth l 1) (hy2 : ¬ 65535 < nth l 2) (hs : 8 ≤ r.s.specs.length) :
    Calls Tryd.prog 29 #[.pointer (some ⟨R, 0, none⟩), .agg #[.string (St [111, 98, 106, 101, 99, 116]), .slice a l.length c, .bool true]] w (fun e w' => e = .returned (.int .i64 3) ∧ Ext w w') := by
  have HG := Lib.hid hg
  clear hg
  obtain ⟨sa, ca, pa, h⟩ := h
  obtain ⟨xa, xc, rfl, -⟩ := own_slice h.specs
  obtain ⟨ya, yc, rfl, -⟩ := own_slice h.calls
  obtain ⟨za, zc, rfl, -⟩ := own_slice h.picks
  have HE0 := (Ext.refl w).alloc (.cells #[.string (St [111, 98, 106, 101, 99, 116]), .slice a l.length c, .bool true] 78)
  have H := Lib.hid (h.ext HE0)
  have HI := Lib.hid (hi.ext HE0)
  have hb := Blk.new w #[.string (St [111, 98, 106, 101, 99, 116]), .slice a l.length c, .bool true] 78
  have HE := Lib.hid HE0
  clear HE0 h hi
  have HL0 := Lib.hid hl
  clear hl
  go_enter Tryd.func29, Tryd.ntmps29
  go_upto_region 1 with (fail)
  generalize w.alloc (.cells #[.string (St [111, 98, 106, 101, 99, 116]), .slice a l.length c, .bool true] 78) = W0 at *
  have q0 := hb.cell 0 (v := .string (St [111, 98, 106, 101, 99, 116])) rfl
  have q1 := hb.cell 1 (v := .slice a l.length c) rfl
  have q2 := hb.cell 2 (v := .bool true) rfl
  clear hb
  have h0 := H.out.here.cell 0 (v := .int .i64 r.s.n) rfl
  have h1 := H.out.here.cell 1 (v := .slice xa r.s.specs.length xc) rfl
  have h2 := H.out.here.cell 2 (v := .slice ya r.s.calls.length yc) rfl
  have h3 := H.out.here.cell 3 (v := .slice za r.s.picks.length zc) rfl
  have h4 := H.out.here.cell 4 (v := .int .i64 r.part) rfl
  have h5 := H.out.here.cell 5 (v := .bool (fullOf r)) rfl
  have hl := HL0.out
  obtain ⟨b, off, rfl, k0⟩ := HI.out.at (i := 0) (by omega)
  rw [Nat.add_zero] at k0
  obtain ⟨b1, off1, e1, k1⟩ := HI.out.at (i := 1) (by omega)
  simp only [Option.some.injEq, Addr.mk.injEq, and_true] at e1
  obtain ⟨rfl, rfl⟩ := e1
  obtain ⟨b2, off2, e2, k2⟩ := HI.out.at (i := 2) (by omega)
  simp only [Option.some.injEq, Addr.mk.injEq, and_true] at e2
  obtain ⟨rfl, rfl⟩ := e2
  have g0 := (HG.out _ (nth_mem l 0 (by omega))).1
  have g1 := (HG.out _ (nth_mem l 1 (by omega))).1
  have g2 := (HG.out _ (nth_mem l 2 (by omega))).1
  have p1 : (r.part == 1) = true := beq_iff_eq.2 (by omega); have p1n : (r.part != 1) = false := by rw [bne, p1]; rfl
  have l3 : ((l.length : Int) == 3) = true := beq_iff_eq.2 (by omega); have l3n : ((l.length : Int) != 3) = false := by rw [bne, l3]; rfl
  have y0d : decide (255 < nth l 0) = false := decide_eq_false (by omega)
  have y1d : decide (65535 < nth l 1) = false := decide_eq_false (by omega)
  have y2d : decide (65535 < nth l 2) = false := decide_eq_false (by omega)
  have s8 : decide ((8 : Int) ≤ (r.s.specs.length : Int)) = true := decide_eq_true (by omega)
  generalize nth l 0 = y0 at *
  generalize nth l 1 = y1 at *
  generalize nth l 2 = y2 at *
  have hl0 : 0 < l.length := by omega
  have hl1 : 1 < l.length := by omega
  have hl2 : 2 < l.length := by omega
  clear hp
  clear hl
  go_wp2_with fail
  refine bodyPost_ret (v := .int .i64 3) (by simp [results, Tryd.results29, go_sem]) rfl ?_
  exact ⟨rfl, HE.out⟩

set_option maxRecDepth 100000 in
set_option maxHeartbeats 4000000 in
theorem rwrong_O1 (w : World) (B R : Nat) (r : Pl.St) (a : Option Addr) (c : Nat) (l : List Int) (h : IsRPl w B R r) (hok : Rok r) (hi : IsInts .u64 w a l) (hg : ∀ x ∈ l, 0 ≤ x ∧ x ≤ 18446744073709551615) (hp : r.part = 1) (hl : l.length = 3) (hy0 : ¬ 255 < nth l 0) (hy1 : ¬ 65535 < nth l 1) (hy2 : ¬ 65535 < nth l 2) (hs : ¬ 8 ≤ r.s.specs.length) :
    Calls Tryd.prog 29 #[.pointer (some ⟨R, 0, none⟩), .agg #[.string (St [111, 98, 106, 101, 99, 116]), .slice a l.length c, .bool true]] w (fun e w' => e = .returned (.int .i64 0) ∧ Ext w w') := by
  have HG := Lib.hid hg
  clear hg
  obtain ⟨sa, ca, pa, h⟩ := h
  obtain ⟨xa, xc, rfl, -⟩ := own_slice h.specs
  obtain ⟨ya, yc, rfl, -⟩ := own_slice h.calls
  obtain ⟨za, zc, rfl, -⟩ := own_slice h.picks
  have HE0 := (Ext.refl w).alloc (.cells #[.string (St [111, 98, 106, 101, 99, 116]), .slice a l.length c, .bool true] 78)
  have H := Lib.hid (h.ext HE0)
  have HI := Lib.hid (hi.ext HE0)
  have hb := Blk.new w #[.string (St [111, 98, 106, 101, 99, 116]), .slice a l.length c, .bool true] 78
  have HE := Lib.hid HE0
  clear HE0 h hi
  have HL0 := Lib.hid hl
  clear hl
  go_enter Tryd.func29, Tryd.ntmps29
  go_upto_region 1 with (fail)
  generalize w.alloc (.cells #[.string (St [111, 98, 106, 101, 99, 116]), .slice a l.length c, .bool true] 78) = W0 at *
  have q0 := hb.cell 0 (v := .string (St [111, 98, 106, 101, 99, 116])) rfl
  have q1 := hb.cell 1 (v := .slice a l.length c) rfl
  have q2 := hb.cell 2 (v := .bool true) rfl
  clear hb
  have h0 := H.out.here.cell 0 (v := .int .i64 r.s.n) rfl
  have h1 := H.out.here.cell 1 (v := .slice xa r.s.specs.length xc) rfl
  have h2 := H.out.here.cell 2 (v := .slice ya r.s.calls.length yc) rfl
  have h3 := H.out.here.cell 3 (v := .slice za r.s.picks.length zc) rfl
  have h4 := H.out.here.cell 4 (v := .int .i64 r.part) rfl
  have h5 := H.out.here.cell 5 (v := .bool (fullOf r)) rfl
  have hl := HL0.out
  obtain ⟨b, off, rfl, k0⟩ := HI.out.at (i := 0) (by omega)
  rw [Nat.add_zero] at k0
  obtain ⟨b1, off1, e1, k1⟩ := HI.out.at (i := 1) (by omega)
  simp only [Option.some.injEq, Addr.mk.injEq, and_true] at e1
  obtain ⟨rfl, rfl⟩ := e1
  obtain ⟨b2, off2, e2, k2⟩ := HI.out.at (i := 2) (by omega)
  simp only [Option.some.injEq, Addr.mk.injEq, and_true] at e2
  obtain ⟨rfl, rfl⟩ := e2
  have g0 := (HG.out _ (nth_mem l 0 (by omega))).1
  have g1 := (HG.out _ (nth_mem l 1 (by omega))).1
  have g2 := (HG.out _ (nth_mem l 2 (by omega))).1
  have p1 : (r.part == 1) = true := beq_iff_eq.2 (by omega); have p1n : (r.part != 1) = false := by rw [bne, p1]; rfl
  have l3 : ((l.length : Int) == 3) = true := beq_iff_eq.2 (by omega); have l3n : ((l.length : Int) != 3) = false := by rw [bne, l3]; rfl
  have y0d : decide (255 < nth l 0) = false := decide_eq_false (by omega)
  have y1d : decide (65535 < nth l 1) = false := decide_eq_false (by omega)
  have y2d : decide (65535 < nth l 2) = false := decide_eq_false (by omega)
  have s8 : decide ((8 : Int) ≤ (r.s.specs.length : Int)) = false := decide_eq_false (by omega)
  generalize nth l 0 = y0 at *
  generalize nth l 1 = y1 at *
  generalize nth l 2 = y2 at *
  have hl0 : 0 < l.length := by omega
  have hl1 : 1 < l.length := by omega
  have hl2 : 2 < l.length := by omega
  clear hp
  clear hl
  go_wp2_with fail
  refine bodyPost_ret (v := .int .i64 0) (by simp [results, Tryd.results29, go_sem]) rfl ?_
  exact ⟨rfl, HE.out⟩

set_option maxRecDepth 100000 in
set_option maxHeartbeats 4000000 in
theorem rwrong_C3 (w : World) (B R : Nat) (r : Pl.St) (a : Option Addr) (c : Nat) (l : List Int) (h : IsRPl w B R r) (hok : Rok r) (hi : IsInts .u64 w a l) (hg : ∀ x ∈ l, 0 ≤ x ∧ x ≤ 18446744073709551615) (hp1 : r.part ≠ 1) (hp2 : r.part ≠ 2) :
    Calls Tryd.prog 29 #[.pointer (some ⟨R, 0, none⟩), .agg #[.string (St [99, 97, 108, 108]), .slice a l.length c, .bool true]] w (fun e w' => e = .returned (.int .i64 5) ∧ Ext w w') := by
  have HG := Lib.hid hg
  clear hg
  obtain ⟨sa, ca, pa, h⟩ := h
  obtain ⟨xa, xc, rfl, -⟩ := own_slice h.specs
  obtain ⟨ya, yc, rfl, -⟩ := own_slice h.calls
  obtain ⟨za, zc, rfl, -⟩ := own_slice h.picks
  have HE0 := (Ext.refl w).alloc (.cells #[.string (St [99, 97, 108, 108]), .slice a l.length c, .bool true] 78)
  have H := Lib.hid (h.ext HE0)
  have HI := Lib.hid (hi.ext HE0)
  have hb := Blk.new w #[.string (St [99, 97, 108, 108]), .slice a l.length c, .bool true] 78
  have HE := Lib.hid HE0
  clear HE0 h hi
  go_enter Tryd.func29, Tryd.ntmps29
  go_upto_region 1 with (fail)
  generalize w.alloc (.cells #[.string (St [99, 97, 108, 108]), .slice a l.length c, .bool true] 78) = W0 at *
  have q0 := hb.cell 0 (v := .string (St [99, 97, 108, 108])) rfl
  have q1 := hb.cell 1 (v := .slice a l.length c) rfl
  have q2 := hb.cell 2 (v := .bool true) rfl
  clear hb
  have h0 := H.out.here.cell 0 (v := .int .i64 r.s.n) rfl
  have h1 := H.out.here.cell 1 (v := .slice xa r.s.specs.length xc) rfl
  have h2 := H.out.here.cell 2 (v := .slice ya r.s.calls.length yc) rfl
  have h3 := H.out.here.cell 3 (v := .slice za r.s.picks.length zc) rfl
  have h4 := H.out.here.cell 4 (v := .int .i64 r.part) rfl
  have h5 := H.out.here.cell 5 (v := .bool (fullOf r)) rfl
  have p1 : (r.part == 1) = false := beq_eq_false_iff_ne.2 (by omega); have p1n : (r.part != 1) = true := by rw [bne, p1]; rfl
  have p2 : (r.part == 2) = false := beq_eq_false_iff_ne.2 (by omega); have p2n : (r.part != 2) = true := by rw [bne, p2]; rfl
  clear hp1 hp2
  go_wp2_with fail
  refine bodyPost_ret (v := .int .i64 5) (by simp [results, Tryd.results29, go_sem]) rfl ?_
  exact ⟨rfl, HE.out⟩

set_option maxRecDepth 100000 in
set_option maxHeartbeats 4000000 in
theorem rwrong_C41 (w : World) (B R : Nat) (r : Pl.St) (a : Option Addr) (c : Nat) (l : List Int) (h : IsRPl w B R r) (hok : Rok r) (hi : IsInts .u64 w a l) (hg : ∀ x ∈ l, 0 ≤ x ∧ x ≤ 18446744073709551615) (hp : r.part = 1) (hl : l.length ≠ 6) :
    Calls Tryd.prog 29 #[.pointer (some ⟨R, 0, none⟩), .agg #[.string (St [99, 97, 108, 108]), .slice a l.length c, .bool true]] w (fun e w' => e = .returned (.int .i64 5) ∧ Ext w w') := by
  have HG := Lib.hid hg
  clear hg
  obtain ⟨sa, ca, pa, h⟩ := h
  obtain ⟨xa, xc, rfl, -⟩ := own_slice h.specs
  obtain ⟨ya, yc, rfl, -⟩ := own_slice h.calls
  obtain ⟨za, zc, rfl, -⟩ := own_slice h.picks
  have HE0 := (Ext.refl w).alloc (.cells #[.string (St [99, 97, 108, 108]), .slice a l.length c, .bool true] 78)
  have H := Lib.hid (h.ext HE0)
  have HI := Lib.hid (hi.ext HE0)
  have hb := Blk.new w #[.string (St [99, 97, 108, 108]), .slice a l.length c, .bool true] 78
  have HE := Lib.hid HE0
  clear HE0 h hi
  go_enter Tryd.func29, Tryd.ntmps29
  go_upto_region 1 with (fail)
  generalize w.alloc (.cells #[.string (St [99, 97, 108, 108]), .slice a l.length c, .bool true] 78) = W0 at *
  have q0 := hb.cell 0 (v := .string (St [99, 97, 108, 108])) rfl
  have q1 := hb.cell 1 (v := .slice a l.length c) rfl
  have q2 := hb.cell 2 (v := .bool true) rfl
  clear hb
  have h0 := H.out.here.cell 0 (v := .int .i64 r.s.n) rfl
  have h1 := H.out.here.cell 1 (v := .slice xa r.s.specs.length xc) rfl
  have h2 := H.out.here.cell 2 (v := .slice ya r.s.calls.length yc) rfl
  have h3 := H.out.here.cell 3 (v := .slice za r.s.picks.length zc) rfl
  have h4 := H.out.here.cell 4 (v := .int .i64 r.part) rfl
  have h5 := H.out.here.cell 5 (v := .bool (fullOf r)) rfl
  have p1 : (r.part == 1) = true := beq_iff_eq.2 (by omega); have p1n : (r.part != 1) = false := by rw [bne, p1]; rfl
  have l6 : ((l.length : Int) == 6) = false := beq_eq_false_iff_ne.2 (by omega); have l6n : ((l.length : Int) != 6) = true := by rw [bne, l6]; rfl
  clear hp hl
  go_wp2_with fail
  refine bodyPost_ret (v := .int .i64 5) (by simp [results, Tryd.results29, go_sem]) rfl ?_
  exact ⟨rfl, HE.out⟩

set_option maxRecDepth 100000 in
set_option maxHeartbeats 4000000 in
theorem rwrong_C51 (w : World) (B R : Nat) (r : Pl.St) (a : Option Addr) (c : Nat) (l : List Int) (h : IsRPl w B R r) (hok : Rok r) (hi : IsInts .u64 w a l) (hg : ∀ x ∈ l, 0 ≤ x ∧ x ≤ 18446744073709551615) (hp : r.part = 1) (hl : l.length = 6) (hy0 : r.s.n ≤ nth l 0) :
    Calls Tryd.prog 29 #[.pointer (some ⟨R, 0, none⟩), .agg #[.string (St [99, 97, 108, 108]), .slice a l.length c, .bool true]] w (fun e w' => e = .returned (.int .i64 10) ∧ Ext w w') := by
  have HG := Lib.hid hg
  clear hg
  obtain ⟨sa, ca, pa, h⟩ := h
  obtain ⟨xa, xc, rfl, -⟩ := own_slice h.specs
  obtain ⟨ya, yc, rfl, -⟩ := own_slice h.calls
  obtain ⟨za, zc, rfl, -⟩ := own_slice h.picks
  have HE0 := (Ext.refl w).alloc (.cells #[.string (St [99, 97, 108, 108]), .slice a l.length c, .bool true] 78)
  have H := Lib.hid (h.ext HE0)
  have HI := Lib.hid (hi.ext HE0)
  have hb := Blk.new w #[.string (St [99, 97, 108, 108]), .slice a l.length c, .bool true] 78
  have HE := Lib.hid HE0
  clear HE0 h hi
  have HL0 := Lib.hid hl
  clear hl
  go_enter Tryd.func29, Tryd.ntmps29
  go_upto_region 1 with (fail)
  generalize w.alloc (.cells #[.string (St [99, 97, 108, 108]), .slice a l.length c, .bool true] 78) = W0 at *
  have q0 := hb.cell 0 (v := .string (St [99, 97, 108, 108])) rfl
  have q1 := hb.cell 1 (v := .slice a l.length c) rfl
  have q2 := hb.cell 2 (v := .bool true) rfl
  clear hb
  have h0 := H.out.here.cell 0 (v := .int .i64 r.s.n) rfl
  have h1 := H.out.here.cell 1 (v := .slice xa r.s.specs.length xc) rfl
  have h2 := H.out.here.cell 2 (v := .slice ya r.s.calls.length yc) rfl
  have h3 := H.out.here.cell 3 (v := .slice za r.s.picks.length zc) rfl
  have h4 := H.out.here.cell 4 (v := .int .i64 r.part) rfl
  have h5 := H.out.here.cell 5 (v := .bool (fullOf r)) rfl
  have hl := HL0.out
  obtain ⟨b, off, rfl, k0⟩ := HI.out.at (i := 0) (by omega)
  rw [Nat.add_zero] at k0
  obtain ⟨b1, off1, e1, k1⟩ := HI.out.at (i := 1) (by omega)
  simp only [Option.some.injEq, Addr.mk.injEq, and_true] at e1
  obtain ⟨rfl, rfl⟩ := e1
  obtain ⟨b2, off2, e2, k2⟩ := HI.out.at (i := 2) (by omega)
  simp only [Option.some.injEq, Addr.mk.injEq, and_true] at e2
  obtain ⟨rfl, rfl⟩ := e2
  have g0 := (HG.out _ (nth_mem l 0 (by omega))).1
  have g1 := (HG.out _ (nth_mem l 1 (by omega))).1
  have g2 := (HG.out _ (nth_mem l 2 (by omega))).1
  have hn := hok.n (by omega)
  have p1 : (r.part == 1) = true := beq_iff_eq.2 (by omega); have p1n : (r.part != 1) = false := by rw [bne, p1]; rfl
  have l6 : ((l.length : Int) == 6) = true := beq_iff_eq.2 (by omega); have l6n : ((l.length : Int) != 6) = false := by rw [bne, l6]; rfl
  have y0d : decide (r.s.n ≤ nth l 0) = true := decide_eq_true (by omega)
  generalize nth l 0 = y0 at *
  generalize nth l 1 = y1 at *
  generalize nth l 2 = y2 at *
  have hl0 : 0 < l.length := by omega
  have hl1 : 1 < l.length := by omega
  have hl2 : 2 < l.length := by omega
  have hn1 := hn.1
  have hn2 := hn.2
  clear hp hn
  clear hl
  go_wp2_with fail
  go_quiet (fail)
  go_wp2_with fail
  refine bodyPost_ret (v := .int .i64 10) (by simp [results, Tryd.results29, go_sem]) rfl ?_
  exact ⟨rfl, HE.out.drewN _⟩

set_option maxRecDepth 100000 in
set_option maxHeartbeats 4000000 in
theorem rwrong_C61 (w : World) (B R : Nat) (r : Pl.St) (a : Option Addr) (c : Nat) (l : List Int) (h : IsRPl w B R r) (hok : Rok r) (hi : IsInts .u64 w a l) (hg : ∀ x ∈ l, 0 ≤ x ∧ x ≤ 18446744073709551615) (hp : r.part = 1) (hl : l.length = 6) (hy0 : ¬ r.s.n ≤ nth l 0) (hy1 : 255 < nth l 1) :
    Calls Tryd.prog 29 #[.pointer (some ⟨R, 0, none⟩), .agg #[.string (St [99, 97, 108, 108]), .slice a l.length c, .bool true]] w (fun e w' => e = .returned (.int .i64 10) ∧ Ext w w') := by
  have HG := Lib.hid hg
  clear hg
  obtain ⟨sa, ca, pa, h⟩ := h
  obtain ⟨xa, xc, rfl, -⟩ := own_slice h.specs
  obtain ⟨ya, yc, rfl, -⟩ := own_slice h.calls
  obtain ⟨za, zc, rfl, -⟩ := own_slice h.picks
  have HE0 := (Ext.refl w).alloc (.cells #[.string (St [99, 97, 108, 108]), .slice a l.length c, .bool true] 78)
  have H := Lib.hid (h.ext HE0)
  have HI := Lib.hid (hi.ext HE0)
  have hb := Blk.new w #[.string (St [99, 97, 108, 108]), .slice a l.length c, .bool true] 78
  have HE := Lib.hid HE0
  clear HE0 h hi
  have HL0 := Lib.hid hl
  clear hl
  go_enter Tryd.func29, Tryd.ntmps29
  go_upto_region 1 with (fail)
  generalize w.alloc (.cells #[.string (St [99, 97, 108, 108]), .slice a l.length c, .bool true] 78) = W0 at *
  have q0 := hb.cell 0 (v := .string (St [99, 97, 108, 108])) rfl
  have q1 := hb.cell 1 (v := .slice a l.length c) rfl
  have q2 := hb.cell 2 (v := .bool true) rfl
  clear hb
  have h0 := H.out.here.cell 0 (v := .int .i64 r.s.n) rfl
  have h1 := H.out.here.cell 1 (v := .slice xa r.s.specs.length xc) rfl
  have h2 := H.out.here.cell 2 (v := .slice ya r.s.calls.length yc) rfl
  have h3 := H.out.here.cell 3 (v := .slice za r.s.picks.length zc) rfl
  have h4 := H.out.here.cell 4 (v := .int .i64 r.part) rfl
  have h5 := H.out.here.cell 5 (v := .bool (fullOf r)) rfl
  have hl := HL0.out
  obtain ⟨b, off, rfl, k0⟩ := HI.out.at (i := 0) (by omega)
  rw [Nat.add_zero] at k0
  obtain ⟨b1, off1, e1, k1⟩ := HI.out.at (i := 1) (by omega)
  simp only [Option.some.injEq, Addr.mk.injEq, and_true] at e1
  obtain ⟨rfl, rfl⟩ := e1
  obtain ⟨b2, off2, e2, k2⟩ := HI.out.at (i := 2) (by omega)
  simp only [Option.some.injEq, Addr.mk.injEq, and_true] at e2
  obtain ⟨rfl, rfl⟩ := e2
  have g0 := (HG.out _ (nth_mem l 0 (by omega))).1
  have g1 := (HG.out _ (nth_mem l 1 (by omega))).1
  have g2 := (HG.out _ (nth_mem l 2 (by omega))).1
  have hn := hok.n (by omega)
  have p1 : (r.part == 1) = true := beq_iff_eq.2 (by omega); have p1n : (r.part != 1) = false := by rw [bne, p1]; rfl
  have l6 : ((l.length : Int) == 6) = true := beq_iff_eq.2 (by omega); have l6n : ((l.length : Int) != 6) = false := by rw [bne, l6]; rfl
  have y0d : decide (r.s.n ≤ nth l 0) = false := decide_eq_false (by omega)
  have y1d : decide (255 < nth l 1) = true := decide_eq_true (by omega)
  generalize nth l 0 = y0 at *
  generalize nth l 1 = y1 at *
  generalize nth l 2 = y2 at *
  have hl0 : 0 < l.length := by omega
  have hl1 : 1 < l.length := by omega
  have hl2 : 2 < l.length := by omega
  have hn1 := hn.1
  have hn2 := hn.2
  clear hp hn
  clear hl
  go_wp2_with fail
  go_quiet (fail)
  go_wp2_with fail
  refine bodyPost_ret (v := .int .i64 10) (by simp [results, Tryd.results29, go_sem]) rfl ?_
  exact ⟨rfl, HE.out.drewN _⟩

set_option maxRecDepth 100000 in
set_option maxHeartbeats 4000000 in
theorem rwrong_C71 (w : World) (B R : Nat) (r : Pl.St) (a : Option Addr) (c : Nat) (l : List Int) (h : IsRPl w B R r) (hok : Rok r) (hi : IsInts .u64 w a l) (hg : ∀ x ∈ l, 0 ≤ x ∧ x ≤ 18446744073709551615) (hp : r.part = 1) (hl : l.length = 6) (hy0 : ¬ r.s.n ≤ nth l 0) (hy1 : ¬ 255 < nth l 1) (hy2 : 255 < nth l 2) :
    Calls Tryd.prog 29 #[.pointer (some ⟨R, 0, none⟩), .agg #[.string (St [99, 97, 108, 108]), .slice a l.length c, .bool true]] w (fun e w' => e = .returned (.int .i64 10) ∧ Ext w w') := by
  have HG := Lib.hid hg
  clear hg
  obtain ⟨sa, ca, pa, h⟩ := h
  obtain ⟨xa, xc, rfl, -⟩ := own_slice h.specs
  obtain ⟨ya, yc, rfl, -⟩ := own_slice h.calls
  obtain ⟨za, zc, rfl, -⟩ := own_slice h.picks
  have HE0 := (Ext.refl w).alloc (.cells #[.string (St [99, 97, 108, 108]), .slice a l.length c, .bool true] 78)
  have H := Lib.hid (h.ext HE0)
  have HI := Lib.hid (hi.ext HE0)
  have hb := Blk.new w #[.string (St [99, 97, 108, 108]), .slice a l.length c, .bool true] 78
  have HE := Lib.hid HE0
  clear HE0 h hi
  have HL0 := Lib.hid hl
  clear hl
  go_enter Tryd.func29, Tryd.ntmps29
  go_upto_region 1 with (fail)
  generalize w.alloc (.cells #[.string (St [99, 97, 108, 108]), .slice a l.length c, .bool true] 78) = W0 at *
  have q0 := hb.cell 0 (v := .string (St [99, 97, 108, 108])) rfl
  have q1 := hb.cell 1 (v := .slice a l.length c) rfl
  have q2 := hb.cell 2 (v := .bool true) rfl
  clear hb
  have h0 := H.out.here.cell 0 (v := .int .i64 r.s.n) rfl
  have h1 := H.out.here.cell 1 (v := .slice xa r.s.specs.length xc) rfl
  have h2 := H.out.here.cell 2 (v := .slice ya r.s.calls.length yc) rfl
  have h3 := H.out.here.cell 3 (v := .slice za r.s.picks.length zc) rfl
  have h4 := H.out.here.cell 4 (v := .int .i64 r.part) rfl
  have h5 := H.out.here.cell 5 (v := .bool (fullOf r)) rfl
  have hl := HL0.out
  obtain ⟨b, off, rfl, k0⟩ := HI.out.at (i := 0) (by omega)
  rw [Nat.add_zero] at k0
  obtain ⟨b1, off1, e1, k1⟩ := HI.out.at (i := 1) (by omega)
  simp only [Option.some.injEq, Addr.mk.injEq, and_true] at e1
  obtain ⟨rfl, rfl⟩ := e1
  obtain ⟨b2, off2, e2, k2⟩ := HI.out.at (i := 2) (by omega)
  simp only [Option.some.injEq, Addr.mk.injEq, and_true] at e2
  obtain ⟨rfl, rfl⟩ := e2
  have g0 := (HG.out _ (nth_mem l 0 (by omega))).1
  have g1 := (HG.out _ (nth_mem l 1 (by omega))).1
  have g2 := (HG.out _ (nth_mem l 2 (by omega))).1
  have hn := hok.n (by omega)
  have p1 : (r.part == 1) = true := beq_iff_eq.2 (by omega); have p1n : (r.part != 1) = false := by rw [bne, p1]; rfl
  have l6 : ((l.length : Int) == 6) = true := beq_iff_eq.2 (by omega); have l6n : ((l.length : Int) != 6) = false := by rw [bne, l6]; rfl
  have y0d : decide (r.s.n ≤ nth l 0) = false := decide_eq_false (by omega)
  have y1d : decide (255 < nth l 1) = false := decide_eq_false (by omega)
  have y2d : decide (255 < nth l 2) = true := decide_eq_true (by omega)
  generalize nth l 0 = y0 at *
  generalize nth l 1 = y1 at *
  generalize nth l 2 = y2 at *
  have hl0 : 0 < l.length := by omega
  have hl1 : 1 < l.length := by omega
  have hl2 : 2 < l.length := by omega
  have hn1 := hn.1
  have hn2 := hn.2
  clear hp hn
  clear hl
  go_wp2_with fail
  go_quiet (fail)
  go_wp2_with fail
  refine bodyPost_ret (v := .int .i64 10) (by simp [results, Tryd.results29, go_sem]) rfl ?_
  exact ⟨rfl, HE.out.drewN _⟩

set_option maxRecDepth 100000 in
set_option maxHeartbeats 4000000 in
theorem rwrong_C81 (w : World) (B R : Nat) (r : Pl.St) (a : Option Addr) (c : Nat) (l : List Int) (h : IsRPl w B R r) (hok : Rok r) (hi : IsInts .u64 w a l) (hg : ∀ x ∈ l, 0 ≤ x ∧ x ≤ 18446744073709551615) (hp : r.part = 1) (hl : l.length = 6) (hy0 : ¬ r.s.n ≤ nth l 0) (hy1 : ¬ 255 < nth l 1) (hy2 : ¬ 255 < nth l 2) (hs : 1000 ≤ r.s.calls.length) :
    Calls Tryd.prog 29 #[.pointer (some ⟨R, 0, none⟩), .agg #[.string (St [99, 97, 108, 108]), .slice a l.length c, .bool true]] w (fun e w' => e = .returned (.int .i64 3) ∧ Ext w w') := by
  have HG := Lib.hid hg
  clear hg
  obtain ⟨sa, ca, pa, h⟩ := h
  obtain ⟨xa, xc, rfl, -⟩ := own_slice h.specs
  obtain ⟨ya, yc, rfl, -⟩ := own_slice h.calls
  obtain ⟨za, zc, rfl, -⟩ := own_slice h.picks
  have HE0 := (Ext.refl w).alloc (.cells #[.string (St [99, 97, 108, 108]), .slice a l.length c, .bool true] 78)
  have H := Lib.hid (h.ext HE0)
  have HI := Lib.hid (hi.ext HE0)
  have hb := Blk.new w #[.string (St [99, 97, 108, 108]), .slice a l.length c, .bool true] 78
  have HE := Lib.hid HE0
  clear HE0 h hi
  have HL0 := Lib.hid hl
  clear hl
  go_enter Tryd.func29, Tryd.ntmps29
  go_upto_region 1 with (fail)
  generalize w.alloc (.cells #[.string (St [99, 97, 108, 108]), .slice a l.length c, .bool true] 78) = W0 at *
  have q0 := hb.cell 0 (v := .string (St [99, 97, 108, 108])) rfl
  have q1 := hb.cell 1 (v := .slice a l.length c) rfl
  have q2 := hb.cell 2 (v := .bool true) rfl
  clear hb
  have h0 := H.out.here.cell 0 (v := .int .i64 r.s.n) rfl
  have h1 := H.out.here.cell 1 (v := .slice xa r.s.specs.length xc) rfl
  have h2 := H.out.here.cell 2 (v := .slice ya r.s.calls.length yc) rfl
  have h3 := H.out.here.cell 3 (v := .slice za r.s.picks.length zc) rfl
  have h4 := H.out.here.cell 4 (v := .int .i64 r.part) rfl
  have h5 := H.out.here.cell 5 (v := .bool (fullOf r)) rfl
  have hl := HL0.out
  obtain ⟨b, off, rfl, k0⟩ := HI.out.at (i := 0) (by omega)
  rw [Nat.add_zero] at k0
  obtain ⟨b1, off1, e1, k1⟩ := HI.out.at (i := 1) (by omega)
  simp only [Option.some.injEq, Addr.mk.injEq, and_true] at e1
  obtain ⟨rfl, rfl⟩ := e1
  obtain ⟨b2, off2, e2, k2⟩ := HI.out.at (i := 2) (by omega)
  simp only [Option.some.injEq, Addr.mk.injEq, and_true] at e2
  obtain ⟨rfl, rfl⟩ := e2
  have g0 := (HG.out _ (nth_mem l 0 (by omega))).1
  have g1 := (HG.out _ (nth_mem l 1 (by omega))).1
  have g2 := (HG.out _ (nth_mem l 2 (by omega))).1
  have hn := hok.n (by omega)
  have p1 : (r.part == 1) = true := beq_iff_eq.2 (by omega); have p1n : (r.part != 1) = false := by rw [bne, p1]; rfl
  have l6 : ((l.length : Int) == 6) = true := beq_iff_eq.2 (by omega); have l6n : ((l.length : Int) != 6) = false := by rw [bne, l6]; rfl
  have y0d : decide (r.s.n ≤ nth l 0) = false := decide_eq_false (by omega)
  have y1d : decide (255 < nth l 1) = false := decide_eq_false (by omega)
  have y2d : decide (255 < nth l 2) = false := decide_eq_false (by omega)
  have s8 : decide ((1000 : Int) ≤ (r.s.calls.length : Int)) = true := decide_eq_true (by omega)
  generalize nth l 0 = y0 at *
  generalize nth l 1 = y1 at *
  generalize nth l 2 = y2 at *
  have hl0 : 0 < l.length := by omega
  have hl1 : 1 < l.length := by omega
  have hl2 : 2 < l.length := by omega
  have hn1 := hn.1
  have hn2 := hn.2
  clear hp hn
  clear hl
  go_wp2_with fail
  go_quiet (fail)
  go_wp2_with fail
  refine bodyPost_ret (v := .int .i64 3) (by simp [results, Tryd.results29, go_sem]) rfl ?_
  exact ⟨rfl, HE.out.drewN _⟩

set_option maxRecDepth 100000 in
set_option maxHeartbeats 4000000 in
theorem rwrong_C11 (w : World) (B R : Nat) (r : Pl.St) (a : Option Addr) (c : Nat) (l : List Int) (h : IsRPl w B R r) (hok : Rok r) (hi : IsInts .u64 w a l) (hg : ∀ x ∈ l, 0 ≤ x ∧ x ≤ 18446744073709551615) (hp : r.part = 1) (hl : l.length = 6) (hy0 : ¬ r.s.n ≤ nth l 0) (hy1 : ¬ 255 < nth l 1) (hy2 : ¬ 255 < nth l 2) (hs : ¬ 1000 ≤ r.s.calls.length) :
    Calls Tryd.prog 29 #[.pointer (some ⟨R, 0, none⟩), .agg #[.string (St [99, 97, 108, 108]), .slice a l.length c, .bool true]] w (fun e w' => e = .returned (.int .i64 0) ∧ Ext w w') := by
  have HG := Lib.hid hg
  clear hg
  obtain ⟨sa, ca, pa, h⟩ := h
  obtain ⟨xa, xc, rfl, -⟩ := own_slice h.specs
  obtain ⟨ya, yc, rfl, -⟩ := own_slice h.calls
  obtain ⟨za, zc, rfl, -⟩ := own_slice h.picks
  have HE0 := (Ext.refl w).alloc (.cells #[.string (St [99, 97, 108, 108]), .slice a l.length c, .bool true] 78)
  have H := Lib.hid (h.ext HE0)
  have HI := Lib.hid (hi.ext HE0)
  have hb := Blk.new w #[.string (St [99, 97, 108, 108]), .slice a l.length c, .bool true] 78
  have HE := Lib.hid HE0
  clear HE0 h hi
  have HL0 := Lib.hid hl
  clear hl
  go_enter Tryd.func29, Tryd.ntmps29
  go_upto_region 1 with (fail)
  generalize w.alloc (.cells #[.string (St [99, 97, 108, 108]), .slice a l.length c, .bool true] 78) = W0 at *
  have q0 := hb.cell 0 (v := .string (St [99, 97, 108, 108])) rfl
  have q1 := hb.cell 1 (v := .slice a l.length c) rfl
  have q2 := hb.cell 2 (v := .bool true) rfl
  clear hb
  have h0 := H.out.here.cell 0 (v := .int .i64 r.s.n) rfl
  have h1 := H.out.here.cell 1 (v := .slice xa r.s.specs.length xc) rfl
  have h2 := H.out.here.cell 2 (v := .slice ya r.s.calls.length yc) rfl
  have h3 := H.out.here.cell 3 (v := .slice za r.s.picks.length zc) rfl
  have h4 := H.out.here.cell 4 (v := .int .i64 r.part) rfl
  have h5 := H.out.here.cell 5 (v := .bool (fullOf r)) rfl
  have hl := HL0.out
  obtain ⟨b, off, rfl, k0⟩ := HI.out.at (i := 0) (by omega)
  rw [Nat.add_zero] at k0
  obtain ⟨b1, off1, e1, k1⟩ := HI.out.at (i := 1) (by omega)
  simp only [Option.some.injEq, Addr.mk.injEq, and_true] at e1
  obtain ⟨rfl, rfl⟩ := e1
  obtain ⟨b2, off2, e2, k2⟩ := HI.out.at (i := 2) (by omega)
  simp only [Option.some.injEq, Addr.mk.injEq, and_true] at e2
  obtain ⟨rfl, rfl⟩ := e2
  have g0 := (HG.out _ (nth_mem l 0 (by omega))).1
  have g1 := (HG.out _ (nth_mem l 1 (by omega))).1
  have g2 := (HG.out _ (nth_mem l 2 (by omega))).1
  have hn := hok.n (by omega)
  have p1 : (r.part == 1) = true := beq_iff_eq.2 (by omega); have p1n : (r.part != 1) = false := by rw [bne, p1]; rfl
  have l6 : ((l.length : Int) == 6) = true := beq_iff_eq.2 (by omega); have l6n : ((l.length : Int) != 6) = false := by rw [bne, l6]; rfl
  have y0d : decide (r.s.n ≤ nth l 0) = false := decide_eq_false (by omega)
  have y1d : decide (255 < nth l 1) = false := decide_eq_false (by omega)
  have y2d : decide (255 < nth l 2) = false := decide_eq_false (by omega)
  have s8 : decide ((1000 : Int) ≤ (r.s.calls.length : Int)) = false := decide_eq_false (by omega)
  generalize nth l 0 = y0 at *
  generalize nth l 1 = y1 at *
  generalize nth l 2 = y2 at *
  have hl0 : 0 < l.length := by omega
  have hl1 : 1 < l.length := by omega
  have hl2 : 2 < l.length := by omega
  have hn1 := hn.1
  have hn2 := hn.2
  clear hp hn
  clear hl
  go_wp2_with fail
  go_quiet (fail)
  go_wp2_with fail
  refine bodyPost_ret (v := .int .i64 0) (by simp [results, Tryd.results29, go_sem]) rfl ?_
  exact ⟨rfl, HE.out.drewN _⟩

set_option maxRecDepth 100000 in
set_option maxHeartbeats 4000000 in
theorem rwrong_C42 (w : World) (B R : Nat) (r : Pl.St) (a : Option Addr) (c : Nat) (l : List Int) (h : IsRPl w B R r) (hok : Rok r) (hi : IsInts .u64 w a l) (hg : ∀ x ∈ l, 0 ≤ x ∧ x ≤ 18446744073709551615) (hp : r.part = 2) (hl : l.length ≠ 6) :
    Calls Tryd.prog 29 #[.pointer (some ⟨R, 0, none⟩), .agg #[.string (St [99, 97, 108, 108]), .slice a l.length c, .bool true]] w (fun e w' => e = .returned (.int .i64 5) ∧ Ext w w') := by
  have HG := Lib.hid hg
  clear hg
  obtain ⟨sa, ca, pa, h⟩ := h
  obtain ⟨xa, xc, rfl, -⟩ := own_slice h.specs
  obtain ⟨ya, yc, rfl, -⟩ := own_slice h.calls
  obtain ⟨za, zc, rfl, -⟩ := own_slice h.picks
  have HE0 := (Ext.refl w).alloc (.cells #[.string (St [99, 97, 108, 108]), .slice a l.length c, .bool true] 78)
  have H := Lib.hid (h.ext HE0)
  have HI := Lib.hid (hi.ext HE0)
  have hb := Blk.new w #[.string (St [99, 97, 108, 108]), .slice a l.length c, .bool true] 78
  have HE := Lib.hid HE0
  clear HE0 h hi
  go_enter Tryd.func29, Tryd.ntmps29
  go_upto_region 1 with (fail)
  generalize w.alloc (.cells #[.string (St [99, 97, 108, 108]), .slice a l.length c, .bool true] 78) = W0 at *
  have q0 := hb.cell 0 (v := .string (St [99, 97, 108, 108])) rfl
  have q1 := hb.cell 1 (v := .slice a l.length c) rfl
  have q2 := hb.cell 2 (v := .bool true) rfl
  clear hb
  have h0 := H.out.here.cell 0 (v := .int .i64 r.s.n) rfl
  have h1 := H.out.here.cell 1 (v := .slice xa r.s.specs.length xc) rfl
  have h2 := H.out.here.cell 2 (v := .slice ya r.s.calls.length yc) rfl
  have h3 := H.out.here.cell 3 (v := .slice za r.s.picks.length zc) rfl
  have h4 := H.out.here.cell 4 (v := .int .i64 r.part) rfl
  have h5 := H.out.here.cell 5 (v := .bool (fullOf r)) rfl
  have p1 : (r.part == 1) = false := beq_eq_false_iff_ne.2 (by omega); have p1n : (r.part != 1) = true := by rw [bne, p1]; rfl
  have p2 : (r.part == 2) = true := beq_iff_eq.2 (by omega); have p2n : (r.part != 2) = false := by rw [bne, p2]; rfl
  have l6 : ((l.length : Int) == 6) = false := beq_eq_false_iff_ne.2 (by omega); have l6n : ((l.length : Int) != 6) = true := by rw [bne, l6]; rfl
  clear hp hl
  go_wp2_with fail
  refine bodyPost_ret (v := .int .i64 5) (by simp [results, Tryd.results29, go_sem]) rfl ?_
  exact ⟨rfl, HE.out⟩

set_option maxRecDepth 100000 in
set_option maxHeartbeats 4000000 in
theorem rwrong_C52 (w : World) (B R : Nat) (r : Pl.St) (a : Option Addr) (c : Nat) (l : List Int) (h : IsRPl w B R r) (hok : Rok r) (hi : IsInts .u64 w a l) (hg : ∀ x ∈ l, 0 ≤ x ∧ x ≤ 18446744073709551615) (hp : r.part = 2) (hl : l.length = 6) (hy0 : r.s.n ≤ nth l 0) :
    Calls Tryd.prog 29 #[.pointer (some ⟨R, 0, none⟩), .agg #[.string (St [99, 97, 108, 108]), .slice a l.length c, .bool true]] w (fun e w' => e = .returned (.int .i64 10) ∧ Ext w w') := by
  have HG := Lib.hid hg
  clear hg
  obtain ⟨sa, ca, pa, h⟩ := h
  obtain ⟨xa, xc, rfl, -⟩ := own_slice h.specs
  obtain ⟨ya, yc, rfl, -⟩ := own_slice h.calls
  obtain ⟨za, zc, rfl, -⟩ := own_slice h.picks
  have HE0 := (Ext.refl w).alloc (.cells #[.string (St [99, 97, 108, 108]), .slice a l.length c, .bool true] 78)
  have H := Lib.hid (h.ext HE0)
  have HI := Lib.hid (hi.ext HE0)
  have hb := Blk.new w #[.string (St [99, 97, 108, 108]), .slice a l.length c, .bool true] 78
  have HE := Lib.hid HE0
  clear HE0 h hi
  have HL0 := Lib.hid hl
  clear hl
  go_enter Tryd.func29, Tryd.ntmps29
  go_upto_region 1 with (fail)
  generalize w.alloc (.cells #[.string (St [99, 97, 108, 108]), .slice a l.length c, .bool true] 78) = W0 at *
  have q0 := hb.cell 0 (v := .string (St [99, 97, 108, 108])) rfl
  have q1 := hb.cell 1 (v := .slice a l.length c) rfl
  have q2 := hb.cell 2 (v := .bool true) rfl
  clear hb
  have h0 := H.out.here.cell 0 (v := .int .i64 r.s.n) rfl
  have h1 := H.out.here.cell 1 (v := .slice xa r.s.specs.length xc) rfl
  have h2 := H.out.here.cell 2 (v := .slice ya r.s.calls.length yc) rfl
  have h3 := H.out.here.cell 3 (v := .slice za r.s.picks.length zc) rfl
  have h4 := H.out.here.cell 4 (v := .int .i64 r.part) rfl
  have h5 := H.out.here.cell 5 (v := .bool (fullOf r)) rfl
  have hl := HL0.out
  obtain ⟨b, off, rfl, k0⟩ := HI.out.at (i := 0) (by omega)
  rw [Nat.add_zero] at k0
  obtain ⟨b1, off1, e1, k1⟩ := HI.out.at (i := 1) (by omega)
  simp only [Option.some.injEq, Addr.mk.injEq, and_true] at e1
  obtain ⟨rfl, rfl⟩ := e1
  obtain ⟨b2, off2, e2, k2⟩ := HI.out.at (i := 2) (by omega)
  simp only [Option.some.injEq, Addr.mk.injEq, and_true] at e2
  obtain ⟨rfl, rfl⟩ := e2
  have g0 := (HG.out _ (nth_mem l 0 (by omega))).1
  have g1 := (HG.out _ (nth_mem l 1 (by omega))).1
  have g2 := (HG.out _ (nth_mem l 2 (by omega))).1
  have hn := hok.n (by omega)
  have p1 : (r.part == 1) = false := beq_eq_false_iff_ne.2 (by omega); have p1n : (r.part != 1) = true := by rw [bne, p1]; rfl
  have p2 : (r.part == 2) = true := beq_iff_eq.2 (by omega); have p2n : (r.part != 2) = false := by rw [bne, p2]; rfl
  have l6 : ((l.length : Int) == 6) = true := beq_iff_eq.2 (by omega); have l6n : ((l.length : Int) != 6) = false := by rw [bne, l6]; rfl
  have y0d : decide (r.s.n ≤ nth l 0) = true := decide_eq_true (by omega)
  generalize nth l 0 = y0 at *
  generalize nth l 1 = y1 at *
  generalize nth l 2 = y2 at *
  have hl0 : 0 < l.length := by omega
  have hl1 : 1 < l.length := by omega
  have hl2 : 2 < l.length := by omega
  have hn1 := hn.1
  have hn2 := hn.2
  clear hp hn
  clear hl
  go_wp2_with fail
  go_quiet (fail)
  go_wp2_with fail
  refine bodyPost_ret (v := .int .i64 10) (by simp [results, Tryd.results29, go_sem]) rfl ?_
  exact ⟨rfl, HE.out.drewN _⟩

set_option maxRecDepth 100000 in
set_option maxHeartbeats 4000000 in
theorem rwrong_C62 (w : World) (B R : Nat) (r : Pl.St) (a : Option Addr) (c : Nat) (l : List Int) (h : IsRPl w B R r) (hok : Rok r) (hi : IsInts .u64 w a l) (hg : ∀ x ∈ l, 0 ≤ x ∧ x ≤ 18446744073709551615) (hp : r.part = 2) (hl : l.length = 6) (hy0 : ¬ r.s.n ≤ nth l 0) (hy1 : 255 < nth l 1) :
    Calls Tryd.prog 29 #[.pointer (some ⟨R, 0, none⟩), .agg #[.string (St [99, 97, 108, 108]), .slice a l.length c, .bool true]] w (fun e w' => e = .returned (.int .i64 10) ∧ Ext w w') := by
  have HG := Lib.hid hg
  clear hg
  obtain ⟨sa, ca, pa, h⟩ := h
  obtain ⟨xa, xc, rfl, -⟩ := own_slice h.specs
  obtain ⟨ya, yc, rfl, -⟩ := own_slice h.calls
  obtain ⟨za, zc, rfl, -⟩ := own_slice h.picks
  have HE0 := (Ext.refl w).alloc (.cells #[.string (St [99, 97, 108, 108]), .slice a l.length c, .bool true] 78)
  have H := Lib.hid (h.ext HE0)
  have HI := Lib.hid (hi.ext HE0)
  have hb := Blk.new w #[.string (St [99, 97, 108, 108]), .slice a l.length c, .bool true] 78
  have HE := Lib.hid HE0
  clear HE0 h hi
  have HL0 := Lib.hid hl
  clear hl
  go_enter Tryd.func29, Tryd.ntmps29
  go_upto_region 1 with (fail)
  generalize w.alloc (.cells #[.string (St [99, 97, 108, 108]), .slice a l.length c, .bool true] 78) = W0 at *
  have q0 := hb.cell 0 (v := .string (St [99, 97, 108, 108])) rfl
  have q1 := hb.cell 1 (v := .slice a l.length c) rfl
  have q2 := hb.cell 2 (v := .bool true) rfl
  clear hb
  have h0 := H.out.here.cell 0 (v := .int .i64 r.s.n) rfl
  have h1 := H.out.here.cell 1 (v := .slice xa r.s.specs.length xc) rfl
  have h2 := H.out.here.cell 2 (v := .slice ya r.s.calls.length yc) rfl
  have h3 := H.out.here.cell 3 (v := .slice za r.s.picks.length zc) rfl
  have h4 := H.out.here.cell 4 (v := .int .i64 r.part) rfl
  have h5 := H.out.here.cell 5 (v := .bool (fullOf r)) rfl
  have hl := HL0.out
  obtain ⟨b, off, rfl, k0⟩ := HI.out.at (i := 0) (by omega)
  rw [Nat.add_zero] at k0
  obtain ⟨b1, off1, e1, k1⟩ := HI.out.at (i := 1) (by omega)
  simp only [Option.some.injEq, Addr.mk.injEq, and_true] at e1
  obtain ⟨rfl, rfl⟩ := e1
  obtain ⟨b2, off2, e2, k2⟩ := HI.out.at (i := 2) (by omega)
  simp only [Option.some.injEq, Addr.mk.injEq, and_true] at e2
  obtain ⟨rfl, rfl⟩ := e2
  have g0 := (HG.out _ (nth_mem l 0 (by omega))).1
  have g1 := (HG.out _ (nth_mem l 1 (by omega))).1
  have g2 := (HG.out _ (nth_mem l 2 (by omega))).1
  have hn := hok.n (by omega)
  have p1 : (r.part == 1) = false := beq_eq_false_iff_ne.2 (by omega); have p1n : (r.part != 1) = true := by rw [bne, p1]; rfl
  have p2 : (r.part == 2) = true := beq_iff_eq.2 (by omega); have p2n : (r.part != 2) = false := by rw [bne, p2]; rfl
  have l6 : ((l.length : Int) == 6) = true := beq_iff_eq.2 (by omega); have l6n : ((l.length : Int) != 6) = false := by rw [bne, l6]; rfl
  have y0d : decide (r.s.n ≤ nth l 0) = false := decide_eq_false (by omega)
  have y1d : decide (255 < nth l 1) = true := decide_eq_true (by omega)
  generalize nth l 0 = y0 at *
  generalize nth l 1 = y1 at *
  generalize nth l 2 = y2 at *
  have hl0 : 0 < l.length := by omega
  have hl1 : 1 < l.length := by omega
  have hl2 : 2 < l.length := by omega
  have hn1 := hn.1
  have hn2 := hn.2
  clear hp hn
  clear hl
  go_wp2_with fail
  go_quiet (fail)
  go_wp2_with fail
  refine bodyPost_ret (v := .int .i64 10) (by simp [results, Tryd.results29, go_sem]) rfl ?_
  exact ⟨rfl, HE.out.drewN _⟩

set_option maxRecDepth 100000 in
set_option maxHeartbeats 4000000 in
theorem rwrong_C72 (w : World) (B R : Nat) (r : Pl.St) (a : Option Addr) (c : Nat) (l : List Int) (h : IsRPl w B R r) (hok : Rok r) (hi : IsInts .u64 w a l) (hg : ∀ x ∈ l, 0 ≤ x ∧ x ≤ 18446744073709551615) (hp : r.part = 2) (hl : l.length = 6) (hy0 : ¬ r.s.n ≤ nth l 0) (hy1 : ¬ 255 < nth l 1) (hy2 : 255 < nth l 2) :
    Calls Tryd.prog 29 #[.pointer (some ⟨R, 0, none⟩), .agg #[.string (St [99, 97, 108, 108]), .slice a l.length c, .bool true]] w (fun e w' => e = .returned (.int .i64 10) ∧ Ext w w') := by
  have HG := Lib.hid hg
  clear hg
  obtain ⟨sa, ca, pa, h⟩ := h
  obtain ⟨xa, xc, rfl, -⟩ := own_slice h.specs
  obtain ⟨ya, yc, rfl, -⟩ := own_slice h.calls
  obtain ⟨za, zc, rfl, -⟩ := own_slice h.picks
  have HE0 := (Ext.refl w).alloc (.cells #[.string (St [99, 97, 108, 108]), .slice a l.length c, .bool true] 78)
  have H := Lib.hid (h.ext HE0)
  have HI := Lib.hid (hi.ext HE0)
  have hb := Blk.new w #[.string (St [99, 97, 108, 108]), .slice a l.length c, .bool true] 78
  have HE := Lib.hid HE0
  clear HE0 h hi
  have HL0 := Lib.hid hl
  clear hl
  go_enter Tryd.func29, Tryd.ntmps29
  go_upto_region 1 with (fail)
  generalize w.alloc (.cells #[.string (St [99, 97, 108, 108]), .slice a l.length c, .bool true] 78) = W0 at *
  have q0 := hb.cell 0 (v := .string (St [99, 97, 108, 108])) rfl
  have q1 := hb.cell 1 (v := .slice a l.length c) rfl
  have q2 := hb.cell 2 (v := .bool true) rfl
  clear hb
  have h0 := H.out.here.cell 0 (v := .int .i64 r.s.n) rfl
  have h1 := H.out.here.cell 1 (v := .slice xa r.s.specs.length xc) rfl
  have h2 := H.out.here.cell 2 (v := .slice ya r.s.calls.length yc) rfl
  have h3 := H.out.here.cell 3 (v := .slice za r.s.picks.length zc) rfl
  have h4 := H.out.here.cell 4 (v := .int .i64 r.part) rfl
  have h5 := H.out.here.cell 5 (v := .bool (fullOf r)) rfl
  have hl := HL0.out
  obtain ⟨b, off, rfl, k0⟩ := HI.out.at (i := 0) (by omega)
  rw [Nat.add_zero] at k0
  obtain ⟨b1, off1, e1, k1⟩ := HI.out.at (i := 1) (by omega)
  simp only [Option.some.injEq, Addr.mk.injEq, and_true] at e1
  obtain ⟨rfl, rfl⟩ := e1
  obtain ⟨b2, off2, e2, k2⟩ := HI.out.at (i := 2) (by omega)
  simp only [Option.some.injEq, Addr.mk.injEq, and_true] at e2
  obtain ⟨rfl, rfl⟩ := e2
  have g0 := (HG.out _ (nth_mem l 0 (by omega))).1
  have g1 := (HG.out _ (nth_mem l 1 (by omega))).1
  have g2 := (HG.out _ (nth_mem l 2 (by omega))).1
  have hn := hok.n (by omega)
  have p1 : (r.part == 1) = false := beq_eq_false_iff_ne.2 (by omega); have p1n : (r.part != 1) = true := by rw [bne, p1]; rfl
  have p2 : (r.part == 2) = true := beq_iff_eq.2 (by omega); have p2n : (r.part != 2) = false := by rw [bne, p2]; rfl
  have l6 : ((l.length : Int) == 6) = true := beq_iff_eq.2 (by omega); have l6n : ((l.length : Int) != 6) = false := by rw [bne, l6]; rfl
  have y0d : decide (r.s.n ≤ nth l 0) = false := decide_eq_false (by omega)
  have y1d : decide (255 < nth l 1) = false := decide_eq_false (by omega)
  have y2d : decide (255 < nth l 2) = true := decide_eq_true (by omega)
  generalize nth l 0 = y0 at *
  generalize nth l 1 = y1 at *
  generalize nth l 2 = y2 at *
  have hl0 : 0 < l.length := by omega
  have hl1 : 1 < l.length := by omega
  have hl2 : 2 < l.length := by omega
  have hn1 := hn.1
  have hn2 := hn.2
  clear hp hn
  clear hl
  go_wp2_with fail
  go_quiet (fail)
  go_wp2_with fail
  refine bodyPost_ret (v := .int .i64 10) (by simp [results, Tryd.results29, go_sem]) rfl ?_
  exact ⟨rfl, HE.out.drewN _⟩

set_option maxRecDepth 100000 in
set_option maxHeartbeats 4000000 in
theorem rwrong_C82 (w : World) (B R : Nat) (r : Pl.St) (a : Option Addr) (c : Nat) (l : List Int) (h : IsRPl w B R r) (hok : Rok r) (hi : IsInts .u64 w a l) (hg : ∀ x ∈ l, 0 ≤ x ∧ x ≤ 18446744073709551615) (hp : r.part = 2) (hl : l.length = 6) (hy0 : ¬ r.s.n ≤ nth l 0) (hy1 : ¬ 255 < nth l 1) (hy2 : ¬ 255 < nth l 2) (hs : 1000 ≤ r.s.calls.length) :
    Calls Tryd.prog 29 #[.pointer (some ⟨R, 0, none⟩), .agg #[.string (St [99, 97, 108, 108]), .slice a l.length c, .bool true]] w (fun e w' => e = .returned (.int .i64 3) ∧ Ext w w') := by
  have HG := Lib.hid hg
  clear hg
  obtain ⟨sa, ca, pa, h⟩ := h
  obtain ⟨xa, xc, rfl, -⟩ := own_slice h.specs
  obtain ⟨ya, yc, rfl, -⟩ := own_slice h.calls
  obtain ⟨za, zc, rfl, -⟩ := own_slice h.picks
  have HE0 := (Ext.refl w).alloc (.cells #[.string (St [99, 97, 108, 108]), .slice a l.length c, .bool true] 78)
  have H := Lib.hid (h.ext HE0)
  have HI := Lib.hid (hi.ext HE0)
  have hb := Blk.new w #[.string (St [99, 97, 108, 108]), .slice a l.length c, .bool true] 78
  have HE := Lib.hid HE0
  clear HE0 h hi
  have HL0 := Lib.hid hl
  clear hl
  go_enter Tryd.func29, Tryd.ntmps29
  go_upto_region 1 with (fail)
  generalize w.alloc (.cells #[.string (St [99, 97, 108, 108]), .slice a l.length c, .bool true] 78) = W0 at *
  have q0 := hb.cell 0 (v := .string (St [99, 97, 108, 108])) rfl
  have q1 := hb.cell 1 (v := .slice a l.length c) rfl
  have q2 := hb.cell 2 (v := .bool true) rfl
  clear hb
  have h0 := H.out.here.cell 0 (v := .int .i64 r.s.n) rfl
  have h1 := H.out.here.cell 1 (v := .slice xa r.s.specs.length xc) rfl
  have h2 := H.out.here.cell 2 (v := .slice ya r.s.calls.length yc) rfl
  have h3 := H.out.here.cell 3 (v := .slice za r.s.picks.length zc) rfl
  have h4 := H.out.here.cell 4 (v := .int .i64 r.part) rfl
  have h5 := H.out.here.cell 5 (v := .bool (fullOf r)) rfl
  have hl := HL0.out
  obtain ⟨b, off, rfl, k0⟩ := HI.out.at (i := 0) (by omega)
  rw [Nat.add_zero] at k0
  obtain ⟨b1, off1, e1, k1⟩ := HI.out.at (i := 1) (by omega)
  simp only [Option.some.injEq, Addr.mk.injEq, and_true] at e1
  obtain ⟨rfl, rfl⟩ := e1
  obtain ⟨b2, off2, e2, k2⟩ := HI.out.at (i := 2) (by omega)
  simp only [Option.some.injEq, Addr.mk.injEq, and_true] at e2
  obtain ⟨rfl, rfl⟩ := e2
  have g0 := (HG.out _ (nth_mem l 0 (by omega))).1
  have g1 := (HG.out _ (nth_mem l 1 (by omega))).1
  have g2 := (HG.out _ (nth_mem l 2 (by omega))).1
  have hn := hok.n (by omega)
  have p1 : (r.part == 1) = false := beq_eq_false_iff_ne.2 (by omega); have p1n : (r.part != 1) = true := by rw [bne, p1]; rfl
  have p2 : (r.part == 2) = true := beq_iff_eq.2 (by omega); have p2n : (r.part != 2) = false := by rw [bne, p2]; rfl
  have l6 : ((l.length : Int) == 6) = true := beq_iff_eq.2 (by omega); have l6n : ((l.length : Int) != 6) = false := by rw [bne, l6]; rfl
  have y0d : decide (r.s.n ≤ nth l 0) = false := decide_eq_false (by omega)
  have y1d : decide (255 < nth l 1) = false := decide_eq_false (by omega)
  have y2d : decide (255 < nth l 2) = false := decide_eq_false (by omega)
  have s8 : decide ((1000 : Int) ≤ (r.s.calls.length : Int)) = true := decide_eq_true (by omega)
  generalize nth l 0 = y0 at *
  generalize nth l 1 = y1 at *
  generalize nth l 2 = y2 at *
  have hl0 : 0 < l.length := by omega
  have hl1 : 1 < l.length := by omega
  have hl2 : 2 < l.length := by omega
  have hn1 := hn.1
  have hn2 := hn.2
  clear hp hn
  clear hl
  go_wp2_with fail
  go_quiet (fail)
  go_wp2_with fail
  refine bodyPost_ret (v := .int .i64 3) (by simp [results, Tryd.results29, go_sem]) rfl ?_
  exact ⟨rfl, HE.out.drewN _⟩

set_option maxRecDepth 100000 in
set_option maxHeartbeats 4000000 in
theorem rwrong_C12 (w : World) (B R : Nat) (r : Pl.St) (a : Option Addr) (c : Nat) (l : List Int) (h : IsRPl w B R r) (hok : Rok r) (hi : IsInts .u64 w a l) (hg : ∀ x ∈ l, 0 ≤ x ∧ x ≤ 18446744073709551615) (hp : r.part = 2) (hl : l.length = 6) (hy0 : ¬ r.s.n ≤ nth l 0) (hy1 : ¬ 255 < nth l 1) (hy2 : ¬ 255 < nth l 2) (hs : ¬ 1000 ≤ r.s.calls.length) :
    Calls Tryd.prog 29 #[.pointer (some ⟨R, 0, none⟩), .agg #[.string (St [99, 97, 108, 108]), .slice a l.length c, .bool true]] w (fun e w' => e = .returned (.int .i64 0) ∧ Ext w w') := by
  have HG := Lib.hid hg
  clear hg
  obtain ⟨sa, ca, pa, h⟩ := h
  obtain ⟨xa, xc, rfl, -⟩ := own_slice h.specs
  obtain ⟨ya, yc, rfl, -⟩ := own_slice h.calls
  obtain ⟨za, zc, rfl, -⟩ := own_slice h.picks
  have HE0 := (Ext.refl w).alloc (.cells #[.string (St [99, 97, 108, 108]), .slice a l.length c, .bool true] 78)
  have H := Lib.hid (h.ext HE0)
  have HI := Lib.hid (hi.ext HE0)
  have hb := Blk.new w #[.string (St [99, 97, 108, 108]), .slice a l.length c, .bool true] 78
  have HE := Lib.hid HE0
  clear HE0 h hi
  have HL0 := Lib.hid hl
  clear hl
  go_enter Tryd.func29, Tryd.ntmps29
  go_upto_region 1 with (fail)
  generalize w.alloc (.cells #[.string (St [99, 97, 108, 108]), .slice a l.length c, .bool true] 78) = W0 at *
  have q0 := hb.cell 0 (v := .string (St [99, 97, 108, 108])) rfl
  have q1 := hb.cell 1 (v := .slice a l.length c) rfl
  have q2 := hb.cell 2 (v := .bool true) rfl
  clear hb
  have h0 := H.out.here.cell 0 (v := .int .i64 r.s.n) rfl
  have h1 := H.out.here.cell 1 (v := .slice xa r.s.specs.length xc) rfl
  have h2 := H.out.here.cell 2 (v := .slice ya r.s.calls.length yc) rfl
  have h3 := H.out.here.cell 3 (v := .slice za r.s.picks.length zc) rfl
  have h4 := H.out.here.cell 4 (v := .int .i64 r.part) rfl
  have h5 := H.out.here.cell 5 (v := .bool (fullOf r)) rfl
  have hl := HL0.out
  obtain ⟨b, off, rfl, k0⟩ := HI.out.at (i := 0) (by omega)
  rw [Nat.add_zero] at k0
  obtain ⟨b1, off1, e1, k1⟩ := HI.out.at (i := 1) (by omega)
  simp only [Option.some.injEq, Addr.mk.injEq, and_true] at e1
  obtain ⟨rfl, rfl⟩ := e1
  obtain ⟨b2, off2, e2, k2⟩ := HI.out.at (i := 2) (by omega)
  simp only [Option.some.injEq, Addr.mk.injEq, and_true] at e2
  obtain ⟨rfl, rfl⟩ := e2
  have g0 := (HG.out _ (nth_mem l 0 (by omega))).1
  have g1 := (HG.out _ (nth_mem l 1 (by omega))).1
  have g2 := (HG.out _ (nth_mem l 2 (by omega))).1
  have hn := hok.n (by omega)
  have p1 : (r.part == 1) = false := beq_eq_false_iff_ne.2 (by omega); have p1n : (r.part != 1) = true := by rw [bne, p1]; rfl
  have p2 : (r.part == 2) = true := beq_iff_eq.2 (by omega); have p2n : (r.part != 2) = false := by rw [bne, p2]; rfl
  have l6 : ((l.length : Int) == 6) = true := beq_iff_eq.2 (by omega); have l6n : ((l.length : Int) != 6) = false := by rw [bne, l6]; rfl
  have y0d : decide (r.s.n ≤ nth l 0) = false := decide_eq_false (by omega)
  have y1d : decide (255 < nth l 1) = false := decide_eq_false (by omega)
  have y2d : decide (255 < nth l 2) = false := decide_eq_false (by omega)
  have s8 : decide ((1000 : Int) ≤ (r.s.calls.length : Int)) = false := decide_eq_false (by omega)
  generalize nth l 0 = y0 at *
  generalize nth l 1 = y1 at *
  generalize nth l 2 = y2 at *
  have hl0 : 0 < l.length := by omega
  have hl1 : 1 < l.length := by omega
  have hl2 : 2 < l.length := by omega
  have hn1 := hn.1
  have hn2 := hn.2
  clear hp hn
  clear hl
  go_wp2_with fail
  go_quiet (fail)
  go_wp2_with fail
  refine bodyPost_ret (v := .int .i64 0) (by simp [results, Tryd.results29, go_sem]) rfl ?_
  exact ⟨rfl, HE.out.drewN _⟩

set_option maxRecDepth 100000 in
set_option maxHeartbeats 4000000 in
theorem rwrong_P2 (w : World) (B R : Nat) (r : Pl.St) (a : Option Addr) (c : Nat) (l : List Int) (h : IsRPl w B R r) (hok : Rok r) (hi : IsInts .u64 w a l) (hg : ∀ x ∈ l, 0 ≤ x ∧ x ≤ 18446744073709551615) (hp : r.part = 0) :
    Calls Tryd.prog 29 #[.pointer (some ⟨R, 0, none⟩), .agg #[.string (St [112, 105, 99, 107, 115]), .slice a l.length c, .bool true]] w (fun e w' => e = .returned (.int .i64 5) ∧ Ext w w') := by
  have HG := Lib.hid hg
  clear hg
  obtain ⟨sa, ca, pa, h⟩ := h
  obtain ⟨xa, xc, rfl, -⟩ := own_slice h.specs
  obtain ⟨ya, yc, rfl, -⟩ := own_slice h.calls
  obtain ⟨za, zc, rfl, -⟩ := own_slice h.picks
  have HE0 := (Ext.refl w).alloc (.cells #[.string (St [112, 105, 99, 107, 115]), .slice a l.length c, .bool true] 78)
  have H := Lib.hid (h.ext HE0)
  have HI := Lib.hid (hi.ext HE0)
  have hb := Blk.new w #[.string (St [112, 105, 99, 107, 115]), .slice a l.length c, .bool true] 78
  have HE := Lib.hid HE0
  clear HE0 h hi
  go_enter Tryd.func29, Tryd.ntmps29
  go_upto_region 1 with (fail)
  generalize w.alloc (.cells #[.string (St [112, 105, 99, 107, 115]), .slice a l.length c, .bool true] 78) = W0 at *
  have q0 := hb.cell 0 (v := .string (St [112, 105, 99, 107, 115])) rfl
  have q1 := hb.cell 1 (v := .slice a l.length c) rfl
  have q2 := hb.cell 2 (v := .bool true) rfl
  clear hb
  have h0 := H.out.here.cell 0 (v := .int .i64 r.s.n) rfl
  have h1 := H.out.here.cell 1 (v := .slice xa r.s.specs.length xc) rfl
  have h2 := H.out.here.cell 2 (v := .slice ya r.s.calls.length yc) rfl
  have h3 := H.out.here.cell 3 (v := .slice za r.s.picks.length zc) rfl
  have h4 := H.out.here.cell 4 (v := .int .i64 r.part) rfl
  have h5 := H.out.here.cell 5 (v := .bool (fullOf r)) rfl
  have p0 : (r.part == 0) = true := beq_iff_eq.2 (by omega); have p0n : (r.part != 0) = false := by rw [bne, p0]; rfl
  clear hp
  go_wp2_with fail
  refine bodyPost_ret (v := .int .i64 5) (by simp [results, Tryd.results29, go_sem]) rfl ?_
  exact ⟨rfl, HE.out⟩

set_option maxRecDepth 100000 in
set_option maxHeartbeats 4000000 in
theorem rwrong_P3 (w : World) (B R : Nat) (r : Pl.St) (a : Option Addr) (c : Nat) (l : List Int) (h : IsRPl w B R r) (hok : Rok r) (hi : IsInts .u64 w a l) (hg : ∀ x ∈ l, 0 ≤ x ∧ x ≤ 18446744073709551615) (hp : r.part = 3) (hla : r.last = true) :
    Calls Tryd.prog 29 #[.pointer (some ⟨R, 0, none⟩), .agg #[.string (St [112, 105, 99, 107, 115]), .slice a l.length c, .bool true]] w (fun e w' => e = .returned (.int .i64 5) ∧ Ext w w') := by
  have HG := Lib.hid hg
  clear hg
  obtain ⟨sa, ca, pa, h⟩ := h
  obtain ⟨xa, xc, rfl, -⟩ := own_slice h.specs
  obtain ⟨ya, yc, rfl, -⟩ := own_slice h.calls
  obtain ⟨za, zc, rfl, -⟩ := own_slice h.picks
  have HE0 := (Ext.refl w).alloc (.cells #[.string (St [112, 105, 99, 107, 115]), .slice a l.length c, .bool true] 78)
  have H := Lib.hid (h.ext HE0)
  have HI := Lib.hid (hi.ext HE0)
  have hb := Blk.new w #[.string (St [112, 105, 99, 107, 115]), .slice a l.length c, .bool true] 78
  have HE := Lib.hid HE0
  clear HE0 h hi
  go_enter Tryd.func29, Tryd.ntmps29
  go_upto_region 1 with (fail)
  generalize w.alloc (.cells #[.string (St [112, 105, 99, 107, 115]), .slice a l.length c, .bool true] 78) = W0 at *
  have q0 := hb.cell 0 (v := .string (St [112, 105, 99, 107, 115])) rfl
  have q1 := hb.cell 1 (v := .slice a l.length c) rfl
  have q2 := hb.cell 2 (v := .bool true) rfl
  clear hb
  have h0 := H.out.here.cell 0 (v := .int .i64 r.s.n) rfl
  have h1 := H.out.here.cell 1 (v := .slice xa r.s.specs.length xc) rfl
  have h2 := H.out.here.cell 2 (v := .slice ya r.s.calls.length yc) rfl
  have h3 := H.out.here.cell 3 (v := .slice za r.s.picks.length zc) rfl
  have h4 := H.out.here.cell 4 (v := .int .i64 r.part) rfl
  have h5 := H.out.here.cell 5 (v := .bool (fullOf r)) rfl
  have hfu : fullOf r = false := by unfold fullOf; simp [hp, hla]
  rw [hfu] at h5
  have p0 : (r.part == 0) = false := beq_eq_false_iff_ne.2 (by omega); have p0n : (r.part != 0) = true := by rw [bne, p0]; rfl
  have p3 : (r.part == 3) = true := beq_iff_eq.2 (by omega); have p3n : (r.part != 3) = false := by rw [bne, p3]; rfl
  clear hp hla
  go_wp2_with fail
  refine bodyPost_ret (v := .int .i64 5) (by simp [results, Tryd.results29, go_sem]) rfl ?_
  exact ⟨rfl, HE.out⟩

set_option maxRecDepth 100000 in
set_option maxHeartbeats 4000000 in
theorem rwrong_P4a (w : World) (B R : Nat) (r : Pl.St) (a : Option Addr) (c : Nat) (l : List Int) (h : IsRPl w B R r) (hok : Rok r) (hi : IsInts .u64 w a l) (hg : ∀ x ∈ l, 0 ≤ x ∧ x ≤ 18446744073709551615) (hp : r.part ≠ 0) (hp3 : r.part ≠ 3) (hl : l.length < 1) :
    Calls Tryd.prog 29 #[.pointer (some ⟨R, 0, none⟩), .agg #[.string (St [112, 105, 99, 107, 115]), .slice a l.length c, .bool true]] w (fun e w' => e = .returned (.int .i64 5) ∧ Ext w w') := by
  have HG := Lib.hid hg
  clear hg
  obtain ⟨sa, ca, pa, h⟩ := h
  obtain ⟨xa, xc, rfl, -⟩ := own_slice h.specs
  obtain ⟨ya, yc, rfl, -⟩ := own_slice h.calls
  obtain ⟨za, zc, rfl, -⟩ := own_slice h.picks
  have HE0 := (Ext.refl w).alloc (.cells #[.string (St [112, 105, 99, 107, 115]), .slice a l.length c, .bool true] 78)
  have H := Lib.hid (h.ext HE0)
  have HI := Lib.hid (hi.ext HE0)
  have hb := Blk.new w #[.string (St [112, 105, 99, 107, 115]), .slice a l.length c, .bool true] 78
  have HE := Lib.hid HE0
  clear HE0 h hi
  go_enter Tryd.func29, Tryd.ntmps29
  go_upto_region 1 with (fail)
  generalize w.alloc (.cells #[.string (St [112, 105, 99, 107, 115]), .slice a l.length c, .bool true] 78) = W0 at *
  have q0 := hb.cell 0 (v := .string (St [112, 105, 99, 107, 115])) rfl
  have q1 := hb.cell 1 (v := .slice a l.length c) rfl
  have q2 := hb.cell 2 (v := .bool true) rfl
  clear hb
  have h0 := H.out.here.cell 0 (v := .int .i64 r.s.n) rfl
  have h1 := H.out.here.cell 1 (v := .slice xa r.s.specs.length xc) rfl
  have h2 := H.out.here.cell 2 (v := .slice ya r.s.calls.length yc) rfl
  have h3 := H.out.here.cell 3 (v := .slice za r.s.picks.length zc) rfl
  have h4 := H.out.here.cell 4 (v := .int .i64 r.part) rfl
  have h5 := H.out.here.cell 5 (v := .bool (fullOf r)) rfl
  have p0 : (r.part == 0) = false := beq_eq_false_iff_ne.2 (by omega); have p0n : (r.part != 0) = true := by rw [bne, p0]; rfl
  have p3 : (r.part == 3) = false := beq_eq_false_iff_ne.2 (by omega); have p3n : (r.part != 3) = true := by rw [bne, p3]; rfl
  have l1 : decide ((l.length : Int) < 1) = true := decide_eq_true (by omega)
  clear hp hp3
  go_wp2_with fail
  refine bodyPost_ret (v := .int .i64 5) (by simp [results, Tryd.results29, go_sem]) rfl ?_
  exact ⟨rfl, HE.out⟩

set_option maxRecDepth 100000 in
set_option maxHeartbeats 4000000 in
theorem rwrong_P5a (w : World) (B R : Nat) (r : Pl.St) (a : Option Addr) (c : Nat) (l : List Int) (h : IsRPl w B R r) (hok : Rok r) (hi : IsInts .u64 w a l) (hg : ∀ x ∈ l, 0 ≤ x ∧ x ≤ 18446744073709551615) (hp : r.part ≠ 0) (hp3 : r.part ≠ 3) (hl1 : ¬ l.length < 1) (hl : 16 < l.length) :
    Calls Tryd.prog 29 #[.pointer (some ⟨R, 0, none⟩), .agg #[.string (St [112, 105, 99, 107, 115]), .slice a l.length c, .bool true]] w (fun e w' => e = .returned (.int .i64 5) ∧ Ext w w') := by
  have HG := Lib.hid hg
  clear hg
  obtain ⟨sa, ca, pa, h⟩ := h
  obtain ⟨xa, xc, rfl, -⟩ := own_slice h.specs
  obtain ⟨ya, yc, rfl, -⟩ := own_slice h.calls
  obtain ⟨za, zc, rfl, -⟩ := own_slice h.picks
  have HE0 := (Ext.refl w).alloc (.cells #[.string (St [112, 105, 99, 107, 115]), .slice a l.length c, .bool true] 78)
  have H := Lib.hid (h.ext HE0)
  have HI := Lib.hid (hi.ext HE0)
  have hb := Blk.new w #[.string (St [112, 105, 99, 107, 115]), .slice a l.length c, .bool true] 78
  have HE := Lib.hid HE0
  clear HE0 h hi
  go_enter Tryd.func29, Tryd.ntmps29
  go_upto_region 1 with (fail)
  generalize w.alloc (.cells #[.string (St [112, 105, 99, 107, 115]), .slice a l.length c, .bool true] 78) = W0 at *
  have q0 := hb.cell 0 (v := .string (St [112, 105, 99, 107, 115])) rfl
  have q1 := hb.cell 1 (v := .slice a l.length c) rfl
  have q2 := hb.cell 2 (v := .bool true) rfl
  clear hb
  have h0 := H.out.here.cell 0 (v := .int .i64 r.s.n) rfl
  have h1 := H.out.here.cell 1 (v := .slice xa r.s.specs.length xc) rfl
  have h2 := H.out.here.cell 2 (v := .slice ya r.s.calls.length yc) rfl
  have h3 := H.out.here.cell 3 (v := .slice za r.s.picks.length zc) rfl
  have h4 := H.out.here.cell 4 (v := .int .i64 r.part) rfl
  have h5 := H.out.here.cell 5 (v := .bool (fullOf r)) rfl
  have p0 : (r.part == 0) = false := beq_eq_false_iff_ne.2 (by omega); have p0n : (r.part != 0) = true := by rw [bne, p0]; rfl
  have p3 : (r.part == 3) = false := beq_eq_false_iff_ne.2 (by omega); have p3n : (r.part != 3) = true := by rw [bne, p3]; rfl
  have l1 : decide ((l.length : Int) < 1) = false := decide_eq_false (by omega)
  have l16 : decide ((16 : Int) < (l.length : Int)) = true := decide_eq_true (by omega)
  clear hp hp3
  go_wp2_with fail
  refine bodyPost_ret (v := .int .i64 5) (by simp [results, Tryd.results29, go_sem]) rfl ?_
  exact ⟨rfl, HE.out⟩

set_option maxRecDepth 100000 in
set_option maxHeartbeats 4000000 in
theorem rwrong_P1a (w : World) (B R : Nat) (r : Pl.St) (a : Option Addr) (c : Nat) (l : List Int) (h : IsRPl w B R r) (hok : Rok r) (hi : IsInts .u64 w a l) (hg : ∀ x ∈ l, 0 ≤ x ∧ x ≤ 18446744073709551615) (hp : r.part ≠ 0) (hp3 : r.part ≠ 3) (hl1 : ¬ l.length < 1) (hl : ¬ 16 < l.length) (k : Int) (hk : (if l.any (fun x => decide (255 < x)) = true then (10 : Int) else if 65536 < r.s.picks.length + l.length then 3 else 0) = k) :
    Calls Tryd.prog 29 #[.pointer (some ⟨R, 0, none⟩), .agg #[.string (St [112, 105, 99, 107, 115]), .slice a l.length c, .bool true]] w (fun e w' => e = .returned (.int .i64 k) ∧ Ext w w') := by
  have HG := Lib.hid hg
  clear hg
  obtain ⟨sa, ca, pa, h⟩ := h
  obtain ⟨xa, xc, rfl, -⟩ := own_slice h.specs
  obtain ⟨ya, yc, rfl, -⟩ := own_slice h.calls
  obtain ⟨za, zc, rfl, -⟩ := own_slice h.picks
  have HE0 := (Ext.refl w).alloc (.cells #[.string (St [112, 105, 99, 107, 115]), .slice a l.length c, .bool true] 78)
  have H := Lib.hid (h.ext HE0)
  have HI := Lib.hid (hi.ext HE0)
  have hb := Blk.new w #[.string (St [112, 105, 99, 107, 115]), .slice a l.length c, .bool true] 78
  have HE := Lib.hid HE0
  clear HE0 h hi
  go_enter Tryd.func29, Tryd.ntmps29
  go_upto_region 1 with (fail)
  generalize w.alloc (.cells #[.string (St [112, 105, 99, 107, 115]), .slice a l.length c, .bool true] 78) = W0 at *
  have q0 := hb.cell 0 (v := .string (St [112, 105, 99, 107, 115])) rfl
  have q1 := hb.cell 1 (v := .slice a l.length c) rfl
  have q2 := hb.cell 2 (v := .bool true) rfl
  clear hb
  have h0 := H.out.here.cell 0 (v := .int .i64 r.s.n) rfl
  have h1 := H.out.here.cell 1 (v := .slice xa r.s.specs.length xc) rfl
  have h2 := H.out.here.cell 2 (v := .slice ya r.s.calls.length yc) rfl
  have h3 := H.out.here.cell 3 (v := .slice za r.s.picks.length zc) rfl
  have h4 := H.out.here.cell 4 (v := .int .i64 r.part) rfl
  have h5 := H.out.here.cell 5 (v := .bool (fullOf r)) rfl
  have p0 : (r.part == 0) = false := beq_eq_false_iff_ne.2 (by omega); have p0n : (r.part != 0) = true := by rw [bne, p0]; rfl
  have p3 : (r.part == 3) = false := beq_eq_false_iff_ne.2 (by omega); have p3n : (r.part != 3) = true := by rw [bne, p3]; rfl
  have l1 : decide ((l.length : Int) < 1) = false := decide_eq_false (by omega)
  have l16 : decide ((16 : Int) < (l.length : Int)) = false := decide_eq_false (by omega)
  clear hp hp3
  have hmm : (if l.any (fun x => decide (255 < x)) = true then (10 : Int) else if 65536 < r.s.picks.length + l.length then 3 else 0) = k := hk
  have HK := Lib.hid hmm
  clear hmm hk
  have hpk := hok.picks
  go_wp2_with fail
  go_loop [152] (fun u => ∃ i : Nat, i ≤ l.length ∧ u = .int .i64 (i : Int) ∧ Hid (∀ x ∈ l.take i, x ≤ 255)) (fun u => l.length - (intOf u).toNat)
  case atStart => exact ⟨0, Nat.zero_le _, rfl, Lib.hid (fun x hx => by cases hx)⟩
  case round =>
    obtain ⟨i, hil, rfl, HL⟩ := hrel
    by_cases hlt : i < l.length
    · obtain ⟨b, off, rfl, e1⟩ := HI.out.at hlt
      have HS := Lib.hid (take_snoc l i hlt)
      have HM := Lib.hid (nth_mem l i hlt)
      have g0 := (HG.out _ HM.out).1
      generalize nth l i = x at *
      by_cases hx : 255 < x
      · have HTK : Hid (k = 10) := Lib.hid (by rw [← HK.out]; refine if_pos ?_; rw [List.any_eq_true]; exact ⟨x, HM.out, by simpa using hx⟩)
        have dx : decide (255 < x) = true := decide_eq_true hx
        go_wp2_with fail
        refine bodyPost_ret (v := .int .i64 10) (by simp [results, Tryd.results29, go_sem]) rfl ?_
        exact ⟨by rw [HTK.out], HE.out⟩
      · have dx : decide (255 < x) = false := decide_eq_false hx
        go_wp2_with fail
        go_roundw
        case rel =>
          refine ⟨i + 1, by omega, by go_num, Lib.hid ?_⟩
          rw [HS.out]
          intro z hz
          rcases List.mem_append.1 hz with h | h
          · exact HL.out z h
          · simp only [List.mem_singleton] at h; rw [h]; omega
        case measure => simp [intOf]; omega
    · obtain rfl : i = l.length := by omega
      rw [List.take_length] at HL
      have HN : Hid ((if 65536 < r.s.picks.length + l.length then (3 : Int) else 0) = k) := Lib.hid (by
        rw [← HK.out]
        refine (if_neg ?_).symm
        rw [List.any_eq_true]
        rintro ⟨z, hz, h2⟩
        have := HL.out z hz
        simp at h2; omega)
      by_cases hp6 : 65536 < r.s.picks.length + l.length
      · have dp : decide ((65536 : Int) < (r.s.picks.length : Int) + (l.length : Int)) = true := decide_eq_true (by omega)
        go_wp2_with fail
        refine bodyPost_ret (v := .int .i64 3) (by simp [results, Tryd.results29, go_sem]) rfl ?_
        exact ⟨by rw [← HN.out, if_pos hp6], HE.out⟩
      · have dp : decide ((65536 : Int) < (r.s.picks.length : Int) + (l.length : Int)) = false := decide_eq_false (by omega)
        go_wp2_with fail
        refine bodyPost_ret (v := .int .i64 0) (by simp [results, Tryd.results29, go_sem]) rfl ?_
        exact ⟨by rw [← HN.out, if_neg hp6], HE.out⟩

set_option maxRecDepth 100000 in
set_option maxHeartbeats 4000000 in
theorem rwrong_P4b (w : World) (B R : Nat) (r : Pl.St) (a : Option Addr) (c : Nat) (l : List Int) (h : IsRPl w B R r) (hok : Rok r) (hi : IsInts .u64 w a l) (hg : ∀ x ∈ l, 0 ≤ x ∧ x ≤ 18446744073709551615) (hp : r.part = 3) (hla : r.last = false) (hl : l.length < 1) :
    Calls Tryd.prog 29 #[.pointer (some ⟨R, 0, none⟩), .agg #[.string (St [112, 105, 99, 107, 115]), .slice a l.length c, .bool true]] w (fun e w' => e = .returned (.int .i64 5) ∧ Ext w w') := by
  have HG := Lib.hid hg
  clear hg
  obtain ⟨sa, ca, pa, h⟩ := h
  obtain ⟨xa, xc, rfl, -⟩ := own_slice h.specs
  obtain ⟨ya, yc, rfl, -⟩ := own_slice h.calls
  obtain ⟨za, zc, rfl, -⟩ := own_slice h.picks
  have HE0 := (Ext.refl w).alloc (.cells #[.string (St [112, 105, 99, 107, 115]), .slice a l.length c, .bool true] 78)
  have H := Lib.hid (h.ext HE0)
  have HI := Lib.hid (hi.ext HE0)
  have hb := Blk.new w #[.string (St [112, 105, 99, 107, 115]), .slice a l.length c, .bool true] 78
  have HE := Lib.hid HE0
  clear HE0 h hi
  go_enter Tryd.func29, Tryd.ntmps29
  go_upto_region 1 with (fail)
  generalize w.alloc (.cells #[.string (St [112, 105, 99, 107, 115]), .slice a l.length c, .bool true] 78) = W0 at *
  have q0 := hb.cell 0 (v := .string (St [112, 105, 99, 107, 115])) rfl
  have q1 := hb.cell 1 (v := .slice a l.length c) rfl
  have q2 := hb.cell 2 (v := .bool true) rfl
  clear hb
  have h0 := H.out.here.cell 0 (v := .int .i64 r.s.n) rfl
  have h1 := H.out.here.cell 1 (v := .slice xa r.s.specs.length xc) rfl
  have h2 := H.out.here.cell 2 (v := .slice ya r.s.calls.length yc) rfl
  have h3 := H.out.here.cell 3 (v := .slice za r.s.picks.length zc) rfl
  have h4 := H.out.here.cell 4 (v := .int .i64 r.part) rfl
  have h5 := H.out.here.cell 5 (v := .bool (fullOf r)) rfl
  have hfu : fullOf r = true := by unfold fullOf; simp [hp, hla]
  rw [hfu] at h5
  have p0 : (r.part == 0) = false := beq_eq_false_iff_ne.2 (by omega); have p0n : (r.part != 0) = true := by rw [bne, p0]; rfl
  have p3 : (r.part == 3) = true := beq_iff_eq.2 (by omega); have p3n : (r.part != 3) = false := by rw [bne, p3]; rfl
  have l1 : decide ((l.length : Int) < 1) = true := decide_eq_true (by omega)
  clear hp hla
  go_wp2_with fail
  refine bodyPost_ret (v := .int .i64 5) (by simp [results, Tryd.results29, go_sem]) rfl ?_
  exact ⟨rfl, HE.out⟩

set_option maxRecDepth 100000 in
set_option maxHeartbeats 4000000 in
theorem rwrong_P5b (w : World) (B R : Nat) (r : Pl.St) (a : Option Addr) (c : Nat) (l : List Int) (h : IsRPl w B R r) (hok : Rok r) (hi : IsInts .u64 w a l) (hg : ∀ x ∈ l, 0 ≤ x ∧ x ≤ 18446744073709551615) (hp : r.part = 3) (hla : r.last = false) (hl1 : ¬ l.length < 1) (hl : 16 < l.length) :
    Calls Tryd.prog 29 #[.pointer (some ⟨R, 0, none⟩), .agg #[.string (St [112, 105, 99, 107, 115]), .slice a l.length c, .bool true]] w (fun e w' => e = .returned (.int .i64 5) ∧ Ext w w') := by
  have HG := Lib.hid hg
  clear hg
  obtain ⟨sa, ca, pa, h⟩ := h
  obtain ⟨xa, xc, rfl, -⟩ := own_slice h.specs
  obtain ⟨ya, yc, rfl, -⟩ := own_slice h.calls
  obtain ⟨za, zc, rfl, -⟩ := own_slice h.picks
  have HE0 := (Ext.refl w).alloc (.cells #[.string (St [112, 105, 99, 107, 115]), .slice a l.length c, .bool true] 78)
  have H := Lib.hid (h.ext HE0)
  have HI := Lib.hid (hi.ext HE0)
  have hb := Blk.new w #[.string (St [112, 105, 99, 107, 115]), .slice a l.length c, .bool true] 78
  have HE := Lib.hid HE0
  clear HE0 h hi
  go_enter Tryd.func29, Tryd.ntmps29
  go_upto_region 1 with (fail)
  generalize w.alloc (.cells #[.string (St [112, 105, 99, 107, 115]), .slice a l.length c, .bool true] 78) = W0 at *
  have q0 := hb.cell 0 (v := .string (St [112, 105, 99, 107, 115])) rfl
  have q1 := hb.cell 1 (v := .slice a l.length c) rfl
  have q2 := hb.cell 2 (v := .bool true) rfl
  clear hb
  have h0 := H.out.here.cell 0 (v := .int .i64 r.s.n) rfl
  have h1 := H.out.here.cell 1 (v := .slice xa r.s.specs.length xc) rfl
  have h2 := H.out.here.cell 2 (v := .slice ya r.s.calls.length yc) rfl
  have h3 := H.out.here.cell 3 (v := .slice za r.s.picks.length zc) rfl
  have h4 := H.out.here.cell 4 (v := .int .i64 r.part) rfl
  have h5 := H.out.here.cell 5 (v := .bool (fullOf r)) rfl
  have hfu : fullOf r = true := by unfold fullOf; simp [hp, hla]
  rw [hfu] at h5
  have p0 : (r.part == 0) = false := beq_eq_false_iff_ne.2 (by omega); have p0n : (r.part != 0) = true := by rw [bne, p0]; rfl
  have p3 : (r.part == 3) = true := beq_iff_eq.2 (by omega); have p3n : (r.part != 3) = false := by rw [bne, p3]; rfl
  have l1 : decide ((l.length : Int) < 1) = false := decide_eq_false (by omega)
  have l16 : decide ((16 : Int) < (l.length : Int)) = true := decide_eq_true (by omega)
  clear hp hla
  go_wp2_with fail
  refine bodyPost_ret (v := .int .i64 5) (by simp [results, Tryd.results29, go_sem]) rfl ?_
  exact ⟨rfl, HE.out⟩

set_option maxRecDepth 100000 in
set_option maxHeartbeats 4000000 in
theorem rwrong_P1b (w : World) (B R : Nat) (r : Pl.St) (a : Option Addr) (c : Nat) (l : List Int) (h : IsRPl w B R r) (hok : Rok r) (hi : IsInts .u64 w a l) (hg : ∀ x ∈ l, 0 ≤ x ∧ x ≤ 18446744073709551615) (hp : r.part = 3) (hla : r.last = false) (hl1 : ¬ l.length < 1) (hl : ¬ 16 < l.length) (k : Int) (hk : (if l.any (fun x => decide (255 < x)) = true then (10 : Int) else if 65536 < r.s.picks.length + l.length then 3 else 0) = k) :
    Calls Tryd.prog 29 #[.pointer (some ⟨R, 0, none⟩), .agg #[.string (St [112, 105, 99, 107, 115]), .slice a l.length c, .bool true]] w (fun e w' => e = .returned (.int .i64 k) ∧ Ext w w') := by
  have HG := Lib.hid hg
  clear hg
  obtain ⟨sa, ca, pa, h⟩ := h
  obtain ⟨xa, xc, rfl, -⟩ := own_slice h.specs
  obtain ⟨ya, yc, rfl, -⟩ := own_slice h.calls
  obtain ⟨za, zc, rfl, -⟩ := own_slice h.picks
  have HE0 := (Ext.refl w).alloc (.cells #[.string (St [112, 105, 99, 107, 115]), .slice a l.length c, .bool true] 78)
  have H := Lib.hid (h.ext HE0)
  have HI := Lib.hid (hi.ext HE0)
  have hb := Blk.new w #[.string (St [112, 105, 99, 107, 115]), .slice a l.length c, .bool true] 78
  have HE := Lib.hid HE0
  clear HE0 h hi
  go_enter Tryd.func29, Tryd.ntmps29
  go_upto_region 1 with (fail)
  generalize w.alloc (.cells #[.string (St [112, 105, 99, 107, 115]), .slice a l.length c, .bool true] 78) = W0 at *
  have q0 := hb.cell 0 (v := .string (St [112, 105, 99, 107, 115])) rfl
  have q1 := hb.cell 1 (v := .slice a l.length c) rfl
  have q2 := hb.cell 2 (v := .bool true) rfl
  clear hb
  have h0 := H.out.here.cell 0 (v := .int .i64 r.s.n) rfl
  have h1 := H.out.here.cell 1 (v := .slice xa r.s.specs.length xc) rfl
  have h2 := H.out.here.cell 2 (v := .slice ya r.s.calls.length yc) rfl
  have h3 := H.out.here.cell 3 (v := .slice za r.s.picks.length zc) rfl
  have h4 := H.out.here.cell 4 (v := .int .i64 r.part) rfl
  have h5 := H.out.here.cell 5 (v := .bool (fullOf r)) rfl
  have hfu : fullOf r = true := by unfold fullOf; simp [hp, hla]
  rw [hfu] at h5
  have p0 : (r.part == 0) = false := beq_eq_false_iff_ne.2 (by omega); have p0n : (r.part != 0) = true := by rw [bne, p0]; rfl
  have p3 : (r.part == 3) = true := beq_iff_eq.2 (by omega); have p3n : (r.part != 3) = false := by rw [bne, p3]; rfl
  have l1 : decide ((l.length : Int) < 1) = false := decide_eq_false (by omega)
  have l16 : decide ((16 : Int) < (l.length : Int)) = false := decide_eq_false (by omega)
  clear hp hla
  have hmm : (if l.any (fun x => decide (255 < x)) = true then (10 : Int) else if 65536 < r.s.picks.length + l.length then 3 else 0) = k := hk
  have HK := Lib.hid hmm
  clear hmm hk
  have hpk := hok.picks
  go_wp2_with fail
  go_loop [152] (fun u => ∃ i : Nat, i ≤ l.length ∧ u = .int .i64 (i : Int) ∧ Hid (∀ x ∈ l.take i, x ≤ 255)) (fun u => l.length - (intOf u).toNat)
  case atStart => exact ⟨0, Nat.zero_le _, rfl, Lib.hid (fun x hx => by cases hx)⟩
  case round =>
    obtain ⟨i, hil, rfl, HL⟩ := hrel
    by_cases hlt : i < l.length
    · obtain ⟨b, off, rfl, e1⟩ := HI.out.at hlt
      have HS := Lib.hid (take_snoc l i hlt)
      have HM := Lib.hid (nth_mem l i hlt)
      have g0 := (HG.out _ HM.out).1
      generalize nth l i = x at *
      by_cases hx : 255 < x
      · have HTK : Hid (k = 10) := Lib.hid (by rw [← HK.out]; refine if_pos ?_; rw [List.any_eq_true]; exact ⟨x, HM.out, by simpa using hx⟩)
        have dx : decide (255 < x) = true := decide_eq_true hx
        go_wp2_with fail
        refine bodyPost_ret (v := .int .i64 10) (by simp [results, Tryd.results29, go_sem]) rfl ?_
        exact ⟨by rw [HTK.out], HE.out⟩
      · have dx : decide (255 < x) = false := decide_eq_false hx
        go_wp2_with fail
        go_roundw
        case rel =>
          refine ⟨i + 1, by omega, by go_num, Lib.hid ?_⟩
          rw [HS.out]
          intro z hz
          rcases List.mem_append.1 hz with h | h
          · exact HL.out z h
          · simp only [List.mem_singleton] at h; rw [h]; omega
        case measure => simp [intOf]; omega
    · obtain rfl : i = l.length := by omega
      rw [List.take_length] at HL
      have HN : Hid ((if 65536 < r.s.picks.length + l.length then (3 : Int) else 0) = k) := Lib.hid (by
        rw [← HK.out]
        refine (if_neg ?_).symm
        rw [List.any_eq_true]
        rintro ⟨z, hz, h2⟩
        have := HL.out z hz
        simp at h2; omega)
      by_cases hp6 : 65536 < r.s.picks.length + l.length
      · have dp : decide ((65536 : Int) < (r.s.picks.length : Int) + (l.length : Int)) = true := decide_eq_true (by omega)
        go_wp2_with fail
        refine bodyPost_ret (v := .int .i64 3) (by simp [results, Tryd.results29, go_sem]) rfl ?_
        exact ⟨by rw [← HN.out, if_pos hp6], HE.out⟩
      · have dp : decide ((65536 : Int) < (r.s.picks.length : Int) + (l.length : Int)) = false := decide_eq_false (by omega)
        go_wp2_with fail
        refine bodyPost_ret (v := .int .i64 0) (by simp [results, Tryd.results29, go_sem]) rfl ?_
        exact ⟨by rw [← HN.out, if_neg hp6], HE.out⟩

set_option maxRecDepth 100000 in
set_option maxHeartbeats 4000000 in
theorem rwrong_N (w : World) (B R : Nat) (r : Pl.St) (wd : List UInt8) (a : Option Addr) (c : Nat) (l : List Int) (h : IsRPl w B R r) (hok : Rok r) (hi : IsInts .u64 w a l) (hg : ∀ x ∈ l, 0 ≤ x ∧ x ≤ 18446744073709551615) (n1 : ¬ wd = [116, 104, 114, 101, 97, 100, 115]) (n2 : ¬ wd = [111, 98, 106, 101, 99, 116]) (n3 : ¬ wd = [99, 97, 108, 108]) (n4 : ¬ wd = [112, 105, 99, 107, 115]) :
    Calls Tryd.prog 29 #[.pointer (some ⟨R, 0, none⟩), .agg #[.string (St wd), .slice a l.length c, .bool true]] w (fun e w' => e = .returned (.int .i64 5) ∧ Ext w w') := by
  have HG := Lib.hid hg
  clear hg
  obtain ⟨sa, ca, pa, h⟩ := h
  obtain ⟨xa, xc, rfl, -⟩ := own_slice h.specs
  obtain ⟨ya, yc, rfl, -⟩ := own_slice h.calls
  obtain ⟨za, zc, rfl, -⟩ := own_slice h.picks
  have HE0 := (Ext.refl w).alloc (.cells #[.string (St wd), .slice a l.length c, .bool true] 78)
  have H := Lib.hid (h.ext HE0)
  have HI := Lib.hid (hi.ext HE0)
  have hb := Blk.new w #[.string (St wd), .slice a l.length c, .bool true] 78
  have HE := Lib.hid HE0
  clear HE0 h hi
  go_enter Tryd.func29, Tryd.ntmps29
  go_upto_region 1 with (fail)
  generalize w.alloc (.cells #[.string (St wd), .slice a l.length c, .bool true] 78) = W0 at *
  have q0 := hb.cell 0 (v := .string (St wd)) rfl
  have q1 := hb.cell 1 (v := .slice a l.length c) rfl
  have q2 := hb.cell 2 (v := .bool true) rfl
  clear hb
  have h0 := H.out.here.cell 0 (v := .int .i64 r.s.n) rfl
  have h1 := H.out.here.cell 1 (v := .slice xa r.s.specs.length xc) rfl
  have h2 := H.out.here.cell 2 (v := .slice ya r.s.calls.length yc) rfl
  have h3 := H.out.here.cell 3 (v := .slice za r.s.picks.length zc) rfl
  have h4 := H.out.here.cell 4 (v := .int .i64 r.part) rfl
  have h5 := H.out.here.cell 5 (v := .bool (fullOf r)) rfl
  have t1 : (wd == [116, 104, 114, 101, 97, 100, 115]) = false := beq_eq_false_iff_ne.2 n1
  have t2 : (wd == [111, 98, 106, 101, 99, 116]) = false := beq_eq_false_iff_ne.2 n2
  have t3 : (wd == [99, 97, 108, 108]) = false := beq_eq_false_iff_ne.2 n3
  have t4 : (wd == [112, 105, 99, 107, 115]) = false := beq_eq_false_iff_ne.2 n4
  clear n1 n2 n3 n4
  go_wp2_with fail
  refine bodyPost_ret (v := .int .i64 5) (by simp [results, Tryd.results29, go_sem]) rfl ?_
  exact ⟨rfl, HE.out⟩

/-- What is wrong with a line. -/
theorem rwrong_any (w : World) (B R : Nat) (r : Pl.St) (wd : List UInt8) (a : Option Addr) (c : Nat) (l : List Int) (h : IsRPl w B R r) (hok : Rok r) (hla : Rlast r) (hi : IsInts .u64 w a l) (hg : ∀ x ∈ l, 0 ≤ x ∧ x ≤ 18446744073709551615) :
    Calls Tryd.prog 29 #[.pointer (some ⟨R, 0, none⟩), .agg #[.string (St wd), .slice a l.length c, .bool true]] w (fun e w' => e = .returned (.int .i64 (Pl.takeL r wd l).1) ∧ Ext w w') := by
  have go : ∀ k, (Pl.takeL r wd l).1 = k → Calls Tryd.prog 29 #[.pointer (some ⟨R, 0, none⟩), .agg #[.string (St wd), .slice a l.length c, .bool true]] w (fun e w' => e = .returned (.int .i64 k) ∧ Ext w w') →
      Calls Tryd.prog 29 #[.pointer (some ⟨R, 0, none⟩), .agg #[.string (St wd), .slice a l.length c, .bool true]] w (fun e w' => e = .returned (.int .i64 (Pl.takeL r wd l).1) ∧ Ext w w') := by
    intro k hk hc
    rw [hk]; exact hc
  by_cases hT : wd = Pl.wT
  · subst hT
    have no : ¬ (r.part = 0 ∧ l.length = 1) → (Pl.takeL r Pl.wT l).1 = 5 := fun hh => by rw [takeL_no (fun g => hh g.2) (fun g => absurd g.1 (by decide)) (fun g => absurd g.1 (by decide)) (fun g => absurd g.1 (by decide))]
    by_cases hp : r.part = 0
    · by_cases hl : l.length = 1
      · have hc0 : 0 < l.length := by omega
        by_cases h1 : nth l 0 < 1
        · exact go 1 (by rw [takeL_T hp hl, if_neg (by omega)]) (rwrong_T2 w B R r a c l h hok hi hg hp hl h1)
        · by_cases h2 : 16 < nth l 0
          · exact go 1 (by rw [takeL_T hp hl, if_neg (by omega)]) (rwrong_T3 w B R r a c l h hok hi hg hp hl h1 h2)
          · exact go 0 (by rw [takeL_T hp hl, if_pos (by omega)]) (rwrong_T1 w B R r a c l h hok hi hg hp hl h1 h2)
      · exact go 5 (no (by omega)) (rwrong_T5 w B R r a c l h hok hi hg hp hl)
    · exact go 5 (no (by omega)) (rwrong_T4 w B R r a c l h hok hi hg hp)
  by_cases hO : wd = Pl.wO
  · subst hO
    have no : ¬ (r.part = 1 ∧ l.length = 3) → (Pl.takeL r Pl.wO l).1 = 5 := fun hh => by rw [takeL_no (fun g => absurd g.1 (by decide)) (fun g => hh g.2) (fun g => absurd g.1 (by decide)) (fun g => absurd g.1 (by decide))]
    by_cases hp : r.part = 1
    · by_cases hl : l.length = 3
      · by_cases h0 : 255 < nth l 0
        · exact go 10 (by rw [takeL_O hp hl]; unfold objT; rw [if_pos (.inl h0)]) (rwrong_O4 w B R r a c l h hok hi hg hp hl h0)
        by_cases h1 : 65535 < nth l 1
        · exact go 10 (by rw [takeL_O hp hl]; unfold objT; rw [if_pos (.inr (.inl h1))]) (rwrong_O5 w B R r a c l h hok hi hg hp hl h0 h1)
        by_cases h2 : 65535 < nth l 2
        · exact go 10 (by rw [takeL_O hp hl]; unfold objT; rw [if_pos (.inr (.inr h2))]) (rwrong_O6 w B R r a c l h hok hi hg hp hl h0 h1 h2)
        have hn : ¬ (255 < nth l 0 ∨ 65535 < nth l 1 ∨ 65535 < nth l 2) := by omega
        by_cases h8 : 8 ≤ r.s.specs.length
        · exact go 3 (by rw [takeL_O hp hl]; unfold objT; rw [if_neg hn, if_pos h8]) (rwrong_O7 w B R r a c l h hok hi hg hp hl h0 h1 h2 h8)
        · exact go 0 (by rw [takeL_O hp hl]; unfold objT; rw [if_neg hn, if_neg h8]) (rwrong_O1 w B R r a c l h hok hi hg hp hl h0 h1 h2 h8)
      · exact go 5 (no (by omega)) (rwrong_O3 w B R r a c l h hok hi hg hp hl)
    · exact go 5 (no (by omega)) (rwrong_O2 w B R r a c l h hok hi hg hp)
  by_cases hC : wd = Pl.wC
  · subst hC
    have no : ¬ ((r.part = 1 ∨ r.part = 2) ∧ l.length = 6) → (Pl.takeL r Pl.wC l).1 = 5 := fun hh => by rw [takeL_no (fun g => absurd g.1 (by decide)) (fun g => absurd g.1 (by decide)) (fun g => hh g.2) (fun g => absurd g.1 (by decide))]
    by_cases hp12 : r.part = 1 ∨ r.part = 2
    · by_cases hl : l.length = 6
      · by_cases h0 : r.s.n ≤ nth l 0
        · refine go 10 (by rw [takeL_C hp12 hl]; unfold callTk; rw [if_pos (.inl h0)]) ?_
          rcases hp12 with hp | hp
          · exact rwrong_C51 w B R r a c l h hok hi hg hp hl h0
          · exact rwrong_C52 w B R r a c l h hok hi hg hp hl h0
        by_cases h1 : 255 < nth l 1
        · refine go 10 (by rw [takeL_C hp12 hl]; unfold callTk; rw [if_pos (.inr (.inl h1))]) ?_
          rcases hp12 with hp | hp
          · exact rwrong_C61 w B R r a c l h hok hi hg hp hl h0 h1
          · exact rwrong_C62 w B R r a c l h hok hi hg hp hl h0 h1
        by_cases h2 : 255 < nth l 2
        · refine go 10 (by rw [takeL_C hp12 hl]; unfold callTk; rw [if_pos (.inr (.inr h2))]) ?_
          rcases hp12 with hp | hp
          · exact rwrong_C71 w B R r a c l h hok hi hg hp hl h0 h1 h2
          · exact rwrong_C72 w B R r a c l h hok hi hg hp hl h0 h1 h2
        have hn : ¬ (r.s.n ≤ nth l 0 ∨ 255 < nth l 1 ∨ 255 < nth l 2) := by omega
        by_cases h8 : 1000 ≤ r.s.calls.length
        · refine go 3 (by rw [takeL_C hp12 hl]; unfold callTk; rw [if_neg hn, if_pos h8]) ?_
          rcases hp12 with hp | hp
          · exact rwrong_C81 w B R r a c l h hok hi hg hp hl h0 h1 h2 h8
          · exact rwrong_C82 w B R r a c l h hok hi hg hp hl h0 h1 h2 h8
        · refine go 0 (by rw [takeL_C hp12 hl]; unfold callTk; rw [if_neg hn, if_neg h8]) ?_
          rcases hp12 with hp | hp
          · exact rwrong_C11 w B R r a c l h hok hi hg hp hl h0 h1 h2 h8
          · exact rwrong_C12 w B R r a c l h hok hi hg hp hl h0 h1 h2 h8
      · refine go 5 (no (by omega)) ?_
        rcases hp12 with hp | hp
        · exact rwrong_C41 w B R r a c l h hok hi hg hp hl
        · exact rwrong_C42 w B R r a c l h hok hi hg hp hl
    · exact go 5 (no (by omega)) (rwrong_C3 w B R r a c l h hok hi hg (fun g => hp12 (.inl g)) (fun g => hp12 (.inr g)))
  by_cases hP : wd = Pl.wP
  · subst hP
    have no : ¬ (0 < r.part ∧ r.last = false ∧ 1 ≤ l.length ∧ l.length ≤ 16) → (Pl.takeL r Pl.wP l).1 = 5 := fun hh => by rw [takeL_no (fun g => absurd g.1 (by decide)) (fun g => absurd g.1 (by decide)) (fun g => absurd g.1 (by decide)) (fun g => hh g.2)]
    have hpp := hok.part
    have yes : 0 < r.part → r.last = false → 1 ≤ l.length → l.length ≤ 16 → (Pl.takeL r Pl.wP l).1 = (if l.any (fun x => decide (255 < x)) = true then (10 : Int) else if 65536 < r.s.picks.length + l.length then 3 else 0) := by
      intro g1 g2 g3 g4
      rw [takeL_P g1 g2 g3 g4]
      unfold picksTk
      split
      · rfl
      · split <;> rfl
    by_cases hp : r.part = 0
    · exact go 5 (no (by omega)) (rwrong_P2 w B R r a c l h hok hi hg hp)
    by_cases hp3 : r.part = 3
    · cases hs : r.last with
      | true => exact go 5 (no (by rw [hs]; simp)) (rwrong_P3 w B R r a c l h hok hi hg hp3 hs)
      | false =>
        by_cases h1 : l.length < 1
        · exact go 5 (no (by omega)) (rwrong_P4b w B R r a c l h hok hi hg hp3 hs h1)
        by_cases h2 : 16 < l.length
        · exact go 5 (no (by omega)) (rwrong_P5b w B R r a c l h hok hi hg hp3 hs h1 h2)
        exact rwrong_P1b w B R r a c l h hok hi hg hp3 hs h1 h2 _ (yes (by omega) hs (by omega) (by omega)).symm
    · have hs := hla hp3
      by_cases h1 : l.length < 1
      · exact go 5 (no (by omega)) (rwrong_P4a w B R r a c l h hok hi hg hp hp3 h1)
      by_cases h2 : 16 < l.length
      · exact go 5 (no (by omega)) (rwrong_P5a w B R r a c l h hok hi hg hp hp3 h1 h2)
      exact rwrong_P1a w B R r a c l h hok hi hg hp hp3 h1 h2 _ (yes (by omega) hs (by omega) (by omega)).symm
  exact go 5 (by rw [takeL_no (fun g => hT g.1) (fun g => hO g.1) (fun g => hC g.1) (fun g => hP g.1)]) (rwrong_N w B R r wd a c l h hok hi hg hT hO hC hP)

set_option maxRecDepth 100000 in
set_option maxHeartbeats 4000000 in
theorem rwrong_no (w : World) (B R : Nat) (r : Pl.St) (wd : List UInt8) (a : Option Addr) (n c : Nat) (h : IsRPl w B R r) :
    Calls Tryd.prog 29 #[.pointer (some ⟨R, 0, none⟩), .agg #[.string (St wd), .slice a n c, .bool false]] w (fun e w' => e = .returned (.int .i64 5) ∧ Ext w w') := by
  have HE0 := (Ext.refl w).alloc (.cells #[.string (St wd), .slice a n c, .bool false] 78)
  have hb := Blk.new w #[.string (St wd), .slice a n c, .bool false] 78
  have HE := Lib.hid HE0
  clear HE0 h
  go_enter Tryd.func29, Tryd.ntmps29
  go_upto_region 1 with (fail)
  generalize w.alloc (.cells #[.string (St wd), .slice a n c, .bool false] 78) = W0 at *
  have q0 := hb.cell 0 (v := .string (St wd)) rfl
  have q1 := hb.cell 1 (v := .slice a n c) rfl
  have q2 := hb.cell 2 (v := .bool false) rfl
  clear hb
  go_wp2_with fail
  refine bodyPost_ret (v := .int .i64 5) (by simp [results, Tryd.results29, go_sem]) rfl ?_
  exact ⟨rfl, HE.out⟩

end Go.Proofs.YtcfbcffmlinlaaaDoor
