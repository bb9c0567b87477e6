/-
  plan's reader: a line.
-/
import Derived.Test.YtcfbcffmlinlaaaDoorPlCall
import Derived.Test.YtcfbcffmlinlaaaDoorPlPk
namespace Go.Proofs.YtcfbcffmlinlaaaDoor
open Go.RowKit

theorem takeL_no {r : Pl.St} {w : List UInt8} {l : List Int} (h1 : ¬ (w = Pl.wT ∧ r.part = 0 ∧ l.length = 1)) (h2 : ¬ (w = Pl.wO ∧ r.part = 1 ∧ l.length = 3)) (h3 : ¬ (w = Pl.wC ∧ (r.part = 1 ∨ r.part = 2) ∧ l.length = 6))
    (h4 : ¬ (w = Pl.wP ∧ 0 < r.part ∧ r.last = false ∧ 1 ≤ l.length ∧ l.length ≤ 16)) : Pl.takeL r w l = (5, r) := by
  unfold Pl.takeL; rw [if_neg h1, if_neg h2, if_neg h3, if_neg h4]
theorem takeL_T {r : Pl.St} {l : List Int} (hp : r.part = 0) (hl : l.length = 1) : Pl.takeL r Pl.wT l = if 1 ≤ nth l 0 ∧ nth l 0 ≤ 16 then (0, ⟨⟨nth l 0, r.s.specs, r.s.calls, r.s.picks⟩, 1, r.last⟩) else (1, r) := by
  unfold Pl.takeL; rw [if_pos ⟨rfl, hp, hl⟩]
theorem takeL_O {r : Pl.St} {l : List Int} (hp : r.part = 1) (hl : l.length = 3) : Pl.takeL r Pl.wO l = objT r l := by
  unfold Pl.takeL; rw [if_neg (fun h => absurd h.1 (by decide)), if_pos ⟨rfl, hp, hl⟩]; rfl
theorem takeL_C {r : Pl.St} {l : List Int} (hp : r.part = 1 ∨ r.part = 2) (hl : l.length = 6) : Pl.takeL r Pl.wC l = callTk r l := by
  unfold Pl.takeL; rw [if_neg (fun h => absurd h.1 (by decide)), if_neg (fun h => absurd h.1 (by decide)), if_pos ⟨rfl, hp, hl⟩]; rfl
theorem takeL_P {r : Pl.St} {l : List Int} (hp : 0 < r.part) (hs : r.last = false) (h1 : 1 ≤ l.length) (h2 : l.length ≤ 16) : Pl.takeL r Pl.wP l = picksTk r l := by
  unfold Pl.takeL; rw [if_neg (fun h => absurd h.1 (by decide)), if_neg (fun h => absurd h.1 (by decide)), if_neg (fun h => absurd h.1 (by decide)), if_pos ⟨rfl, hp, hs, h1, h2⟩]; rfl

theorem Rok_def (r : Pl.St) (h : Rok r) : 0 ≤ r.part ∧ r.part ≤ 3 := h.part

/-- form gives up: so does read. -/
theorem read_form (w : World) (B R : Nat) (r : Pl.St) (line : Int) (t wd : List UInt8) (ws : List (List UInt8)) (h : IsRd w B R r line) (hB : B ≤ w.heap.size) (hm : MaxAt w) (ht : t.length ≤ 1000000)
    (hw : Pl.words t = wd :: ws) (hn : Pl.numsP ws = none) :
    Calls Tryd.prog 24 #[.pointer (some ⟨R, 0, none⟩), .string (St t)] w (TakePost w B R line (5, r)) := by
  have HF := Lib.hid (form_any t w ht hm wd ws hw)
  have HN := Lib.hid hn
  have H := Lib.hid h
  have HBw := Lib.hid hB
  clear h hB hm hw hn
  go_enter Tryd.func24, Tryd.ntmps24
  go_wp2_with fail
  refine HF.out.mono ?_
  rintro e w2 ⟨hx, ⟨-, hgv⟩ | ⟨l', hl', -⟩⟩
  · unfold Gave at hgv
    subst hgv
    exact ⟨rfl, BB.ext hx HBw.out, H.out.ext hx, .inr ⟨(by show (5 : Int) ≠ 0; decide), rfl⟩⟩
  · rw [HN.out] at hl'; cases hl'

set_option maxRecDepth 100000 in
set_option maxHeartbeats 4000000 in
theorem read_T1 (w : World) (B R : Nat) (r : Pl.St) (line : Int) (t : List UInt8) (ws : List (List UInt8)) (l : List Int) (x : Int × Pl.St) (h : IsRd w B R r line) (hok : Rok r) (hB : B ≤ w.heap.size) (hm : MaxAt w) (ht : t.length ≤ 1000000)
    (hw : Pl.words t = [116, 104, 114, 101, 97, 100, 115] :: ws) (hn : Pl.numsP ws = some l) (hp : r.part = 0) (hl : l.length = 1) (hy1 : 1 ≤ nth l 0) (hy2 : nth l 0 ≤ 16) (hxx : x = (0, ⟨⟨nth l 0, r.s.specs, r.s.calls, r.s.picks⟩, 1, r.last⟩)) :
    Calls Tryd.prog 24 #[.pointer (some ⟨R, 0, none⟩), .string (St t)] w (TakePost w B R line x) := by
  have HF := Lib.hid (form_any t w ht hm _ ws hw)
  have HN := Lib.hid hn
  obtain ⟨sa, ca, pa, h⟩ := h
  have HRw := Lib.hid h.here.lt
  have H := Lib.hid h
  have HOK := Lib.hid hok
  have HBw := Lib.hid hB
  have HXX := Lib.hid hxx
  clear h hB hm hw hn hok hxx
  have HP := Lib.hid hp
  have p0 : (r.part == 0) = true := beq_iff_eq.2 hp
  have HL := Lib.hid hl
  have l1 : ((l.length : Int) == 1) = true := beq_iff_eq.2 (by omega)
  have hl0 : 0 < l.length := by omega
  clear hp hl
  go_enter Tryd.func24, Tryd.ntmps24
  go_wp2_with fail
  refine HF.out.mono ?_
  rintro e w2 ⟨hx, ⟨hno, -⟩ | ⟨l', hl', a, c, rfl, hi, -, hg⟩⟩
  · rw [HN.out] at hno; cases hno
  rw [HN.out] at hl'
  cases hl'
  have HX := Lib.hid hx
  have HI := Lib.hid hi
  have HG := Lib.hid hg
  have H2 := Lib.hid (H.out.ext hx)
  have HB2 : Hid (B ≤ w2.heap.size) := Lib.hid (Nat.le_trans HBw.out hx.size)
  have c5 := H2.out.here.cell 5 (v := .int .i64 r.part) rfl
  have c6 := H2.out.here.cell 6 (v := .bool r.last) rfl
  clear hx hi hg HF H
  have hly : l.length = 1 := HL.out
  obtain ⟨b, off, rfl, k0⟩ := HI.out.at (i := 0) (by omega)
  obtain ⟨x0, x1⟩ := HG.out _ (nth_mem l 0 (by omega))
  rw [Nat.add_zero] at k0
  generalize nth l 0 = y at *
  clear hly
  have y1 : decide ((1 : Int) ≤ y) = true := decide_eq_true hy1
  have y2 : decide (y ≤ (16 : Int)) = true := decide_eq_true hy2
  go_wp2_with fail
  refine (give_ok 1 _).mono ?_
  rintro e w3 ⟨rfl, rfl⟩
  have k1 := H2.out.here.cell 0 (v := .int .i64 r.s.n) rfl
  have k2 := H2.out.here.fz 0
  have k3 := H2.out.here.lt
  go_upto_region 5 with (fail)
  have HP6 := Lib.hid (H2.out.set_n y)
  have HB6 : Hid (BB B R w (w2.setCell ⟨R, 0, none⟩ (.int .i64 y))) := Lib.hid ((BB.ext HX.out HBw.out).trans (BB.set _ _))
  clear k0 k1 k2 k3 c5 c6
  generalize w2.setCell ⟨R, 0, none⟩ (.int .i64 y) = W6 at *
  have k1 := HP6.out.here.cell 5 (v := .int .i64 r.part) rfl
  have k2 := HP6.out.here.fz 5
  have k3 := HP6.out.here.lt
  go_wp2_with fail
  go_end0
  rw [HXX.out]
  exact ⟨HB6.out.trans (BB.set _ _), ⟨_, _, _, HP6.out.set_part 1⟩, .inl ⟨rfl, rfl⟩⟩

set_option maxRecDepth 100000 in
set_option maxHeartbeats 4000000 in
theorem read_T2 (w : World) (B R : Nat) (r : Pl.St) (line : Int) (t : List UInt8) (ws : List (List UInt8)) (l : List Int) (x : Int × Pl.St) (h : IsRd w B R r line) (hok : Rok r) (hB : B ≤ w.heap.size) (hm : MaxAt w) (ht : t.length ≤ 1000000)
    (hw : Pl.words t = [116, 104, 114, 101, 97, 100, 115] :: ws) (hn : Pl.numsP ws = some l) (hp : r.part = 0) (hl : l.length = 1) (hy1 : nth l 0 < 1) (hxx : x = (1, r)) :
    Calls Tryd.prog 24 #[.pointer (some ⟨R, 0, none⟩), .string (St t)] w (TakePost w B R line x) := by
  have HF := Lib.hid (form_any t w ht hm _ ws hw)
  have HN := Lib.hid hn
  obtain ⟨sa, ca, pa, h⟩ := h
  have HRw := Lib.hid h.here.lt
  have H := Lib.hid h
  have HOK := Lib.hid hok
  have HBw := Lib.hid hB
  have HXX := Lib.hid hxx
  clear h hB hm hw hn hok hxx
  have HP := Lib.hid hp
  have p0 : (r.part == 0) = true := beq_iff_eq.2 hp
  have HL := Lib.hid hl
  have l1 : ((l.length : Int) == 1) = true := beq_iff_eq.2 (by omega)
  have hl0 : 0 < l.length := by omega
  clear hp hl
  go_enter Tryd.func24, Tryd.ntmps24
  go_wp2_with fail
  refine HF.out.mono ?_
  rintro e w2 ⟨hx, ⟨hno, -⟩ | ⟨l', hl', a, c, rfl, hi, -, hg⟩⟩
  · rw [HN.out] at hno; cases hno
  rw [HN.out] at hl'
  cases hl'
  have HX := Lib.hid hx
  have HI := Lib.hid hi
  have HG := Lib.hid hg
  have H2 := Lib.hid (H.out.ext hx)
  have HB2 : Hid (B ≤ w2.heap.size) := Lib.hid (Nat.le_trans HBw.out hx.size)
  have c5 := H2.out.here.cell 5 (v := .int .i64 r.part) rfl
  have c6 := H2.out.here.cell 6 (v := .bool r.last) rfl
  clear hx hi hg HF H
  have hly : l.length = 1 := HL.out
  obtain ⟨b, off, rfl, k0⟩ := HI.out.at (i := 0) (by omega)
  obtain ⟨x0, x1⟩ := HG.out _ (nth_mem l 0 (by omega))
  rw [Nat.add_zero] at k0
  generalize nth l 0 = y at *
  clear hly
  have y1 : decide ((1 : Int) ≤ y) = false := decide_eq_false (by omega)
  go_wp2_with fail
  refine (give_no 1 _).mono ?_
  rintro e w3 ⟨hgv, rfl⟩
  unfold Gave at hgv
  subst hgv
  rw [HXX.out]
  exact ⟨rfl, BB.ext HX.out HBw.out, ⟨_, _, _, H2.out⟩, .inr ⟨(by show (1 : Int) ≠ 0; decide), rfl⟩⟩

set_option maxRecDepth 100000 in
set_option maxHeartbeats 4000000 in
theorem read_T3 (w : World) (B R : Nat) (r : Pl.St) (line : Int) (t : List UInt8) (ws : List (List UInt8)) (l : List Int) (x : Int × Pl.St) (h : IsRd w B R r line) (hok : Rok r) (hB : B ≤ w.heap.size) (hm : MaxAt w) (ht : t.length ≤ 1000000)
    (hw : Pl.words t = [116, 104, 114, 101, 97, 100, 115] :: ws) (hn : Pl.numsP ws = some l) (hp : r.part = 0) (hl : l.length = 1) (hy1 : 1 ≤ nth l 0) (hy2 : 16 < nth l 0) (hxx : x = (1, r)) :
    Calls Tryd.prog 24 #[.pointer (some ⟨R, 0, none⟩), .string (St t)] w (TakePost w B R line x) := by
  have HF := Lib.hid (form_any t w ht hm _ ws hw)
  have HN := Lib.hid hn
  obtain ⟨sa, ca, pa, h⟩ := h
  have HRw := Lib.hid h.here.lt
  have H := Lib.hid h
  have HOK := Lib.hid hok
  have HBw := Lib.hid hB
  have HXX := Lib.hid hxx
  clear h hB hm hw hn hok hxx
  have HP := Lib.hid hp
  have p0 : (r.part == 0) = true := beq_iff_eq.2 hp
  have HL := Lib.hid hl
  have l1 : ((l.length : Int) == 1) = true := beq_iff_eq.2 (by omega)
  have hl0 : 0 < l.length := by omega
  clear hp hl
  go_enter Tryd.func24, Tryd.ntmps24
  go_wp2_with fail
  refine HF.out.mono ?_
  rintro e w2 ⟨hx, ⟨hno, -⟩ | ⟨l', hl', a, c, rfl, hi, -, hg⟩⟩
  · rw [HN.out] at hno; cases hno
  rw [HN.out] at hl'
  cases hl'
  have HX := Lib.hid hx
  have HI := Lib.hid hi
  have HG := Lib.hid hg
  have H2 := Lib.hid (H.out.ext hx)
  have HB2 : Hid (B ≤ w2.heap.size) := Lib.hid (Nat.le_trans HBw.out hx.size)
  have c5 := H2.out.here.cell 5 (v := .int .i64 r.part) rfl
  have c6 := H2.out.here.cell 6 (v := .bool r.last) rfl
  clear hx hi hg HF H
  have hly : l.length = 1 := HL.out
  obtain ⟨b, off, rfl, k0⟩ := HI.out.at (i := 0) (by omega)
  obtain ⟨x0, x1⟩ := HG.out _ (nth_mem l 0 (by omega))
  rw [Nat.add_zero] at k0
  generalize nth l 0 = y at *
  clear hly
  have y1 : decide ((1 : Int) ≤ y) = true := decide_eq_true hy1
  have y2 : decide (y ≤ (16 : Int)) = false := decide_eq_false (by omega)
  go_wp2_with fail
  refine (give_no 1 _).mono ?_
  rintro e w3 ⟨hgv, rfl⟩
  unfold Gave at hgv
  subst hgv
  rw [HXX.out]
  exact ⟨rfl, BB.ext HX.out HBw.out, ⟨_, _, _, H2.out⟩, .inr ⟨(by show (1 : Int) ≠ 0; decide), rfl⟩⟩

set_option maxRecDepth 100000 in
set_option maxHeartbeats 4000000 in
theorem read_T4 (w : World) (B R : Nat) (r : Pl.St) (line : Int) (t : List UInt8) (ws : List (List UInt8)) (l : List Int) (x : Int × Pl.St) (h : IsRd w B R r line) (hok : Rok r) (hB : B ≤ w.heap.size) (hm : MaxAt w) (ht : t.length ≤ 1000000)
    (hw : Pl.words t = [116, 104, 114, 101, 97, 100, 115] :: ws) (hn : Pl.numsP ws = some l) (hp0 : r.part ≠ 0) (hxx : x = (5, r)) :
    Calls Tryd.prog 24 #[.pointer (some ⟨R, 0, none⟩), .string (St t)] w (TakePost w B R line x) := by
  have HF := Lib.hid (form_any t w ht hm _ ws hw)
  have HN := Lib.hid hn
  obtain ⟨sa, ca, pa, h⟩ := h
  have HRw := Lib.hid h.here.lt
  have H := Lib.hid h
  have HOK := Lib.hid hok
  have HBw := Lib.hid hB
  have HXX := Lib.hid hxx
  clear h hB hm hw hn hok hxx
  have p0 : (r.part == 0) = false := beq_eq_false_iff_ne.2 hp0
  clear hp0
  go_enter Tryd.func24, Tryd.ntmps24
  go_wp2_with fail
  refine HF.out.mono ?_
  rintro e w2 ⟨hx, ⟨hno, -⟩ | ⟨l', hl', a, c, rfl, hi, -, hg⟩⟩
  · rw [HN.out] at hno; cases hno
  rw [HN.out] at hl'
  cases hl'
  have HX := Lib.hid hx
  have HI := Lib.hid hi
  have HG := Lib.hid hg
  have H2 := Lib.hid (H.out.ext hx)
  have HB2 : Hid (B ≤ w2.heap.size) := Lib.hid (Nat.le_trans HBw.out hx.size)
  have c5 := H2.out.here.cell 5 (v := .int .i64 r.part) rfl
  have c6 := H2.out.here.cell 6 (v := .bool r.last) rfl
  clear hx hi hg HF H
  go_wp2_with fail
  refine (give_no 5 _).mono ?_
  rintro e w3 ⟨hgv, rfl⟩
  unfold Gave at hgv
  subst hgv
  rw [HXX.out]
  exact ⟨rfl, BB.ext HX.out HBw.out, ⟨_, _, _, H2.out⟩, .inr ⟨(by show (5 : Int) ≠ 0; decide), rfl⟩⟩

set_option maxRecDepth 100000 in
set_option maxHeartbeats 4000000 in
theorem read_T5 (w : World) (B R : Nat) (r : Pl.St) (line : Int) (t : List UInt8) (ws : List (List UInt8)) (l : List Int) (x : Int × Pl.St) (h : IsRd w B R r line) (hok : Rok r) (hB : B ≤ w.heap.size) (hm : MaxAt w) (ht : t.length ≤ 1000000)
    (hw : Pl.words t = [116, 104, 114, 101, 97, 100, 115] :: ws) (hn : Pl.numsP ws = some l) (hp : r.part = 0) (hl : l.length ≠ 1) (hxx : x = (5, r)) :
    Calls Tryd.prog 24 #[.pointer (some ⟨R, 0, none⟩), .string (St t)] w (TakePost w B R line x) := by
  have HF := Lib.hid (form_any t w ht hm _ ws hw)
  have HN := Lib.hid hn
  obtain ⟨sa, ca, pa, h⟩ := h
  have HRw := Lib.hid h.here.lt
  have H := Lib.hid h
  have HOK := Lib.hid hok
  have HBw := Lib.hid hB
  have HXX := Lib.hid hxx
  clear h hB hm hw hn hok hxx
  have p0 : (r.part == 0) = true := beq_iff_eq.2 hp
  have l1 : ((l.length : Int) == 1) = false := beq_eq_false_iff_ne.2 (by omega)
  clear hp hl
  go_enter Tryd.func24, Tryd.ntmps24
  go_wp2_with fail
  refine HF.out.mono ?_
  rintro e w2 ⟨hx, ⟨hno, -⟩ | ⟨l', hl', a, c, rfl, hi, -, hg⟩⟩
  · rw [HN.out] at hno; cases hno
  rw [HN.out] at hl'
  cases hl'
  have HX := Lib.hid hx
  have HI := Lib.hid hi
  have HG := Lib.hid hg
  have H2 := Lib.hid (H.out.ext hx)
  have HB2 : Hid (B ≤ w2.heap.size) := Lib.hid (Nat.le_trans HBw.out hx.size)
  have c5 := H2.out.here.cell 5 (v := .int .i64 r.part) rfl
  have c6 := H2.out.here.cell 6 (v := .bool r.last) rfl
  clear hx hi hg HF H
  go_wp2_with fail
  refine (give_no 5 _).mono ?_
  rintro e w3 ⟨hgv, rfl⟩
  unfold Gave at hgv
  subst hgv
  rw [HXX.out]
  exact ⟨rfl, BB.ext HX.out HBw.out, ⟨_, _, _, H2.out⟩, .inr ⟨(by show (5 : Int) ≠ 0; decide), rfl⟩⟩

set_option maxRecDepth 100000 in
set_option maxHeartbeats 4000000 in
theorem read_O1 (w : World) (B R : Nat) (r : Pl.St) (line : Int) (t : List UInt8) (ws : List (List UInt8)) (l : List Int) (x : Int × Pl.St) (h : IsRd w B R r line) (hok : Rok r) (hB : B ≤ w.heap.size) (hm : MaxAt w) (ht : t.length ≤ 1000000)
    (hw : Pl.words t = [111, 98, 106, 101, 99, 116] :: ws) (hn : Pl.numsP ws = some l) (hp : r.part = 1) (hl : l.length = 3) (hxx : x = objT r l) :
    Calls Tryd.prog 24 #[.pointer (some ⟨R, 0, none⟩), .string (St t)] w (TakePost w B R line x) := by
  have HF := Lib.hid (form_any t w ht hm _ ws hw)
  have HN := Lib.hid hn
  obtain ⟨sa, ca, pa, h⟩ := h
  have HRw := Lib.hid h.here.lt
  have H := Lib.hid h
  have HOK := Lib.hid hok
  have HBw := Lib.hid hB
  have HXX := Lib.hid hxx
  clear h hB hm hw hn hok hxx
  have HP := Lib.hid hp
  have p1 : (r.part == 1) = true := beq_iff_eq.2 hp
  have HL := Lib.hid hl
  have l3 : ((l.length : Int) == 3) = true := beq_iff_eq.2 (by omega)
  clear hp hl
  go_enter Tryd.func24, Tryd.ntmps24
  go_wp2_with fail
  refine HF.out.mono ?_
  rintro e w2 ⟨hx, ⟨hno, -⟩ | ⟨l', hl', a, c, rfl, hi, -, hg⟩⟩
  · rw [HN.out] at hno; cases hno
  rw [HN.out] at hl'
  cases hl'
  have HX := Lib.hid hx
  have HI := Lib.hid hi
  have HG := Lib.hid hg
  have H2 := Lib.hid (H.out.ext hx)
  have HB2 : Hid (B ≤ w2.heap.size) := Lib.hid (Nat.le_trans HBw.out hx.size)
  have c5 := H2.out.here.cell 5 (v := .int .i64 r.part) rfl
  have c6 := H2.out.here.cell 6 (v := .bool r.last) rfl
  clear hx hi hg HF H
  go_wp2_with fail
  rw [HL.out]
  refine (object_any w2 B R r line a c l ⟨_, _, _, H2.out⟩ HOK.out HB2.out HL.out HI.out HG.out).mono ?_
  rintro e w3 ⟨hb, hr, hz⟩
  have hbb := (BB.ext HX.out HBw.out).trans hb
  rcases hz with ⟨hz, rfl⟩ | ⟨hz, hgv⟩
  · go_wp2_with fail
    go_end0
    rw [HXX.out]
    exact ⟨hbb, hr, .inl ⟨hz, rfl⟩⟩
  · unfold Gave at hgv
    subst hgv
    rw [HXX.out]
    exact ⟨rfl, hbb, hr, .inr ⟨hz, rfl⟩⟩

set_option maxRecDepth 100000 in
set_option maxHeartbeats 4000000 in
theorem read_O2 (w : World) (B R : Nat) (r : Pl.St) (line : Int) (t : List UInt8) (ws : List (List UInt8)) (l : List Int) (x : Int × Pl.St) (h : IsRd w B R r line) (hok : Rok r) (hB : B ≤ w.heap.size) (hm : MaxAt w) (ht : t.length ≤ 1000000)
    (hw : Pl.words t = [111, 98, 106, 101, 99, 116] :: ws) (hn : Pl.numsP ws = some l) (hp1 : r.part ≠ 1) (hxx : x = (5, r)) :
    Calls Tryd.prog 24 #[.pointer (some ⟨R, 0, none⟩), .string (St t)] w (TakePost w B R line x) := by
  have HF := Lib.hid (form_any t w ht hm _ ws hw)
  have HN := Lib.hid hn
  obtain ⟨sa, ca, pa, h⟩ := h
  have HRw := Lib.hid h.here.lt
  have H := Lib.hid h
  have HOK := Lib.hid hok
  have HBw := Lib.hid hB
  have HXX := Lib.hid hxx
  clear h hB hm hw hn hok hxx
  have p1 : (r.part == 1) = false := beq_eq_false_iff_ne.2 hp1
  clear hp1
  go_enter Tryd.func24, Tryd.ntmps24
  go_wp2_with fail
  refine HF.out.mono ?_
  rintro e w2 ⟨hx, ⟨hno, -⟩ | ⟨l', hl', a, c, rfl, hi, -, hg⟩⟩
  · rw [HN.out] at hno; cases hno
  rw [HN.out] at hl'
  cases hl'
  have HX := Lib.hid hx
  have HI := Lib.hid hi
  have HG := Lib.hid hg
  have H2 := Lib.hid (H.out.ext hx)
  have HB2 : Hid (B ≤ w2.heap.size) := Lib.hid (Nat.le_trans HBw.out hx.size)
  have c5 := H2.out.here.cell 5 (v := .int .i64 r.part) rfl
  have c6 := H2.out.here.cell 6 (v := .bool r.last) rfl
  clear hx hi hg HF H
  go_wp2_with fail
  refine (give_no 5 _).mono ?_
  rintro e w3 ⟨hgv, rfl⟩
  unfold Gave at hgv
  subst hgv
  rw [HXX.out]
  exact ⟨rfl, BB.ext HX.out HBw.out, ⟨_, _, _, H2.out⟩, .inr ⟨(by show (5 : Int) ≠ 0; decide), rfl⟩⟩

set_option maxRecDepth 100000 in
set_option maxHeartbeats 4000000 in
theorem read_O3 (w : World) (B R : Nat) (r : Pl.St) (line : Int) (t : List UInt8) (ws : List (List UInt8)) (l : List Int) (x : Int × Pl.St) (h : IsRd w B R r line) (hok : Rok r) (hB : B ≤ w.heap.size) (hm : MaxAt w) (ht : t.length ≤ 1000000)
    (hw : Pl.words t = [111, 98, 106, 101, 99, 116] :: ws) (hn : Pl.numsP ws = some l) (hp : r.part = 1) (hl : l.length ≠ 3) (hxx : x = (5, r)) :
    Calls Tryd.prog 24 #[.pointer (some ⟨R, 0, none⟩), .string (St t)] w (TakePost w B R line x) := by
  have HF := Lib.hid (form_any t w ht hm _ ws hw)
  have HN := Lib.hid hn
  obtain ⟨sa, ca, pa, h⟩ := h
  have HRw := Lib.hid h.here.lt
  have H := Lib.hid h
  have HOK := Lib.hid hok
  have HBw := Lib.hid hB
  have HXX := Lib.hid hxx
  clear h hB hm hw hn hok hxx
  have p1 : (r.part == 1) = true := beq_iff_eq.2 hp
  have l3 : ((l.length : Int) == 3) = false := beq_eq_false_iff_ne.2 (by omega)
  clear hp hl
  go_enter Tryd.func24, Tryd.ntmps24
  go_wp2_with fail
  refine HF.out.mono ?_
  rintro e w2 ⟨hx, ⟨hno, -⟩ | ⟨l', hl', a, c, rfl, hi, -, hg⟩⟩
  · rw [HN.out] at hno; cases hno
  rw [HN.out] at hl'
  cases hl'
  have HX := Lib.hid hx
  have HI := Lib.hid hi
  have HG := Lib.hid hg
  have H2 := Lib.hid (H.out.ext hx)
  have HB2 : Hid (B ≤ w2.heap.size) := Lib.hid (Nat.le_trans HBw.out hx.size)
  have c5 := H2.out.here.cell 5 (v := .int .i64 r.part) rfl
  have c6 := H2.out.here.cell 6 (v := .bool r.last) rfl
  clear hx hi hg HF H
  go_wp2_with fail
  refine (give_no 5 _).mono ?_
  rintro e w3 ⟨hgv, rfl⟩
  unfold Gave at hgv
  subst hgv
  rw [HXX.out]
  exact ⟨rfl, BB.ext HX.out HBw.out, ⟨_, _, _, H2.out⟩, .inr ⟨(by show (5 : Int) ≠ 0; decide), rfl⟩⟩

set_option maxRecDepth 100000 in
set_option maxHeartbeats 4000000 in
theorem read_C1 (w : World) (B R : Nat) (r : Pl.St) (line : Int) (t : List UInt8) (ws : List (List UInt8)) (l : List Int) (x : Int × Pl.St) (h : IsRd w B R r line) (hok : Rok r) (hB : B ≤ w.heap.size) (hm : MaxAt w) (ht : t.length ≤ 1000000)
    (hw : Pl.words t = [99, 97, 108, 108] :: ws) (hn : Pl.numsP ws = some l) (hp : r.part = 1) (hl : l.length = 6) (hxx : x = callTk r l) :
    Calls Tryd.prog 24 #[.pointer (some ⟨R, 0, none⟩), .string (St t)] w (TakePost w B R line x) := by
  have HF := Lib.hid (form_any t w ht hm _ ws hw)
  have HN := Lib.hid hn
  obtain ⟨sa, ca, pa, h⟩ := h
  have HRw := Lib.hid h.here.lt
  have H := Lib.hid h
  have HOK := Lib.hid hok
  have HBw := Lib.hid hB
  have HXX := Lib.hid hxx
  have HN1 : Hid (1 ≤ r.s.n ∧ r.s.n ≤ 16) := Lib.hid (hok.n (by omega))
  clear h hB hm hw hn hok hxx
  have p1 : (r.part == 1) = true := beq_iff_eq.2 hp
  have HL := Lib.hid hl
  have l6 : ((l.length : Int) == 6) = true := beq_iff_eq.2 (by omega)
  clear hp hl
  go_enter Tryd.func24, Tryd.ntmps24
  go_wp2_with fail
  refine HF.out.mono ?_
  rintro e w2 ⟨hx, ⟨hno, -⟩ | ⟨l', hl', a, c, rfl, hi, -, hg⟩⟩
  · rw [HN.out] at hno; cases hno
  rw [HN.out] at hl'
  cases hl'
  have HX := Lib.hid hx
  have HI := Lib.hid hi
  have HG := Lib.hid hg
  have H2 := Lib.hid (H.out.ext hx)
  have HB2 : Hid (B ≤ w2.heap.size) := Lib.hid (Nat.le_trans HBw.out hx.size)
  have c5 := H2.out.here.cell 5 (v := .int .i64 r.part) rfl
  have c6 := H2.out.here.cell 6 (v := .bool r.last) rfl
  clear hx hi hg HF H
  go_wp2_with fail
  rw [HL.out]
  refine (call_any w2 B R r line a c l ⟨_, _, _, H2.out⟩ HOK.out HN1.out.1 HN1.out.2 HB2.out HL.out HI.out HG.out).mono ?_
  rintro e w3 ⟨hb, hr, hz⟩
  have hbb := (BB.ext HX.out HBw.out).trans hb
  rcases hz with ⟨hz, rfl⟩ | ⟨hz, hgv⟩
  · go_wp2_with fail
    go_end0
    rw [HXX.out]
    exact ⟨hbb, hr, .inl ⟨hz, rfl⟩⟩
  · unfold Gave at hgv
    subst hgv
    rw [HXX.out]
    exact ⟨rfl, hbb, hr, .inr ⟨hz, rfl⟩⟩

set_option maxRecDepth 100000 in
set_option maxHeartbeats 4000000 in
theorem read_C2 (w : World) (B R : Nat) (r : Pl.St) (line : Int) (t : List UInt8) (ws : List (List UInt8)) (l : List Int) (x : Int × Pl.St) (h : IsRd w B R r line) (hok : Rok r) (hB : B ≤ w.heap.size) (hm : MaxAt w) (ht : t.length ≤ 1000000)
    (hw : Pl.words t = [99, 97, 108, 108] :: ws) (hn : Pl.numsP ws = some l) (hp : r.part = 2) (hl : l.length = 6) (hxx : x = callTk r l) :
    Calls Tryd.prog 24 #[.pointer (some ⟨R, 0, none⟩), .string (St t)] w (TakePost w B R line x) := by
  have HF := Lib.hid (form_any t w ht hm _ ws hw)
  have HN := Lib.hid hn
  obtain ⟨sa, ca, pa, h⟩ := h
  have HRw := Lib.hid h.here.lt
  have H := Lib.hid h
  have HOK := Lib.hid hok
  have HBw := Lib.hid hB
  have HXX := Lib.hid hxx
  have HN1 : Hid (1 ≤ r.s.n ∧ r.s.n ≤ 16) := Lib.hid (hok.n (by omega))
  clear h hB hm hw hn hok hxx
  have hp1 : r.part ≠ 1 := by omega
  have p1 : (r.part == 1) = false := beq_eq_false_iff_ne.2 hp1
  have p2 : (r.part == 2) = true := beq_iff_eq.2 hp
  have HL := Lib.hid hl
  have l6 : ((l.length : Int) == 6) = true := beq_iff_eq.2 (by omega)
  clear hp hp1 hl
  go_enter Tryd.func24, Tryd.ntmps24
  go_wp2_with fail
  refine HF.out.mono ?_
  rintro e w2 ⟨hx, ⟨hno, -⟩ | ⟨l', hl', a, c, rfl, hi, -, hg⟩⟩
  · rw [HN.out] at hno; cases hno
  rw [HN.out] at hl'
  cases hl'
  have HX := Lib.hid hx
  have HI := Lib.hid hi
  have HG := Lib.hid hg
  have H2 := Lib.hid (H.out.ext hx)
  have HB2 : Hid (B ≤ w2.heap.size) := Lib.hid (Nat.le_trans HBw.out hx.size)
  have c5 := H2.out.here.cell 5 (v := .int .i64 r.part) rfl
  have c6 := H2.out.here.cell 6 (v := .bool r.last) rfl
  clear hx hi hg HF H
  go_wp2_with fail
  rw [HL.out]
  refine (call_any w2 B R r line a c l ⟨_, _, _, H2.out⟩ HOK.out HN1.out.1 HN1.out.2 HB2.out HL.out HI.out HG.out).mono ?_
  rintro e w3 ⟨hb, hr, hz⟩
  have hbb := (BB.ext HX.out HBw.out).trans hb
  rcases hz with ⟨hz, rfl⟩ | ⟨hz, hgv⟩
  · go_wp2_with fail
    go_end0
    rw [HXX.out]
    exact ⟨hbb, hr, .inl ⟨hz, rfl⟩⟩
  · unfold Gave at hgv
    subst hgv
    rw [HXX.out]
    exact ⟨rfl, hbb, hr, .inr ⟨hz, rfl⟩⟩

set_option maxRecDepth 100000 in
set_option maxHeartbeats 4000000 in
theorem read_C3 (w : World) (B R : Nat) (r : Pl.St) (line : Int) (t : List UInt8) (ws : List (List UInt8)) (l : List Int) (x : Int × Pl.St) (h : IsRd w B R r line) (hok : Rok r) (hB : B ≤ w.heap.size) (hm : MaxAt w) (ht : t.length ≤ 1000000)
    (hw : Pl.words t = [99, 97, 108, 108] :: ws) (hn : Pl.numsP ws = some l) (hp1 : r.part ≠ 1) (hp2 : r.part ≠ 2) (hxx : x = (5, r)) :
    Calls Tryd.prog 24 #[.pointer (some ⟨R, 0, none⟩), .string (St t)] w (TakePost w B R line x) := by
  have HF := Lib.hid (form_any t w ht hm _ ws hw)
  have HN := Lib.hid hn
  obtain ⟨sa, ca, pa, h⟩ := h
  have HRw := Lib.hid h.here.lt
  have H := Lib.hid h
  have HOK := Lib.hid hok
  have HBw := Lib.hid hB
  have HXX := Lib.hid hxx
  clear h hB hm hw hn hok hxx
  have p1 : (r.part == 1) = false := beq_eq_false_iff_ne.2 hp1
  have p2 : (r.part == 2) = false := beq_eq_false_iff_ne.2 hp2
  clear hp1 hp2
  go_enter Tryd.func24, Tryd.ntmps24
  go_wp2_with fail
  refine HF.out.mono ?_
  rintro e w2 ⟨hx, ⟨hno, -⟩ | ⟨l', hl', a, c, rfl, hi, -, hg⟩⟩
  · rw [HN.out] at hno; cases hno
  rw [HN.out] at hl'
  cases hl'
  have HX := Lib.hid hx
  have HI := Lib.hid hi
  have HG := Lib.hid hg
  have H2 := Lib.hid (H.out.ext hx)
  have HB2 : Hid (B ≤ w2.heap.size) := Lib.hid (Nat.le_trans HBw.out hx.size)
  have c5 := H2.out.here.cell 5 (v := .int .i64 r.part) rfl
  have c6 := H2.out.here.cell 6 (v := .bool r.last) rfl
  clear hx hi hg HF H
  go_wp2_with fail
  refine (give_no 5 _).mono ?_
  rintro e w3 ⟨hgv, rfl⟩
  unfold Gave at hgv
  subst hgv
  rw [HXX.out]
  exact ⟨rfl, BB.ext HX.out HBw.out, ⟨_, _, _, H2.out⟩, .inr ⟨(by show (5 : Int) ≠ 0; decide), rfl⟩⟩

set_option maxRecDepth 100000 in
set_option maxHeartbeats 4000000 in
theorem read_C4 (w : World) (B R : Nat) (r : Pl.St) (line : Int) (t : List UInt8) (ws : List (List UInt8)) (l : List Int) (x : Int × Pl.St) (h : IsRd w B R r line) (hok : Rok r) (hB : B ≤ w.heap.size) (hm : MaxAt w) (ht : t.length ≤ 1000000)
    (hw : Pl.words t = [99, 97, 108, 108] :: ws) (hn : Pl.numsP ws = some l) (hp : r.part = 1) (hl : l.length ≠ 6) (hxx : x = (5, r)) :
    Calls Tryd.prog 24 #[.pointer (some ⟨R, 0, none⟩), .string (St t)] w (TakePost w B R line x) := by
  have HF := Lib.hid (form_any t w ht hm _ ws hw)
  have HN := Lib.hid hn
  obtain ⟨sa, ca, pa, h⟩ := h
  have HRw := Lib.hid h.here.lt
  have H := Lib.hid h
  have HOK := Lib.hid hok
  have HBw := Lib.hid hB
  have HXX := Lib.hid hxx
  clear h hB hm hw hn hok hxx
  have p1 : (r.part == 1) = true := beq_iff_eq.2 hp
  have l6 : ((l.length : Int) == 6) = false := beq_eq_false_iff_ne.2 (by omega)
  clear hp hl
  go_enter Tryd.func24, Tryd.ntmps24
  go_wp2_with fail
  refine HF.out.mono ?_
  rintro e w2 ⟨hx, ⟨hno, -⟩ | ⟨l', hl', a, c, rfl, hi, -, hg⟩⟩
  · rw [HN.out] at hno; cases hno
  rw [HN.out] at hl'
  cases hl'
  have HX := Lib.hid hx
  have HI := Lib.hid hi
  have HG := Lib.hid hg
  have H2 := Lib.hid (H.out.ext hx)
  have HB2 : Hid (B ≤ w2.heap.size) := Lib.hid (Nat.le_trans HBw.out hx.size)
  have c5 := H2.out.here.cell 5 (v := .int .i64 r.part) rfl
  have c6 := H2.out.here.cell 6 (v := .bool r.last) rfl
  clear hx hi hg HF H
  go_wp2_with fail
  refine (give_no 5 _).mono ?_
  rintro e w3 ⟨hgv, rfl⟩
  unfold Gave at hgv
  subst hgv
  rw [HXX.out]
  exact ⟨rfl, BB.ext HX.out HBw.out, ⟨_, _, _, H2.out⟩, .inr ⟨(by show (5 : Int) ≠ 0; decide), rfl⟩⟩

set_option maxRecDepth 100000 in
set_option maxHeartbeats 4000000 in
theorem read_C5 (w : World) (B R : Nat) (r : Pl.St) (line : Int) (t : List UInt8) (ws : List (List UInt8)) (l : List Int) (x : Int × Pl.St) (h : IsRd w B R r line) (hok : Rok r) (hB : B ≤ w.heap.size) (hm : MaxAt w) (ht : t.length ≤ 1000000)
    (hw : Pl.words t = [99, 97, 108, 108] :: ws) (hn : Pl.numsP ws = some l) (hp : r.part = 2) (hl : l.length ≠ 6) (hxx : x = (5, r)) :
    Calls Tryd.prog 24 #[.pointer (some ⟨R, 0, none⟩), .string (St t)] w (TakePost w B R line x) := by
  have HF := Lib.hid (form_any t w ht hm _ ws hw)
  have HN := Lib.hid hn
  obtain ⟨sa, ca, pa, h⟩ := h
  have HRw := Lib.hid h.here.lt
  have H := Lib.hid h
  have HOK := Lib.hid hok
  have HBw := Lib.hid hB
  have HXX := Lib.hid hxx
  clear h hB hm hw hn hok hxx
  have hp1 : r.part ≠ 1 := by omega
  have p1 : (r.part == 1) = false := beq_eq_false_iff_ne.2 hp1
  have p2 : (r.part == 2) = true := beq_iff_eq.2 hp
  have l6 : ((l.length : Int) == 6) = false := beq_eq_false_iff_ne.2 (by omega)
  clear hp hp1 hl
  go_enter Tryd.func24, Tryd.ntmps24
  go_wp2_with fail
  refine HF.out.mono ?_
  rintro e w2 ⟨hx, ⟨hno, -⟩ | ⟨l', hl', a, c, rfl, hi, -, hg⟩⟩
  · rw [HN.out] at hno; cases hno
  rw [HN.out] at hl'
  cases hl'
  have HX := Lib.hid hx
  have HI := Lib.hid hi
  have HG := Lib.hid hg
  have H2 := Lib.hid (H.out.ext hx)
  have HB2 : Hid (B ≤ w2.heap.size) := Lib.hid (Nat.le_trans HBw.out hx.size)
  have c5 := H2.out.here.cell 5 (v := .int .i64 r.part) rfl
  have c6 := H2.out.here.cell 6 (v := .bool r.last) rfl
  clear hx hi hg HF H
  go_wp2_with fail
  refine (give_no 5 _).mono ?_
  rintro e w3 ⟨hgv, rfl⟩
  unfold Gave at hgv
  subst hgv
  rw [HXX.out]
  exact ⟨rfl, BB.ext HX.out HBw.out, ⟨_, _, _, H2.out⟩, .inr ⟨(by show (5 : Int) ≠ 0; decide), rfl⟩⟩

set_option maxRecDepth 100000 in
set_option maxHeartbeats 4000000 in
theorem read_P1 (w : World) (B R : Nat) (r : Pl.St) (line : Int) (t : List UInt8) (ws : List (List UInt8)) (l : List Int) (x : Int × Pl.St) (h : IsRd w B R r line) (hok : Rok r) (hB : B ≤ w.heap.size) (hm : MaxAt w) (ht : t.length ≤ 1000000)
    (hw : Pl.words t = [112, 105, 99, 107, 115] :: ws) (hn : Pl.numsP ws = some l) (hp : 0 < r.part) (hs : r.last = false) (hl1 : 1 ≤ l.length) (hl2 : l.length ≤ 16) (hxx : x = picksTk r l) :
    Calls Tryd.prog 24 #[.pointer (some ⟨R, 0, none⟩), .string (St t)] w (TakePost w B R line x) := by
  have HF := Lib.hid (form_any t w ht hm _ ws hw)
  have HN := Lib.hid hn
  obtain ⟨sa, ca, pa, h⟩ := h
  have HRw := Lib.hid h.here.lt
  have H := Lib.hid h
  have HOK := Lib.hid hok
  have HBw := Lib.hid hB
  have HXX := Lib.hid hxx
  clear h hB hm hw hn hok hxx
  have p0 : decide ((0 : Int) < r.part) = true := decide_eq_true (by omega)
  have q1 : decide ((1 : Int) ≤ (l.length : Int)) = true := decide_eq_true (by omega)
  have q2 : decide ((l.length : Int) ≤ 16) = true := decide_eq_true (by omega)
  have HLS := Lib.hid hs
  have HL1 := Lib.hid hl1
  have HL2 := Lib.hid hl2
  clear hp hs hl1 hl2
  go_enter Tryd.func24, Tryd.ntmps24
  go_wp2_with fail
  refine HF.out.mono ?_
  rintro e w2 ⟨hx, ⟨hno, -⟩ | ⟨l', hl', a, c, rfl, hi, -, hg⟩⟩
  · rw [HN.out] at hno; cases hno
  rw [HN.out] at hl'
  cases hl'
  have HX := Lib.hid hx
  have HI := Lib.hid hi
  have HG := Lib.hid hg
  have H2 := Lib.hid (H.out.ext hx)
  have HB2 : Hid (B ≤ w2.heap.size) := Lib.hid (Nat.le_trans HBw.out hx.size)
  have c5 := H2.out.here.cell 5 (v := .int .i64 r.part) rfl
  have c6 := H2.out.here.cell 6 (v := .bool r.last) rfl
  clear hx hi hg HF H
  rw [HLS.out] at c6
  go_wp2_with fail
  refine (picks_any w2 B R r line a c l ⟨_, _, _, H2.out⟩ HOK.out HB2.out HL1.out HL2.out HI.out HG.out).mono ?_
  rintro e w3 ⟨hb, hr, hz⟩
  have hbb := (BB.ext HX.out HBw.out).trans hb
  rcases hz with ⟨hz, rfl⟩ | ⟨hz, hgv⟩
  · go_wp2_with fail
    go_end0
    rw [HXX.out]
    exact ⟨hbb, hr, .inl ⟨hz, rfl⟩⟩
  · unfold Gave at hgv
    subst hgv
    rw [HXX.out]
    exact ⟨rfl, hbb, hr, .inr ⟨hz, rfl⟩⟩

set_option maxRecDepth 100000 in
set_option maxHeartbeats 4000000 in
theorem read_P2 (w : World) (B R : Nat) (r : Pl.St) (line : Int) (t : List UInt8) (ws : List (List UInt8)) (l : List Int) (x : Int × Pl.St) (h : IsRd w B R r line) (hok : Rok r) (hB : B ≤ w.heap.size) (hm : MaxAt w) (ht : t.length ≤ 1000000)
    (hw : Pl.words t = [112, 105, 99, 107, 115] :: ws) (hn : Pl.numsP ws = some l) (hp : ¬ 0 < r.part) (hxx : x = (5, r)) :
    Calls Tryd.prog 24 #[.pointer (some ⟨R, 0, none⟩), .string (St t)] w (TakePost w B R line x) := by
  have HF := Lib.hid (form_any t w ht hm _ ws hw)
  have HN := Lib.hid hn
  obtain ⟨sa, ca, pa, h⟩ := h
  have HRw := Lib.hid h.here.lt
  have H := Lib.hid h
  have HOK := Lib.hid hok
  have HBw := Lib.hid hB
  have HXX := Lib.hid hxx
  clear h hB hm hw hn hok hxx
  have p0 : decide ((0 : Int) < r.part) = false := decide_eq_false (by omega)
  clear hp
  go_enter Tryd.func24, Tryd.ntmps24
  go_wp2_with fail
  refine HF.out.mono ?_
  rintro e w2 ⟨hx, ⟨hno, -⟩ | ⟨l', hl', a, c, rfl, hi, -, hg⟩⟩
  · rw [HN.out] at hno; cases hno
  rw [HN.out] at hl'
  cases hl'
  have HX := Lib.hid hx
  have HI := Lib.hid hi
  have HG := Lib.hid hg
  have H2 := Lib.hid (H.out.ext hx)
  have HB2 : Hid (B ≤ w2.heap.size) := Lib.hid (Nat.le_trans HBw.out hx.size)
  have c5 := H2.out.here.cell 5 (v := .int .i64 r.part) rfl
  have c6 := H2.out.here.cell 6 (v := .bool r.last) rfl
  clear hx hi hg HF H
  go_wp2_with fail
  refine (give_no 5 _).mono ?_
  rintro e w3 ⟨hgv, rfl⟩
  unfold Gave at hgv
  subst hgv
  rw [HXX.out]
  exact ⟨rfl, BB.ext HX.out HBw.out, ⟨_, _, _, H2.out⟩, .inr ⟨(by show (5 : Int) ≠ 0; decide), rfl⟩⟩

set_option maxRecDepth 100000 in
set_option maxHeartbeats 4000000 in
theorem read_P3 (w : World) (B R : Nat) (r : Pl.St) (line : Int) (t : List UInt8) (ws : List (List UInt8)) (l : List Int) (x : Int × Pl.St) (h : IsRd w B R r line) (hok : Rok r) (hB : B ≤ w.heap.size) (hm : MaxAt w) (ht : t.length ≤ 1000000)
    (hw : Pl.words t = [112, 105, 99, 107, 115] :: ws) (hn : Pl.numsP ws = some l) (hp : 0 < r.part) (hs : r.last = true) (hxx : x = (5, r)) :
    Calls Tryd.prog 24 #[.pointer (some ⟨R, 0, none⟩), .string (St t)] w (TakePost w B R line x) := by
  have HF := Lib.hid (form_any t w ht hm _ ws hw)
  have HN := Lib.hid hn
  obtain ⟨sa, ca, pa, h⟩ := h
  have HRw := Lib.hid h.here.lt
  have H := Lib.hid h
  have HOK := Lib.hid hok
  have HBw := Lib.hid hB
  have HXX := Lib.hid hxx
  clear h hB hm hw hn hok hxx
  have p0 : decide ((0 : Int) < r.part) = true := decide_eq_true (by omega)
  have HLS := Lib.hid hs
  clear hp hs
  go_enter Tryd.func24, Tryd.ntmps24
  go_wp2_with fail
  refine HF.out.mono ?_
  rintro e w2 ⟨hx, ⟨hno, -⟩ | ⟨l', hl', a, c, rfl, hi, -, hg⟩⟩
  · rw [HN.out] at hno; cases hno
  rw [HN.out] at hl'
  cases hl'
  have HX := Lib.hid hx
  have HI := Lib.hid hi
  have HG := Lib.hid hg
  have H2 := Lib.hid (H.out.ext hx)
  have HB2 : Hid (B ≤ w2.heap.size) := Lib.hid (Nat.le_trans HBw.out hx.size)
  have c5 := H2.out.here.cell 5 (v := .int .i64 r.part) rfl
  have c6 := H2.out.here.cell 6 (v := .bool r.last) rfl
  clear hx hi hg HF H
  rw [HLS.out] at c6
  go_wp2_with fail
  refine (give_no 5 _).mono ?_
  rintro e w3 ⟨hgv, rfl⟩
  unfold Gave at hgv
  subst hgv
  rw [HXX.out]
  exact ⟨rfl, BB.ext HX.out HBw.out, ⟨_, _, _, H2.out⟩, .inr ⟨(by show (5 : Int) ≠ 0; decide), rfl⟩⟩

set_option maxRecDepth 100000 in
set_option maxHeartbeats 4000000 in
theorem read_P4 (w : World) (B R : Nat) (r : Pl.St) (line : Int) (t : List UInt8) (ws : List (List UInt8)) (l : List Int) (x : Int × Pl.St) (h : IsRd w B R r line) (hok : Rok r) (hB : B ≤ w.heap.size) (hm : MaxAt w) (ht : t.length ≤ 1000000)
    (hw : Pl.words t = [112, 105, 99, 107, 115] :: ws) (hn : Pl.numsP ws = some l) (hp : 0 < r.part) (hs : r.last = false) (hl1 : ¬ 1 ≤ l.length) (hxx : x = (5, r)) :
    Calls Tryd.prog 24 #[.pointer (some ⟨R, 0, none⟩), .string (St t)] w (TakePost w B R line x) := by
  have HF := Lib.hid (form_any t w ht hm _ ws hw)
  have HN := Lib.hid hn
  obtain ⟨sa, ca, pa, h⟩ := h
  have HRw := Lib.hid h.here.lt
  have H := Lib.hid h
  have HOK := Lib.hid hok
  have HBw := Lib.hid hB
  have HXX := Lib.hid hxx
  clear h hB hm hw hn hok hxx
  have p0 : decide ((0 : Int) < r.part) = true := decide_eq_true (by omega)
  have q1 : decide ((1 : Int) ≤ (l.length : Int)) = false := decide_eq_false (by omega)
  have HLS := Lib.hid hs
  clear hp hs
  go_enter Tryd.func24, Tryd.ntmps24
  go_wp2_with fail
  refine HF.out.mono ?_
  rintro e w2 ⟨hx, ⟨hno, -⟩ | ⟨l', hl', a, c, rfl, hi, -, hg⟩⟩
  · rw [HN.out] at hno; cases hno
  rw [HN.out] at hl'
  cases hl'
  have HX := Lib.hid hx
  have HI := Lib.hid hi
  have HG := Lib.hid hg
  have H2 := Lib.hid (H.out.ext hx)
  have HB2 : Hid (B ≤ w2.heap.size) := Lib.hid (Nat.le_trans HBw.out hx.size)
  have c5 := H2.out.here.cell 5 (v := .int .i64 r.part) rfl
  have c6 := H2.out.here.cell 6 (v := .bool r.last) rfl
  clear hx hi hg HF H
  rw [HLS.out] at c6
  go_wp2_with fail
  refine (give_no 5 _).mono ?_
  rintro e w3 ⟨hgv, rfl⟩
  unfold Gave at hgv
  subst hgv
  rw [HXX.out]
  exact ⟨rfl, BB.ext HX.out HBw.out, ⟨_, _, _, H2.out⟩, .inr ⟨(by show (5 : Int) ≠ 0; decide), rfl⟩⟩

set_option maxRecDepth 100000 in
set_option maxHeartbeats 4000000 in
theorem read_P5 (w : World) (B R : Nat) (r : Pl.St) (line : Int) (t : List UInt8) (ws : List (List UInt8)) (l : List Int) (x : Int × Pl.St) (h : IsRd w B R r line) (hok : Rok r) (hB : B ≤ w.heap.size) (hm : MaxAt w) (ht : t.length ≤ 1000000)
    (hw : Pl.words t = [112, 105, 99, 107, 115] :: ws) (hn : Pl.numsP ws = some l) (hp : 0 < r.part) (hs : r.last = false) (hl1 : 1 ≤ l.length) (hl2 : ¬ l.length ≤ 16) (hxx : x = (5, r)) :
    Calls Tryd.prog 24 #[.pointer (some ⟨R, 0, none⟩), .string (St t)] w (TakePost w B R line x) := by
  have HF := Lib.hid (form_any t w ht hm _ ws hw)
  have HN := Lib.hid hn
  obtain ⟨sa, ca, pa, h⟩ := h
  have HRw := Lib.hid h.here.lt
  have H := Lib.hid h
  have HOK := Lib.hid hok
  have HBw := Lib.hid hB
  have HXX := Lib.hid hxx
  clear h hB hm hw hn hok hxx
  have p0 : decide ((0 : Int) < r.part) = true := decide_eq_true (by omega)
  have q1 : decide ((1 : Int) ≤ (l.length : Int)) = true := decide_eq_true (by omega)
  have q2 : decide ((l.length : Int) ≤ 16) = false := decide_eq_false (by omega)
  have HLS := Lib.hid hs
  clear hp hs
  go_enter Tryd.func24, Tryd.ntmps24
  go_wp2_with fail
  refine HF.out.mono ?_
  rintro e w2 ⟨hx, ⟨hno, -⟩ | ⟨l', hl', a, c, rfl, hi, -, hg⟩⟩
  · rw [HN.out] at hno; cases hno
  rw [HN.out] at hl'
  cases hl'
  have HX := Lib.hid hx
  have HI := Lib.hid hi
  have HG := Lib.hid hg
  have H2 := Lib.hid (H.out.ext hx)
  have HB2 : Hid (B ≤ w2.heap.size) := Lib.hid (Nat.le_trans HBw.out hx.size)
  have c5 := H2.out.here.cell 5 (v := .int .i64 r.part) rfl
  have c6 := H2.out.here.cell 6 (v := .bool r.last) rfl
  clear hx hi hg HF H
  rw [HLS.out] at c6
  go_wp2_with fail
  refine (give_no 5 _).mono ?_
  rintro e w3 ⟨hgv, rfl⟩
  unfold Gave at hgv
  subst hgv
  rw [HXX.out]
  exact ⟨rfl, BB.ext HX.out HBw.out, ⟨_, _, _, H2.out⟩, .inr ⟨(by show (5 : Int) ≠ 0; decide), rfl⟩⟩

set_option maxRecDepth 100000 in
set_option maxHeartbeats 4000000 in
theorem read_N (w : World) (B R : Nat) (r : Pl.St) (line : Int) (t : List UInt8) (wd : List UInt8) (ws : List (List UInt8)) (l : List Int) (x : Int × Pl.St) (h : IsRd w B R r line) (hok : Rok r) (hB : B ≤ w.heap.size) (hm : MaxAt w) (ht : t.length ≤ 1000000)
    (hw : Pl.words t = wd :: ws) (hn : Pl.numsP ws = some l) (n1 : ¬ wd = [116, 104, 114, 101, 97, 100, 115]) (n2 : ¬ wd = [111, 98, 106, 101, 99, 116]) (n3 : ¬ wd = [99, 97, 108, 108]) (n4 : ¬ wd = [112, 105, 99, 107, 115]) (hxx : x = (5, r)) :
    Calls Tryd.prog 24 #[.pointer (some ⟨R, 0, none⟩), .string (St t)] w (TakePost w B R line x) := by
  have HF := Lib.hid (form_any t w ht hm _ ws hw)
  have HN := Lib.hid hn
  obtain ⟨sa, ca, pa, h⟩ := h
  have HRw := Lib.hid h.here.lt
  have H := Lib.hid h
  have HOK := Lib.hid hok
  have HBw := Lib.hid hB
  have HXX := Lib.hid hxx
  clear h hB hm hw hn hok hxx
  go_enter Tryd.func24, Tryd.ntmps24
  go_wp2_with fail
  refine HF.out.mono ?_
  rintro e w2 ⟨hx, ⟨hno, -⟩ | ⟨l', hl', a, c, rfl, hi, -, hg⟩⟩
  · rw [HN.out] at hno; cases hno
  rw [HN.out] at hl'
  cases hl'
  have HX := Lib.hid hx
  have HI := Lib.hid hi
  have HG := Lib.hid hg
  have H2 := Lib.hid (H.out.ext hx)
  have HB2 : Hid (B ≤ w2.heap.size) := Lib.hid (Nat.le_trans HBw.out hx.size)
  have c5 := H2.out.here.cell 5 (v := .int .i64 r.part) rfl
  have c6 := H2.out.here.cell 6 (v := .bool r.last) rfl
  clear hx hi hg HF H
  go_wp2_with fail
  refine (give_no 5 _).mono ?_
  rintro e w3 ⟨hgv, rfl⟩
  unfold Gave at hgv
  subst hgv
  rw [HXX.out]
  exact ⟨rfl, BB.ext HX.out HBw.out, ⟨_, _, _, H2.out⟩, .inr ⟨(by show (5 : Int) ≠ 0; decide), rfl⟩⟩

theorem read_any (w : World) (B R : Nat) (r : Pl.St) (line : Int) (t : List UInt8) (h : IsRd w B R r line) (hok : Rok r) (hB : B ≤ w.heap.size) (hm : MaxAt w) (ht : t.length ≤ 1000000) :
    Calls Tryd.prog 24 #[.pointer (some ⟨R, 0, none⟩), .string (St t)] w (TakePost w B R line (Pl.stepL r t)) := by
  cases hw : Pl.words t with
  | nil => exact absurd hw (plwords_ne t)
  | cons wd ws =>
    cases hn : Pl.numsP ws with
    | none =>
      have e : Pl.stepL r t = (5, r) := by unfold Pl.stepL; rw [hw]; simp only [hn]
      rw [e]
      exact read_form w B R r line t wd ws h hB hm ht hw hn
    | some l =>
      have e : Pl.stepL r t = Pl.takeL r wd l := by unfold Pl.stepL; rw [hw]; simp only [hn]
      rw [e]
      by_cases hT : wd = Pl.wT
      · subst hT
        have no : ¬ (r.part = 0 ∧ l.length = 1) → Pl.takeL r Pl.wT l = (5, r) := fun hh => takeL_no (fun g => hh g.2) (fun g => absurd g.1 (by decide)) (fun g => absurd g.1 (by decide)) (fun g => absurd g.1 (by decide))
        by_cases hp : r.part = 0
        · by_cases hl : l.length = 1
          · by_cases h1 : 1 ≤ nth l 0
            · by_cases h2 : nth l 0 ≤ 16
              · exact read_T1 w B R r line t ws l _ h hok hB hm ht hw hn hp hl h1 h2 (by rw [takeL_T hp hl, if_pos ⟨h1, h2⟩])
              · exact read_T3 w B R r line t ws l _ h hok hB hm ht hw hn hp hl h1 (by omega) (by rw [takeL_T hp hl, if_neg (by omega)])
            · exact read_T2 w B R r line t ws l _ h hok hB hm ht hw hn hp hl (by omega) (by rw [takeL_T hp hl, if_neg (by omega)])
          · exact read_T5 w B R r line t ws l _ h hok hB hm ht hw hn hp hl (no (by omega))
        · exact read_T4 w B R r line t ws l _ h hok hB hm ht hw hn hp (no (by omega))
      by_cases hO : wd = Pl.wO
      · subst hO
        have no : ¬ (r.part = 1 ∧ l.length = 3) → Pl.takeL r Pl.wO l = (5, r) := fun hh => takeL_no (fun g => absurd g.1 (by decide)) (fun g => hh g.2) (fun g => absurd g.1 (by decide)) (fun g => absurd g.1 (by decide))
        by_cases hp : r.part = 1
        · by_cases hl : l.length = 3
          · exact read_O1 w B R r line t ws l _ h hok hB hm ht hw hn hp hl (takeL_O hp hl)
          · exact read_O3 w B R r line t ws l _ h hok hB hm ht hw hn hp hl (no (by omega))
        · exact read_O2 w B R r line t ws l _ h hok hB hm ht hw hn hp (no (by omega))
      by_cases hC : wd = Pl.wC
      · subst hC
        have no : ¬ ((r.part = 1 ∨ r.part = 2) ∧ l.length = 6) → Pl.takeL r Pl.wC l = (5, r) := fun hh => takeL_no (fun g => absurd g.1 (by decide)) (fun g => absurd g.1 (by decide)) (fun g => hh g.2) (fun g => absurd g.1 (by decide))
        by_cases hp : r.part = 1
        · by_cases hl : l.length = 6
          · exact read_C1 w B R r line t ws l _ h hok hB hm ht hw hn hp hl (takeL_C (.inl hp) hl)
          · exact read_C4 w B R r line t ws l _ h hok hB hm ht hw hn hp hl (no (by omega))
        · by_cases hp2 : r.part = 2
          · by_cases hl : l.length = 6
            · exact read_C2 w B R r line t ws l _ h hok hB hm ht hw hn hp2 hl (takeL_C (.inr hp2) hl)
            · exact read_C5 w B R r line t ws l _ h hok hB hm ht hw hn hp2 hl (no (by omega))
          · exact read_C3 w B R r line t ws l _ h hok hB hm ht hw hn hp hp2 (no (by omega))
      by_cases hP : wd = Pl.wP
      · subst hP
        have no : ¬ (0 < r.part ∧ r.last = false ∧ 1 ≤ l.length ∧ l.length ≤ 16) → Pl.takeL r Pl.wP l = (5, r) := fun hh => takeL_no (fun g => absurd g.1 (by decide)) (fun g => absurd g.1 (by decide)) (fun g => absurd g.1 (by decide)) (fun g => hh g.2)
        by_cases hp : 0 < r.part
        · cases hs : r.last with
          | true => exact read_P3 w B R r line t ws l _ h hok hB hm ht hw hn hp hs (no (by rw [hs]; simp))
          | false =>
            by_cases h1 : 1 ≤ l.length
            · by_cases h2 : l.length ≤ 16
              · exact read_P1 w B R r line t ws l _ h hok hB hm ht hw hn hp hs h1 h2 (takeL_P hp hs h1 h2)
              · exact read_P5 w B R r line t ws l _ h hok hB hm ht hw hn hp hs h1 h2 (no (fun g => h2 g.2.2.2))
            · exact read_P4 w B R r line t ws l _ h hok hB hm ht hw hn hp hs h1 (no (fun g => h1 g.2.2.1))
        · exact read_P2 w B R r line t ws l _ h hok hB hm ht hw hn hp (no (fun g => hp g.1))
      exact read_N w B R r line t wd ws l _ h hok hB hm ht hw hn hT hO hC hP (takeL_no (fun g => hT g.1) (fun g => hO g.1) (fun g => hC g.1) (fun g => hP g.1))

end Go.Proofs.YtcfbcffmlinlaaaDoor
