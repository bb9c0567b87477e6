/-
  plan's reader: picks.
  plan's reader: a line.
  plan.Read's deferred closure: it takes up what a line gave up with.
-/
import Derived.Test.YtcfbcffmlinlaaaDoorJ09
import Derived.Test.YtcfbcffmlinlaaaDoorJ10
import Derived.Defers
import Derived.Recover
import Derived.Laws.Pointers
set_option linter.unusedVariables false
namespace Go.Proofs.YtcfbcffmlinlaaaDoor
open Go.RowKit

def picksTk (r : Pl.St) (l : List Int) : Int × Pl.St :=
  if l.any (fun x => decide (255 < x)) = true then (10, r)
  else if 65536 < r.s.picks.length + l.length then (3, r)
  else (0, ⟨⟨r.s.n, r.s.specs, r.s.calls, r.s.picks ++ l⟩, 3, decide (l.length < 16)⟩)

theorem picksTk_bad {r : Pl.St} {l : List Int} {x : Int} (h : x ∈ l) (hx : 255 < x) : picksTk r l = (10, r) := by
  unfold picksTk; rw [if_pos]; rw [List.any_eq_true]; exact ⟨x, h, by simpa using hx⟩
theorem picksTk_ok {r : Pl.St} {l : List Int} (h : ∀ x ∈ l, x ≤ 255) : picksTk r l = if 65536 < r.s.picks.length + l.length then (3, r) else (0, ⟨⟨r.s.n, r.s.specs, r.s.calls, r.s.picks ++ l⟩, 3, decide (l.length < 16)⟩) := by
  unfold picksTk; rw [if_neg]; rw [List.any_eq_true]
  rintro ⟨x, hx, h2⟩
  have := h x hx
  simp at h2; omega

set_option maxRecDepth 100000 in
set_option maxHeartbeats 4000000 in
theorem picks_any (w : World) (B R : Nat) (r : Pl.St) (line : Int) (a : Option Addr) (c : Nat) (l : List Int) (h : IsRd w B R r line) (hok : Rok r) (hB : B ≤ w.heap.size) (hl1 : 1 ≤ l.length) (hl : l.length ≤ 16) (hi : IsInts .u64 w a l)
    (hg : ∀ x ∈ l, 0 ≤ x ∧ x ≤ 18446744073709551615) :
    Calls Tryd.prog 44 #[.pointer (some ⟨R, 0, none⟩), .slice a l.length c] w (TakePost w B R line (picksTk r l)) := by
  obtain ⟨sa, ca, pa, h⟩ := h
  have HRw := Lib.hid h.here.lt
  obtain ⟨qa, qc, rfl, -⟩ := own_slice h.picks
  have H := Lib.hid h
  have HBw := Lib.hid hB
  have HG := Lib.hid hg
  have HI := Lib.hid hi
  have hp6 := hok.picks
  clear h hB hg hi hok
  go_enter Tryd.func44, Tryd.ntmps44
  go_wp2_with fail
  go_loopw [4, 9] (fun u v wr => ∃ i : Nat, i ≤ l.length ∧ v = .int .i64 (i : Int) ∧ Hid (∀ x ∈ l.take i, x ≤ 255) ∧ Hid (Ext w wr) ∧ Hid (wr.ownsRow w.heap.size 3 1 u i ((l.take i).map (Value.int .i64)))) (fun _ v _ => l.length - (intOf v).toNat)
  case atStart => exact ⟨0, Nat.zero_le _, rfl, Lib.hid (fun x hx => by cases hx), Lib.hid (Ext.refl _), Lib.hid (World.ownsRow_nil _ _ _ _)⟩
  case round =>
    obtain ⟨i, hil, rfl, HL, HX, HO⟩ := hrel
    obtain ⟨va, vc, rfl, -⟩ := own_slice HO.out
    have htl : (l.take i).length = i := by rw [List.length_take]; omega
    by_cases hlt : i < l.length
    · obtain ⟨b, off, rfl, e1⟩ := (HI.out.ext HX.out).at hlt
      obtain ⟨x0, x1⟩ := HG.out _ (nth_mem l i hlt)
      have HS := Lib.hid (take_snoc l i hlt)
      have HM := Lib.hid (nth_mem l i hlt)
      have HT := Lib.hid htl; clear htl
      generalize nth l i = x at *
      by_cases hx : x ≤ 255
      · have HX255 := Lib.hid hx
        go_wp2_with fail
        refine (fits_ok x 255 _ x0 hx (by decide)).mono ?_
        rintro e w2 ⟨rfl, rfl⟩
        go_wp2_with (at_builtin; refine wpList_app1 rfl (.tmp 13) (.tmp 16) 24 rfl w.heap.size 3 _ 8 Tryd.underlying24 Tryd.infoInt rfl _ _ _ (.int .i64 x) _ rfl (own_ext HO.out ((Ext.refl _).alloc _)) rfl ?_ rfl ?_ ?_ ?_ ?_; rotate_right; intro v' w3 ho3 hg3 hb3)
        any_goals (first | (rw [World.cell?_alloc_at _ _ _ _ (by simp)]; rfl) | (unfold maxLen; omega) | omega | (have := HX.out.size; simp; omega))
        go_roundw
        case rel =>
          refine ⟨i + 1, by omega, by go_num, Lib.hid ?_, Lib.hid (Below.trans (HX.out.alloc _) hb3), Lib.hid ?_⟩
          · rw [HS.out]
            intro y hy
            rcases List.mem_append.1 hy with h | h
            · exact HL.out y h
            · simp only [List.mem_singleton] at h; rw [h]; exact hx
          · rw [HS.out, List.map_append]; exact ho3
        case measure => simp [intOf]; omega
      · have HTK := Lib.hid (picksTk_bad (r := r) HM.out (show 255 < x by omega))
        go_wp2_with fail
        refine (fits_no x 255 _ x0 (by omega) x1 (by decide) (by decide)).mono ?_
        rintro e w2 ⟨hgv, rfl⟩
        unfold Gave at hgv
        subst hgv
        refine ⟨rfl, BB.ext HX.out HBw.out, ?_, ?_⟩
        · rw [HTK.out]; exact ⟨_, _, _, H.out.ext HX.out⟩
        · rw [HTK.out]; exact .inr ⟨(by show (10 : Int) ≠ 0; decide), rfl⟩
    · obtain rfl : i = l.length := by omega
      have hall : l.take l.length = l := List.take_length
      rw [hall] at HL HO
      clear hall htl
      have HTK := Lib.hid (picksTk_ok (r := r) HL.out)
      have H2 := Lib.hid (H.out.ext HX.out)
      have c3 := H2.out.here.cell 3 (v := .slice qa r.s.picks.length qc) rfl
      have cR := H2.out.here.lt
      obtain ⟨a', c', e1, -, -, hin, hnil⟩ := IsInts.ownK HO.out
      simp only [Value.slice.injEq] at e1
      obtain ⟨rfl, -, rfl⟩ := e1
      have HV := Lib.hid hin.vals
      have HNIL := Lib.hid hnil
      clear hin hnil
      have hws := HX.out.size
      by_cases hp : 65536 < r.s.picks.length + l.length
      · have HTK2 := Lib.hid (HTK.out.trans (if_pos hp))
        have d : decide ((l.length : Int) ≤ 65536 - (r.s.picks.length : Int)) = false := decide_eq_false (by omega)
        clear HTK
        go_wp2_with fail
        refine (give_no 3 _).mono ?_
        rintro e w3 ⟨hgv, rfl⟩
        unfold Gave at hgv
        subst hgv
        refine ⟨rfl, BB.ext HX.out HBw.out, ?_, ?_⟩
        · rw [HTK2.out]; exact ⟨_, _, _, H2.out⟩
        · rw [HTK2.out]; exact .inr ⟨(by show (3 : Int) ≠ 0; decide), rfl⟩
      · have HTK2 := Lib.hid (HTK.out.trans (if_neg hp))
        have d : decide ((l.length : Int) ≤ 65536 - (r.s.picks.length : Int)) = true := decide_eq_true (by omega)
        clear HTK
        have hbb : B ≤ wr.heap.size := Nat.le_trans HBw.out HX.out.size
        have hnil2 : va = none → l.map (Value.int .i64) = [] ∧ vc = 0 := fun h => by
          rcases HV.out with h1 | ⟨b, off, h1, -⟩
          · exact ⟨h1, HNIL.out h⟩
          · rw [h] at h1; cases h1
        have HNIL2 := Lib.hid hnil2
        clear hnil2
        go_wp2_with fail
        refine (give_ok 3 _).mono ?_
        rintro e w3 ⟨rfl, rfl⟩
        go_upto_region 8 with (at_builtin; refine wpList_appN rfl (.tmp 35) (.tmp 36) 24 rfl B 3 _ 8 Tryd.underlying24 Tryd.infoInt rfl _ _ _ (l.map (Value.int .i64)) va l.length vc (by simp) rfl H2.out.picks rfl HNIL2.out HV.out (by intro u hu; obtain ⟨y, -, rfl⟩ := List.mem_map.1 hu; rfl) (by unfold maxLen; omega) (by omega) hbb ?_; intro v' w4 ho4 hg4 hb4; obtain ⟨hb4', hp4⟩ := H2.out.app_picks l hg4 ho4; have k1 := hb4'.cell 3 (v := .slice qa r.s.picks.length qc) rfl; have k2 := hb4'.fz 3; have k3 := hb4'.lt; have HP4 := Lib.hid hp4; have HB4 := Lib.hid hb4; obtain ⟨pa', pc', rfl, -⟩ := own_slice ho4; clear hb4' hp4 ho4 hg4 hb4)
        have HB5 : Hid (BB B R w (w4.setCell ⟨R, 3, none⟩ (.slice pa' (r.s.picks.length + l.length) pc'))) := Lib.hid ((BB.ext HX.out HBw.out).trans ((BB.of HB4.out).trans (BB.set _ _)))
        clear k1 k2 k3 c3 cR HB4
        generalize (w4.setCell ⟨R, 3, none⟩ (.slice pa' (r.s.picks.length + l.length) pc')) = W5 at *
        have k1 := HP4.out.here.cell 5 (v := .int .i64 r.part) rfl
        have k2 := HP4.out.here.fz 5
        have k3 := HP4.out.here.lt
        go_upto_region 9 with (fail)
        have HP6 := Lib.hid (HP4.out.set_part 3)
        have HB6 := Lib.hid (HB5.out.trans (BB.set (i := 5) W5 (.int .i64 3)))
        clear k1 k2 k3 HP4 HB5
        generalize W5.setCell ⟨R, 5, none⟩ (.int .i64 3) = W6 at *
        have k1 := HP6.out.here.cell 6 (v := .bool r.last) rfl
        have k2 := HP6.out.here.fz 6
        have k3 := HP6.out.here.lt
        go_wp2_with fail
        go_end0
        refine ⟨HB6.out.trans (BB.set _ _), ?_, ?_⟩
        · rw [HTK2.out, show decide (l.length < 16) = decide ((l.length : Int) < 16) from by rw [decide_eq_decide]; omega]; exact ⟨_, _, _, HP6.out.set_last _⟩
        · rw [HTK2.out]; exact .inl ⟨rfl, rfl⟩

end Go.Proofs.YtcfbcffmlinlaaaDoor

namespace Go.Proofs.YtcfbcffmlinlaaaDoor
open Go.RowKit

theorem takeL_no {r : Pl.St} {w : List UInt8} {l : List Int} (h1 : ¬ (w = Pl.wT ∧ r.part = 0 ∧ l.length = 1)) (h2 : ¬ (w = Pl.wO ∧ r.part = 1 ∧ l.length = 3)) (h3 : ¬ (w = Pl.wC ∧ (r.part = 1 ∨ r.part = 2) ∧ l.length = 6))
    (h4 : ¬ (w = Pl.wP ∧ 0 < r.part ∧ r.last = false ∧ 1 ≤ l.length ∧ l.length ≤ 16)) : Pl.takeL r w l = (5, r) := by
  unfold Pl.takeL; rw [if_neg h1, if_neg h2, if_neg h3, if_neg h4]
theorem takeL_T {r : Pl.St} {l : List Int} (hp : r.part = 0) (hl : l.length = 1) : Pl.takeL r Pl.wT l = if 1 ≤ nth l 0 ∧ nth l 0 ≤ 16 then (0, ⟨⟨nth l 0, r.s.specs, r.s.calls, r.s.picks⟩, 1, r.last⟩) else (1, r) := by
  unfold Pl.takeL; rw [if_pos ⟨rfl, hp, hl⟩]
theorem takeL_O {r : Pl.St} {l : List Int} (hp : r.part = 1) (hl : l.length = 3) : Pl.takeL r Pl.wO l = objT r l := by
  unfold Pl.takeL; rw [if_neg (fun h => absurd h.1 (by decide)), if_pos ⟨rfl, hp, hl⟩]; rfl
theorem takeL_C {r : Pl.St} {l : List Int} (hp : r.part = 1 ∨ r.part = 2) (hl : l.length = 6) : Pl.takeL r Pl.wC l = callTk r l := by
  unfold Pl.takeL; rw [if_neg (fun h => absurd h.1 (by decide)), if_neg (fun h => absurd h.1 (by decide)), if_pos ⟨rfl, hp, hl⟩]; rfl
theorem takeL_P {r : Pl.St} {l : List Int} (hp : 0 < r.part) (hs : r.last = false) (h1 : 1 ≤ l.length) (h2 : l.length ≤ 16) : Pl.takeL r Pl.wP l = picksTk r l := by
  unfold Pl.takeL; rw [if_neg (fun h => absurd h.1 (by decide)), if_neg (fun h => absurd h.1 (by decide)), if_neg (fun h => absurd h.1 (by decide)), if_pos ⟨rfl, hp, hs, h1, h2⟩]; rfl

theorem Rok_def (r : Pl.St) (h : Rok r) : 0 ≤ r.part ∧ r.part ≤ 3 := h.part

/-- form gives up: so does read. -/
theorem read_form (w : World) (B R : Nat) (r : Pl.St) (line : Int) (t wd : List UInt8) (ws : List (List UInt8)) (h : IsRd w B R r line) (hB : B ≤ w.heap.size) (hm : MaxAt w) (ht : t.length ≤ 1000000)
    (hw : Pl.words t = wd :: ws) (hn : Pl.numsP ws = none) :
    Calls Tryd.prog 24 #[.pointer (some ⟨R, 0, none⟩), .string (St t)] w (TakePost w B R line (5, r)) := by
  have HF := Lib.hid (form_any t w ht hm wd ws hw)
  have HN := Lib.hid hn
  have H := Lib.hid h
  have HBw := Lib.hid hB
  clear h hB hm hw hn
  go_enter Tryd.func24, Tryd.ntmps24
  go_wp2_with fail
  refine HF.out.mono ?_
  rintro e w2 ⟨hx, ⟨-, hgv⟩ | ⟨l', hl', -⟩⟩
  · unfold Gave at hgv
    subst hgv
    exact ⟨rfl, BB.ext hx HBw.out, H.out.ext hx, .inr ⟨(by show (5 : Int) ≠ 0; decide), rfl⟩⟩
  · rw [HN.out] at hl'; cases hl'

set_option maxRecDepth 100000 in
set_option maxHeartbeats 4000000 in
theorem read_T1 (w : World) (B R : Nat) (r : Pl.St) (line : Int) (t : List UInt8) (ws : List (List UInt8)) (l : List Int) (x : Int × Pl.St) (h : IsRd w B R r line) (hok : Rok r) (hB : B ≤ w.heap.size) (hm : MaxAt w) (ht : t.length ≤ 1000000)
    (hw : Pl.words t = [116, 104, 114, 101, 97, 100, 115] :: ws) (hn : Pl.numsP ws = some l) (hp : r.part = 0) (hl : l.length = 1) (hy1 : 1 ≤ nth l 0) (hy2 : nth l 0 ≤ 16) (hxx : x = (0, ⟨⟨nth l 0, r.s.specs, r.s.calls, r.s.picks⟩, 1, r.last⟩)) :
    Calls Tryd.prog 24 #[.pointer (some ⟨R, 0, none⟩), .string (St t)] w (TakePost w B R line x) := by
  have HF := Lib.hid (form_any t w ht hm _ ws hw)
  have HN := Lib.hid hn
  obtain ⟨sa, ca, pa, h⟩ := h
  have HRw := Lib.hid h.here.lt
  have H := Lib.hid h
  have HOK := Lib.hid hok
  have HBw := Lib.hid hB
  have HXX := Lib.hid hxx
  clear h hB hm hw hn hok hxx
  have HP := Lib.hid hp
  have p0 : (r.part == 0) = true := beq_iff_eq.2 hp
  have HL := Lib.hid hl
  have l1 : ((l.length : Int) == 1) = true := beq_iff_eq.2 (by omega)
  have hl0 : 0 < l.length := by omega
  clear hp hl
  go_enter Tryd.func24, Tryd.ntmps24
  go_wp2_with fail
  refine HF.out.mono ?_
  rintro e w2 ⟨hx, ⟨hno, -⟩ | ⟨l', hl', a, c, rfl, hi, -, hg⟩⟩
  · rw [HN.out] at hno; cases hno
  rw [HN.out] at hl'
  cases hl'
  have HX := Lib.hid hx
  have HI := Lib.hid hi
  have HG := Lib.hid hg
  have H2 := Lib.hid (H.out.ext hx)
  have HB2 : Hid (B ≤ w2.heap.size) := Lib.hid (Nat.le_trans HBw.out hx.size)
  have c5 := H2.out.here.cell 5 (v := .int .i64 r.part) rfl
  have c6 := H2.out.here.cell 6 (v := .bool r.last) rfl
  clear hx hi hg HF H
  have hly : l.length = 1 := HL.out
  obtain ⟨b, off, rfl, k0⟩ := HI.out.at (i := 0) (by omega)
  obtain ⟨x0, x1⟩ := HG.out _ (nth_mem l 0 (by omega))
  rw [Nat.add_zero] at k0
  generalize nth l 0 = y at *
  clear hly
  have y1 : decide ((1 : Int) ≤ y) = true := decide_eq_true hy1
  have y2 : decide (y ≤ (16 : Int)) = true := decide_eq_true hy2
  go_wp2_with fail
  refine (give_ok 1 _).mono ?_
  rintro e w3 ⟨rfl, rfl⟩
  have k1 := H2.out.here.cell 0 (v := .int .i64 r.s.n) rfl
  have k2 := H2.out.here.fz 0
  have k3 := H2.out.here.lt
  go_upto_region 5 with (fail)
  have HP6 := Lib.hid (H2.out.set_n y)
  have HB6 : Hid (BB B R w (w2.setCell ⟨R, 0, none⟩ (.int .i64 y))) := Lib.hid ((BB.ext HX.out HBw.out).trans (BB.set _ _))
  clear k0 k1 k2 k3 c5 c6
  generalize w2.setCell ⟨R, 0, none⟩ (.int .i64 y) = W6 at *
  have k1 := HP6.out.here.cell 5 (v := .int .i64 r.part) rfl
  have k2 := HP6.out.here.fz 5
  have k3 := HP6.out.here.lt
  go_wp2_with fail
  go_end0
  rw [HXX.out]
  exact ⟨HB6.out.trans (BB.set _ _), ⟨_, _, _, HP6.out.set_part 1⟩, .inl ⟨rfl, rfl⟩⟩

set_option maxRecDepth 100000 in
set_option maxHeartbeats 4000000 in
theorem read_T2 (w : World) (B R : Nat) (r : Pl.St) (line : Int) (t : List UInt8) (ws : List (List UInt8)) (l : List Int) (x : Int × Pl.St) (h : IsRd w B R r line) (hok : Rok r) (hB : B ≤ w.heap.size) (hm : MaxAt w) (ht : t.length ≤ 1000000)
    (hw : Pl.words t = [116, 104, 114, 101, 97, 100, 115] :: ws) (hn : Pl.numsP ws = some l) (hp : r.part = 0) (hl : l.length = 1) (hy1 : nth l 0 < 1) (hxx : x = (1, r)) :
    Calls Tryd.prog 24 #[.pointer (some ⟨R, 0, none⟩), .string (St t)] w (TakePost w B R line x) := by
  have HF := Lib.hid (form_any t w ht hm _ ws hw)
  have HN := Lib.hid hn
  obtain ⟨sa, ca, pa, h⟩ := h
  have HRw := Lib.hid h.here.lt
  have H := Lib.hid h
  have HOK := Lib.hid hok
  have HBw := Lib.hid hB
  have HXX := Lib.hid hxx
  clear h hB hm hw hn hok hxx
  have HP := Lib.hid hp
  have p0 : (r.part == 0) = true := beq_iff_eq.2 hp
  have HL := Lib.hid hl
  have l1 : ((l.length : Int) == 1) = true := beq_iff_eq.2 (by omega)
  have hl0 : 0 < l.length := by omega
  clear hp hl
  go_enter Tryd.func24, Tryd.ntmps24
  go_wp2_with fail
  refine HF.out.mono ?_
  rintro e w2 ⟨hx, ⟨hno, -⟩ | ⟨l', hl', a, c, rfl, hi, -, hg⟩⟩
  · rw [HN.out] at hno; cases hno
  rw [HN.out] at hl'
  cases hl'
  have HX := Lib.hid hx
  have HI := Lib.hid hi
  have HG := Lib.hid hg
  have H2 := Lib.hid (H.out.ext hx)
  have HB2 : Hid (B ≤ w2.heap.size) := Lib.hid (Nat.le_trans HBw.out hx.size)
  have c5 := H2.out.here.cell 5 (v := .int .i64 r.part) rfl
  have c6 := H2.out.here.cell 6 (v := .bool r.last) rfl
  clear hx hi hg HF H
  have hly : l.length = 1 := HL.out
  obtain ⟨b, off, rfl, k0⟩ := HI.out.at (i := 0) (by omega)
  obtain ⟨x0, x1⟩ := HG.out _ (nth_mem l 0 (by omega))
  rw [Nat.add_zero] at k0
  generalize nth l 0 = y at *
  clear hly
  have y1 : decide ((1 : Int) ≤ y) = false := decide_eq_false (by omega)
  go_wp2_with fail
  refine (give_no 1 _).mono ?_
  rintro e w3 ⟨hgv, rfl⟩
  unfold Gave at hgv
  subst hgv
  rw [HXX.out]
  exact ⟨rfl, BB.ext HX.out HBw.out, ⟨_, _, _, H2.out⟩, .inr ⟨(by show (1 : Int) ≠ 0; decide), rfl⟩⟩

set_option maxRecDepth 100000 in
set_option maxHeartbeats 4000000 in
theorem read_T3 (w : World) (B R : Nat) (r : Pl.St) (line : Int) (t : List UInt8) (ws : List (List UInt8)) (l : List Int) (x : Int × Pl.St) (h : IsRd w B R r line) (hok : Rok r) (hB : B ≤ w.heap.size) (hm : MaxAt w) (ht : t.length ≤ 1000000)
    (hw : Pl.words t = [116, 104, 114, 101, 97, 100, 115] :: ws) (hn : Pl.numsP ws = some l) (hp : r.part = 0) (hl : l.length = 1) (hy1 : 1 ≤ nth l 0) (hy2 : 16 < nth l 0) (hxx : x = (1, r)) :
    Calls Tryd.prog 24 #[.pointer (some ⟨R, 0, none⟩), .string (St t)] w (TakePost w B R line x) := by
  have HF := Lib.hid (form_any t w ht hm _ ws hw)
  have HN := Lib.hid hn
  obtain ⟨sa, ca, pa, h⟩ := h
  have HRw := Lib.hid h.here.lt
  have H := Lib.hid h
  have HOK := Lib.hid hok
  have HBw := Lib.hid hB
  have HXX := Lib.hid hxx
  clear h hB hm hw hn hok hxx
  have HP := Lib.hid hp
  have p0 : (r.part == 0) = true := beq_iff_eq.2 hp
  have HL := Lib.hid hl
  have l1 : ((l.length : Int) == 1) = true := beq_iff_eq.2 (by omega)
  have hl0 : 0 < l.length := by omega
  clear hp hl
  go_enter Tryd.func24, Tryd.ntmps24
  go_wp2_with fail
  refine HF.out.mono ?_
  rintro e w2 ⟨hx, ⟨hno, -⟩ | ⟨l', hl', a, c, rfl, hi, -, hg⟩⟩
  · rw [HN.out] at hno; cases hno
  rw [HN.out] at hl'
  cases hl'
  have HX := Lib.hid hx
  have HI := Lib.hid hi
  have HG := Lib.hid hg
  have H2 := Lib.hid (H.out.ext hx)
  have HB2 : Hid (B ≤ w2.heap.size) := Lib.hid (Nat.le_trans HBw.out hx.size)
  have c5 := H2.out.here.cell 5 (v := .int .i64 r.part) rfl
  have c6 := H2.out.here.cell 6 (v := .bool r.last) rfl
  clear hx hi hg HF H
  have hly : l.length = 1 := HL.out
  obtain ⟨b, off, rfl, k0⟩ := HI.out.at (i := 0) (by omega)
  obtain ⟨x0, x1⟩ := HG.out _ (nth_mem l 0 (by omega))
  rw [Nat.add_zero] at k0
  generalize nth l 0 = y at *
  clear hly
  have y1 : decide ((1 : Int) ≤ y) = true := decide_eq_true hy1
  have y2 : decide (y ≤ (16 : Int)) = false := decide_eq_false (by omega)
  go_wp2_with fail
  refine (give_no 1 _).mono ?_
  rintro e w3 ⟨hgv, rfl⟩
  unfold Gave at hgv
  subst hgv
  rw [HXX.out]
  exact ⟨rfl, BB.ext HX.out HBw.out, ⟨_, _, _, H2.out⟩, .inr ⟨(by show (1 : Int) ≠ 0; decide), rfl⟩⟩

set_option maxRecDepth 100000 in
set_option maxHeartbeats 4000000 in
theorem read_T4 (w : World) (B R : Nat) (r : Pl.St) (line : Int) (t : List UInt8) (ws : List (List UInt8)) (l : List Int) (x : Int × Pl.St) (h : IsRd w B R r line) (hok : Rok r) (hB : B ≤ w.heap.size) (hm : MaxAt w) (ht : t.length ≤ 1000000)
    (hw : Pl.words t = [116, 104, 114, 101, 97, 100, 115] :: ws) (hn : Pl.numsP ws = some l) (hp0 : r.part ≠ 0) (hxx : x = (5, r)) :
    Calls Tryd.prog 24 #[.pointer (some ⟨R, 0, none⟩), .string (St t)] w (TakePost w B R line x) := by
  have HF := Lib.hid (form_any t w ht hm _ ws hw)
  have HN := Lib.hid hn
  obtain ⟨sa, ca, pa, h⟩ := h
  have HRw := Lib.hid h.here.lt
  have H := Lib.hid h
  have HOK := Lib.hid hok
  have HBw := Lib.hid hB
  have HXX := Lib.hid hxx
  clear h hB hm hw hn hok hxx
  have p0 : (r.part == 0) = false := beq_eq_false_iff_ne.2 hp0
  clear hp0
  go_enter Tryd.func24, Tryd.ntmps24
  go_wp2_with fail
  refine HF.out.mono ?_
  rintro e w2 ⟨hx, ⟨hno, -⟩ | ⟨l', hl', a, c, rfl, hi, -, hg⟩⟩
  · rw [HN.out] at hno; cases hno
  rw [HN.out] at hl'
  cases hl'
  have HX := Lib.hid hx
  have HI := Lib.hid hi
  have HG := Lib.hid hg
  have H2 := Lib.hid (H.out.ext hx)
  have HB2 : Hid (B ≤ w2.heap.size) := Lib.hid (Nat.le_trans HBw.out hx.size)
  have c5 := H2.out.here.cell 5 (v := .int .i64 r.part) rfl
  have c6 := H2.out.here.cell 6 (v := .bool r.last) rfl
  clear hx hi hg HF H
  go_wp2_with fail
  refine (give_no 5 _).mono ?_
  rintro e w3 ⟨hgv, rfl⟩
  unfold Gave at hgv
  subst hgv
  rw [HXX.out]
  exact ⟨rfl, BB.ext HX.out HBw.out, ⟨_, _, _, H2.out⟩, .inr ⟨(by show (5 : Int) ≠ 0; decide), rfl⟩⟩

set_option maxRecDepth 100000 in
set_option maxHeartbeats 4000000 in
theorem read_T5 (w : World) (B R : Nat) (r : Pl.St) (line : Int) (t : List UInt8) (ws : List (List UInt8)) (l : List Int) (x : Int × Pl.St) (h : IsRd w B R r line) (hok : Rok r) (hB : B ≤ w.heap.size) (hm : MaxAt w) (ht : t.length ≤ 1000000)
    (hw : Pl.words t = [116, 104, 114, 101, 97, 100, 115] :: ws) (hn : Pl.numsP ws = some l) (hp : r.part = 0) (hl : l.length ≠ 1) (hxx : x = (5, r)) :
    Calls Tryd.prog 24 #[.pointer (some ⟨R, 0, none⟩), .string (St t)] w (TakePost w B R line x) := by
  have HF := Lib.hid (form_any t w ht hm _ ws hw)
  have HN := Lib.hid hn
  obtain ⟨sa, ca, pa, h⟩ := h
  have HRw := Lib.hid h.here.lt
  have H := Lib.hid h
  have HOK := Lib.hid hok
  have HBw := Lib.hid hB
  have HXX := Lib.hid hxx
  clear h hB hm hw hn hok hxx
  have p0 : (r.part == 0) = true := beq_iff_eq.2 hp
  have l1 : ((l.length : Int) == 1) = false := beq_eq_false_iff_ne.2 (by omega)
  clear hp hl
  go_enter Tryd.func24, Tryd.ntmps24
  go_wp2_with fail
  refine HF.out.mono ?_
  rintro e w2 ⟨hx, ⟨hno, -⟩ | ⟨l', hl', a, c, rfl, hi, -, hg⟩⟩
  · rw [HN.out] at hno; cases hno
  rw [HN.out] at hl'
  cases hl'
  have HX := Lib.hid hx
  have HI := Lib.hid hi
  have HG := Lib.hid hg
  have H2 := Lib.hid (H.out.ext hx)
  have HB2 : Hid (B ≤ w2.heap.size) := Lib.hid (Nat.le_trans HBw.out hx.size)
  have c5 := H2.out.here.cell 5 (v := .int .i64 r.part) rfl
  have c6 := H2.out.here.cell 6 (v := .bool r.last) rfl
  clear hx hi hg HF H
  go_wp2_with fail
  refine (give_no 5 _).mono ?_
  rintro e w3 ⟨hgv, rfl⟩
  unfold Gave at hgv
  subst hgv
  rw [HXX.out]
  exact ⟨rfl, BB.ext HX.out HBw.out, ⟨_, _, _, H2.out⟩, .inr ⟨(by show (5 : Int) ≠ 0; decide), rfl⟩⟩

set_option maxRecDepth 100000 in
set_option maxHeartbeats 4000000 in
theorem read_O1 (w : World) (B R : Nat) (r : Pl.St) (line : Int) (t : List UInt8) (ws : List (List UInt8)) (l : List Int) (x : Int × Pl.St) (h : IsRd w B R r line) (hok : Rok r) (hB : B ≤ w.heap.size) (hm : MaxAt w) (ht : t.length ≤ 1000000)
    (hw : Pl.words t = [111, 98, 106, 101, 99, 116] :: ws) (hn : Pl.numsP ws = some l) (hp : r.part = 1) (hl : l.length = 3) (hxx : x = objT r l) :
    Calls Tryd.prog 24 #[.pointer (some ⟨R, 0, none⟩), .string (St t)] w (TakePost w B R line x) := by
  have HF := Lib.hid (form_any t w ht hm _ ws hw)
  have HN := Lib.hid hn
  obtain ⟨sa, ca, pa, h⟩ := h
  have HRw := Lib.hid h.here.lt
  have H := Lib.hid h
  have HOK := Lib.hid hok
  have HBw := Lib.hid hB
  have HXX := Lib.hid hxx
  clear h hB hm hw hn hok hxx
  have HP := Lib.hid hp
  have p1 : (r.part == 1) = true := beq_iff_eq.2 hp
  have HL := Lib.hid hl
  have l3 : ((l.length : Int) == 3) = true := beq_iff_eq.2 (by omega)
  clear hp hl
  go_enter Tryd.func24, Tryd.ntmps24
  go_wp2_with fail
  refine HF.out.mono ?_
  rintro e w2 ⟨hx, ⟨hno, -⟩ | ⟨l', hl', a, c, rfl, hi, -, hg⟩⟩
  · rw [HN.out] at hno; cases hno
  rw [HN.out] at hl'
  cases hl'
  have HX := Lib.hid hx
  have HI := Lib.hid hi
  have HG := Lib.hid hg
  have H2 := Lib.hid (H.out.ext hx)
  have HB2 : Hid (B ≤ w2.heap.size) := Lib.hid (Nat.le_trans HBw.out hx.size)
  have c5 := H2.out.here.cell 5 (v := .int .i64 r.part) rfl
  have c6 := H2.out.here.cell 6 (v := .bool r.last) rfl
  clear hx hi hg HF H
  go_wp2_with fail
  rw [HL.out]
  refine (object_any w2 B R r line a c l ⟨_, _, _, H2.out⟩ HOK.out HB2.out HL.out HI.out HG.out).mono ?_
  rintro e w3 ⟨hb, hr, hz⟩
  have hbb := (BB.ext HX.out HBw.out).trans hb
  rcases hz with ⟨hz, rfl⟩ | ⟨hz, hgv⟩
  · go_wp2_with fail
    go_end0
    rw [HXX.out]
    exact ⟨hbb, hr, .inl ⟨hz, rfl⟩⟩
  · unfold Gave at hgv
    subst hgv
    rw [HXX.out]
    exact ⟨rfl, hbb, hr, .inr ⟨hz, rfl⟩⟩

set_option maxRecDepth 100000 in
set_option maxHeartbeats 4000000 in
theorem read_O2 (w : World) (B R : Nat) (r : Pl.St) (line : Int) (t : List UInt8) (ws : List (List UInt8)) (l : List Int) (x : Int × Pl.St) (h : IsRd w B R r line) (hok : Rok r) (hB : B ≤ w.heap.size) (hm : MaxAt w) (ht : t.length ≤ 1000000)
    (hw : Pl.words t = [111, 98, 106, 101, 99, 116] :: ws) (hn : Pl.numsP ws = some l) (hp1 : r.part ≠ 1) (hxx : x = (5, r)) :
    Calls Tryd.prog 24 #[.pointer (some ⟨R, 0, none⟩), .string (St t)] w (TakePost w B R line x) := by
  have HF := Lib.hid (form_any t w ht hm _ ws hw)
  have HN := Lib.hid hn
  obtain ⟨sa, ca, pa, h⟩ := h
  have HRw := Lib.hid h.here.lt
  have H := Lib.hid h
  have HOK := Lib.hid hok
  have HBw := Lib.hid hB
  have HXX := Lib.hid hxx
  clear h hB hm hw hn hok hxx
  have p1 : (r.part == 1) = false := beq_eq_false_iff_ne.2 hp1
  clear hp1
  go_enter Tryd.func24, Tryd.ntmps24
  go_wp2_with fail
  refine HF.out.mono ?_
  rintro e w2 ⟨hx, ⟨hno, -⟩ | ⟨l', hl', a, c, rfl, hi, -, hg⟩⟩
  · rw [HN.out] at hno; cases hno
  rw [HN.out] at hl'
  cases hl'
  have HX := Lib.hid hx
  have HI := Lib.hid hi
  have HG := Lib.hid hg
  have H2 := Lib.hid (H.out.ext hx)
  have HB2 : Hid (B ≤ w2.heap.size) := Lib.hid (Nat.le_trans HBw.out hx.size)
  have c5 := H2.out.here.cell 5 (v := .int .i64 r.part) rfl
  have c6 := H2.out.here.cell 6 (v := .bool r.last) rfl
  clear hx hi hg HF H
  go_wp2_with fail
  refine (give_no 5 _).mono ?_
  rintro e w3 ⟨hgv, rfl⟩
  unfold Gave at hgv
  subst hgv
  rw [HXX.out]
  exact ⟨rfl, BB.ext HX.out HBw.out, ⟨_, _, _, H2.out⟩, .inr ⟨(by show (5 : Int) ≠ 0; decide), rfl⟩⟩

set_option maxRecDepth 100000 in
set_option maxHeartbeats 4000000 in
theorem read_O3 (w : World) (B R : Nat) (r : Pl.St) (line : Int) (t : List UInt8) (ws : List (List UInt8)) (l : List Int) (x : Int × Pl.St) (h : IsRd w B R r line) (hok : Rok r) (hB : B ≤ w.heap.size) (hm : MaxAt w) (ht : t.length ≤ 1000000)
    (hw : Pl.words t = [111, 98, 106, 101, 99, 116] :: ws) (hn : Pl.numsP ws = some l) (hp : r.part = 1) (hl : l.length ≠ 3) (hxx : x = (5, r)) :
    Calls Tryd.prog 24 #[.pointer (some ⟨R, 0, none⟩), .string (St t)] w (TakePost w B R line x) := by
  have HF := Lib.hid (form_any t w ht hm _ ws hw)
  have HN := Lib.hid hn
  obtain ⟨sa, ca, pa, h⟩ := h
  have HRw := Lib.hid h.here.lt
  have H := Lib.hid h
  have HOK := Lib.hid hok
  have HBw := Lib.hid hB
  have HXX := Lib.hid hxx
  clear h hB hm hw hn hok hxx
  have p1 : (r.part == 1) = true := beq_iff_eq.2 hp
  have l3 : ((l.length : Int) == 3) = false := beq_eq_false_iff_ne.2 (by omega)
  clear hp hl
  go_enter Tryd.func24, Tryd.ntmps24
  go_wp2_with fail
  refine HF.out.mono ?_
  rintro e w2 ⟨hx, ⟨hno, -⟩ | ⟨l', hl', a, c, rfl, hi, -, hg⟩⟩
  · rw [HN.out] at hno; cases hno
  rw [HN.out] at hl'
  cases hl'
  have HX := Lib.hid hx
  have HI := Lib.hid hi
  have HG := Lib.hid hg
  have H2 := Lib.hid (H.out.ext hx)
  have HB2 : Hid (B ≤ w2.heap.size) := Lib.hid (Nat.le_trans HBw.out hx.size)
  have c5 := H2.out.here.cell 5 (v := .int .i64 r.part) rfl
  have c6 := H2.out.here.cell 6 (v := .bool r.last) rfl
  clear hx hi hg HF H
  go_wp2_with fail
  refine (give_no 5 _).mono ?_
  rintro e w3 ⟨hgv, rfl⟩
  unfold Gave at hgv
  subst hgv
  rw [HXX.out]
  exact ⟨rfl, BB.ext HX.out HBw.out, ⟨_, _, _, H2.out⟩, .inr ⟨(by show (5 : Int) ≠ 0; decide), rfl⟩⟩

set_option maxRecDepth 100000 in
set_option maxHeartbeats 4000000 in
theorem read_C1 (w : World) (B R : Nat) (r : Pl.St) (line : Int) (t : List UInt8) (ws : List (List UInt8)) (l : List Int) (x : Int × Pl.St) (h : IsRd w B R r line) (hok : Rok r) (hB : B ≤ w.heap.size) (hm : MaxAt w) (ht : t.length ≤ 1000000)
    (hw : Pl.words t = [99, 97, 108, 108] :: ws) (hn : Pl.numsP ws = some l) (hp : r.part = 1) (hl : l.length = 6) (hxx : x = callTk r l) :
    Calls Tryd.prog 24 #[.pointer (some ⟨R, 0, none⟩), .string (St t)] w (TakePost w B R line x) := by
  have HF := Lib.hid (form_any t w ht hm _ ws hw)
  have HN := Lib.hid hn
  obtain ⟨sa, ca, pa, h⟩ := h
  have HRw := Lib.hid h.here.lt
  have H := Lib.hid h
  have HOK := Lib.hid hok
  have HBw := Lib.hid hB
  have HXX := Lib.hid hxx
  have HN1 : Hid (1 ≤ r.s.n ∧ r.s.n ≤ 16) := Lib.hid (hok.n (by omega))
  clear h hB hm hw hn hok hxx
  have p1 : (r.part == 1) = true := beq_iff_eq.2 hp
  have HL := Lib.hid hl
  have l6 : ((l.length : Int) == 6) = true := beq_iff_eq.2 (by omega)
  clear hp hl
  go_enter Tryd.func24, Tryd.ntmps24
  go_wp2_with fail
  refine HF.out.mono ?_
  rintro e w2 ⟨hx, ⟨hno, -⟩ | ⟨l', hl', a, c, rfl, hi, -, hg⟩⟩
  · rw [HN.out] at hno; cases hno
  rw [HN.out] at hl'
  cases hl'
  have HX := Lib.hid hx
  have HI := Lib.hid hi
  have HG := Lib.hid hg
  have H2 := Lib.hid (H.out.ext hx)
  have HB2 : Hid (B ≤ w2.heap.size) := Lib.hid (Nat.le_trans HBw.out hx.size)
  have c5 := H2.out.here.cell 5 (v := .int .i64 r.part) rfl
  have c6 := H2.out.here.cell 6 (v := .bool r.last) rfl
  clear hx hi hg HF H
  go_wp2_with fail
  rw [HL.out]
  refine (call_any w2 B R r line a c l ⟨_, _, _, H2.out⟩ HOK.out HN1.out.1 HN1.out.2 HB2.out HL.out HI.out HG.out).mono ?_
  rintro e w3 ⟨hb, hr, hz⟩
  have hbb := (BB.ext HX.out HBw.out).trans hb
  rcases hz with ⟨hz, rfl⟩ | ⟨hz, hgv⟩
  · go_wp2_with fail
    go_end0
    rw [HXX.out]
    exact ⟨hbb, hr, .inl ⟨hz, rfl⟩⟩
  · unfold Gave at hgv
    subst hgv
    rw [HXX.out]
    exact ⟨rfl, hbb, hr, .inr ⟨hz, rfl⟩⟩

set_option maxRecDepth 100000 in
set_option maxHeartbeats 4000000 in
theorem read_C2 (w : World) (B R : Nat) (r : Pl.St) (line : Int) (t : List UInt8) (ws : List (List UInt8)) (l : List Int) (x : Int × Pl.St) (h : IsRd w B R r line) (hok : Rok r) (hB : B ≤ w.heap.size) (hm : MaxAt w) (ht : t.length ≤ 1000000)
    (hw : Pl.words t = [99, 97, 108, 108] :: ws) (hn : Pl.numsP ws = some l) (hp : r.part = 2) (hl : l.length = 6) (hxx : x = callTk r l) :
    Calls Tryd.prog 24 #[.pointer (some ⟨R, 0, none⟩), .string (St t)] w (TakePost w B R line x) := by
  have HF := Lib.hid (form_any t w ht hm _ ws hw)
  have HN := Lib.hid hn
  obtain ⟨sa, ca, pa, h⟩ := h
  have HRw := Lib.hid h.here.lt
  have H := Lib.hid h
  have HOK := Lib.hid hok
  have HBw := Lib.hid hB
  have HXX := Lib.hid hxx
  have HN1 : Hid (1 ≤ r.s.n ∧ r.s.n ≤ 16) := Lib.hid (hok.n (by omega))
  clear h hB hm hw hn hok hxx
  have hp1 : r.part ≠ 1 := by omega
  have p1 : (r.part == 1) = false := beq_eq_false_iff_ne.2 hp1
  have p2 : (r.part == 2) = true := beq_iff_eq.2 hp
  have HL := Lib.hid hl
  have l6 : ((l.length : Int) == 6) = true := beq_iff_eq.2 (by omega)
  clear hp hp1 hl
  go_enter Tryd.func24, Tryd.ntmps24
  go_wp2_with fail
  refine HF.out.mono ?_
  rintro e w2 ⟨hx, ⟨hno, -⟩ | ⟨l', hl', a, c, rfl, hi, -, hg⟩⟩
  · rw [HN.out] at hno; cases hno
  rw [HN.out] at hl'
  cases hl'
  have HX := Lib.hid hx
  have HI := Lib.hid hi
  have HG := Lib.hid hg
  have H2 := Lib.hid (H.out.ext hx)
  have HB2 : Hid (B ≤ w2.heap.size) := Lib.hid (Nat.le_trans HBw.out hx.size)
  have c5 := H2.out.here.cell 5 (v := .int .i64 r.part) rfl
  have c6 := H2.out.here.cell 6 (v := .bool r.last) rfl
  clear hx hi hg HF H
  go_wp2_with fail
  rw [HL.out]
  refine (call_any w2 B R r line a c l ⟨_, _, _, H2.out⟩ HOK.out HN1.out.1 HN1.out.2 HB2.out HL.out HI.out HG.out).mono ?_
  rintro e w3 ⟨hb, hr, hz⟩
  have hbb := (BB.ext HX.out HBw.out).trans hb
  rcases hz with ⟨hz, rfl⟩ | ⟨hz, hgv⟩
  · go_wp2_with fail
    go_end0
    rw [HXX.out]
    exact ⟨hbb, hr, .inl ⟨hz, rfl⟩⟩
  · unfold Gave at hgv
    subst hgv
    rw [HXX.out]
    exact ⟨rfl, hbb, hr, .inr ⟨hz, rfl⟩⟩

set_option maxRecDepth 100000 in
set_option maxHeartbeats 4000000 in
theorem read_C3 (w : World) (B R : Nat) (r : Pl.St) (line : Int) (t : List UInt8) (ws : List (List UInt8)) (l : List Int) (x : Int × Pl.St) (h : IsRd w B R r line) (hok : Rok r) (hB : B ≤ w.heap.size) (hm : MaxAt w) (ht : t.length ≤ 1000000)
    (hw : Pl.words t = [99, 97, 108, 108] :: ws) (hn : Pl.numsP ws = some l) (hp1 : r.part ≠ 1) (hp2 : r.part ≠ 2) (hxx : x = (5, r)) :
    Calls Tryd.prog 24 #[.pointer (some ⟨R, 0, none⟩), .string (St t)] w (TakePost w B R line x) := by
  have HF := Lib.hid (form_any t w ht hm _ ws hw)
  have HN := Lib.hid hn
  obtain ⟨sa, ca, pa, h⟩ := h
  have HRw := Lib.hid h.here.lt
  have H := Lib.hid h
  have HOK := Lib.hid hok
  have HBw := Lib.hid hB
  have HXX := Lib.hid hxx
  clear h hB hm hw hn hok hxx
  have p1 : (r.part == 1) = false := beq_eq_false_iff_ne.2 hp1
  have p2 : (r.part == 2) = false := beq_eq_false_iff_ne.2 hp2
  clear hp1 hp2
  go_enter Tryd.func24, Tryd.ntmps24
  go_wp2_with fail
  refine HF.out.mono ?_
  rintro e w2 ⟨hx, ⟨hno, -⟩ | ⟨l', hl', a, c, rfl, hi, -, hg⟩⟩
  · rw [HN.out] at hno; cases hno
  rw [HN.out] at hl'
  cases hl'
  have HX := Lib.hid hx
  have HI := Lib.hid hi
  have HG := Lib.hid hg
  have H2 := Lib.hid (H.out.ext hx)
  have HB2 : Hid (B ≤ w2.heap.size) := Lib.hid (Nat.le_trans HBw.out hx.size)
  have c5 := H2.out.here.cell 5 (v := .int .i64 r.part) rfl
  have c6 := H2.out.here.cell 6 (v := .bool r.last) rfl
  clear hx hi hg HF H
  go_wp2_with fail
  refine (give_no 5 _).mono ?_
  rintro e w3 ⟨hgv, rfl⟩
  unfold Gave at hgv
  subst hgv
  rw [HXX.out]
  exact ⟨rfl, BB.ext HX.out HBw.out, ⟨_, _, _, H2.out⟩, .inr ⟨(by show (5 : Int) ≠ 0; decide), rfl⟩⟩

set_option maxRecDepth 100000 in
set_option maxHeartbeats 4000000 in
theorem read_C4 (w : World) (B R : Nat) (r : Pl.St) (line : Int) (t : List UInt8) (ws : List (List UInt8)) (l : List Int) (x : Int × Pl.St) (h : IsRd w B R r line) (hok : Rok r) (hB : B ≤ w.heap.size) (hm : MaxAt w) (ht : t.length ≤ 1000000)
    (hw : Pl.words t = [99, 97, 108, 108] :: ws) (hn : Pl.numsP ws = some l) (hp : r.part = 1) (hl : l.length ≠ 6) (hxx : x = (5, r)) :
    Calls Tryd.prog 24 #[.pointer (some ⟨R, 0, none⟩), .string (St t)] w (TakePost w B R line x) := by
  have HF := Lib.hid (form_any t w ht hm _ ws hw)
  have HN := Lib.hid hn
  obtain ⟨sa, ca, pa, h⟩ := h
  have HRw := Lib.hid h.here.lt
  have H := Lib.hid h
  have HOK := Lib.hid hok
  have HBw := Lib.hid hB
  have HXX := Lib.hid hxx
  clear h hB hm hw hn hok hxx
  have p1 : (r.part == 1) = true := beq_iff_eq.2 hp
  have l6 : ((l.length : Int) == 6) = false := beq_eq_false_iff_ne.2 (by omega)
  clear hp hl
  go_enter Tryd.func24, Tryd.ntmps24
  go_wp2_with fail
  refine HF.out.mono ?_
  rintro e w2 ⟨hx, ⟨hno, -⟩ | ⟨l', hl', a, c, rfl, hi, -, hg⟩⟩
  · rw [HN.out] at hno; cases hno
  rw [HN.out] at hl'
  cases hl'
  have HX := Lib.hid hx
  have HI := Lib.hid hi
  have HG := Lib.hid hg
  have H2 := Lib.hid (H.out.ext hx)
  have HB2 : Hid (B ≤ w2.heap.size) := Lib.hid (Nat.le_trans HBw.out hx.size)
  have c5 := H2.out.here.cell 5 (v := .int .i64 r.part) rfl
  have c6 := H2.out.here.cell 6 (v := .bool r.last) rfl
  clear hx hi hg HF H
  go_wp2_with fail
  refine (give_no 5 _).mono ?_
  rintro e w3 ⟨hgv, rfl⟩
  unfold Gave at hgv
  subst hgv
  rw [HXX.out]
  exact ⟨rfl, BB.ext HX.out HBw.out, ⟨_, _, _, H2.out⟩, .inr ⟨(by show (5 : Int) ≠ 0; decide), rfl⟩⟩

set_option maxRecDepth 100000 in
set_option maxHeartbeats 4000000 in
theorem read_C5 (w : World) (B R : Nat) (r : Pl.St) (line : Int) (t : List UInt8) (ws : List (List UInt8)) (l : List Int) (x : Int × Pl.St) (h : IsRd w B R r line) (hok : Rok r) (hB : B ≤ w.heap.size) (hm : MaxAt w) (ht : t.length ≤ 1000000)
    (hw : Pl.words t = [99, 97, 108, 108] :: ws) (hn : Pl.numsP ws = some l) (hp : r.part = 2) (hl : l.length ≠ 6) (hxx : x = (5, r)) :
    Calls Tryd.prog 24 #[.pointer (some ⟨R, 0, none⟩), .string (St t)] w (TakePost w B R line x) := by
  have HF := Lib.hid (form_any t w ht hm _ ws hw)
  have HN := Lib.hid hn
  obtain ⟨sa, ca, pa, h⟩ := h
  have HRw := Lib.hid h.here.lt
  have H := Lib.hid h
  have HOK := Lib.hid hok
  have HBw := Lib.hid hB
  have HXX := Lib.hid hxx
  clear h hB hm hw hn hok hxx
  have hp1 : r.part ≠ 1 := by omega
  have p1 : (r.part == 1) = false := beq_eq_false_iff_ne.2 hp1
  have p2 : (r.part == 2) = true := beq_iff_eq.2 hp
  have l6 : ((l.length : Int) == 6) = false := beq_eq_false_iff_ne.2 (by omega)
  clear hp hp1 hl
  go_enter Tryd.func24, Tryd.ntmps24
  go_wp2_with fail
  refine HF.out.mono ?_
  rintro e w2 ⟨hx, ⟨hno, -⟩ | ⟨l', hl', a, c, rfl, hi, -, hg⟩⟩
  · rw [HN.out] at hno; cases hno
  rw [HN.out] at hl'
  cases hl'
  have HX := Lib.hid hx
  have HI := Lib.hid hi
  have HG := Lib.hid hg
  have H2 := Lib.hid (H.out.ext hx)
  have HB2 : Hid (B ≤ w2.heap.size) := Lib.hid (Nat.le_trans HBw.out hx.size)
  have c5 := H2.out.here.cell 5 (v := .int .i64 r.part) rfl
  have c6 := H2.out.here.cell 6 (v := .bool r.last) rfl
  clear hx hi hg HF H
  go_wp2_with fail
  refine (give_no 5 _).mono ?_
  rintro e w3 ⟨hgv, rfl⟩
  unfold Gave at hgv
  subst hgv
  rw [HXX.out]
  exact ⟨rfl, BB.ext HX.out HBw.out, ⟨_, _, _, H2.out⟩, .inr ⟨(by show (5 : Int) ≠ 0; decide), rfl⟩⟩

set_option maxRecDepth 100000 in
set_option maxHeartbeats 4000000 in
theorem read_P1 (w : World) (B R : Nat) (r : Pl.St) (line : Int) (t : List UInt8) (ws : List (List UInt8)) (l : List Int) (x : Int × Pl.St) (h : IsRd w B R r line) (hok : Rok r) (hB : B ≤ w.heap.size) (hm : MaxAt w) (ht : t.length ≤ 1000000)
    (hw : Pl.words t = [112, 105, 99, 107, 115] :: ws) (hn : Pl.numsP ws = some l) (hp : 0 < r.part) (hs : r.last = false) (hl1 : 1 ≤ l.length) (hl2 : l.length ≤ 16) (hxx : x = picksTk r l) :
    Calls Tryd.prog 24 #[.pointer (some ⟨R, 0, none⟩), .string (St t)] w (TakePost w B R line x) := by
  have HF := Lib.hid (form_any t w ht hm _ ws hw)
  have HN := Lib.hid hn
  obtain ⟨sa, ca, pa, h⟩ := h
  have HRw := Lib.hid h.here.lt
  have H := Lib.hid h
  have HOK := Lib.hid hok
  have HBw := Lib.hid hB
  have HXX := Lib.hid hxx
  clear h hB hm hw hn hok hxx
  have p0 : decide ((0 : Int) < r.part) = true := decide_eq_true (by omega)
  have q1 : decide ((1 : Int) ≤ (l.length : Int)) = true := decide_eq_true (by omega)
  have q2 : decide ((l.length : Int) ≤ 16) = true := decide_eq_true (by omega)
  have HLS := Lib.hid hs
  have HL1 := Lib.hid hl1
  have HL2 := Lib.hid hl2
  clear hp hs hl1 hl2
  go_enter Tryd.func24, Tryd.ntmps24
  go_wp2_with fail
  refine HF.out.mono ?_
  rintro e w2 ⟨hx, ⟨hno, -⟩ | ⟨l', hl', a, c, rfl, hi, -, hg⟩⟩
  · rw [HN.out] at hno; cases hno
  rw [HN.out] at hl'
  cases hl'
  have HX := Lib.hid hx
  have HI := Lib.hid hi
  have HG := Lib.hid hg
  have H2 := Lib.hid (H.out.ext hx)
  have HB2 : Hid (B ≤ w2.heap.size) := Lib.hid (Nat.le_trans HBw.out hx.size)
  have c5 := H2.out.here.cell 5 (v := .int .i64 r.part) rfl
  have c6 := H2.out.here.cell 6 (v := .bool r.last) rfl
  clear hx hi hg HF H
  rw [HLS.out] at c6
  go_wp2_with fail
  refine (picks_any w2 B R r line a c l ⟨_, _, _, H2.out⟩ HOK.out HB2.out HL1.out HL2.out HI.out HG.out).mono ?_
  rintro e w3 ⟨hb, hr, hz⟩
  have hbb := (BB.ext HX.out HBw.out).trans hb
  rcases hz with ⟨hz, rfl⟩ | ⟨hz, hgv⟩
  · go_wp2_with fail
    go_end0
    rw [HXX.out]
    exact ⟨hbb, hr, .inl ⟨hz, rfl⟩⟩
  · unfold Gave at hgv
    subst hgv
    rw [HXX.out]
    exact ⟨rfl, hbb, hr, .inr ⟨hz, rfl⟩⟩

set_option maxRecDepth 100000 in
set_option maxHeartbeats 4000000 in
theorem read_P2 (w : World) (B R : Nat) (r : Pl.St) (line : Int) (t : List UInt8) (ws : List (List UInt8)) (l : List Int) (x : Int × Pl.St) (h : IsRd w B R r line) (hok : Rok r) (hB : B ≤ w.heap.size) (hm : MaxAt w) (ht : t.length ≤ 1000000)
    (hw : Pl.words t = [112, 105, 99, 107, 115] :: ws) (hn : Pl.numsP ws = some l) (hp : ¬ 0 < r.part) (hxx : x = (5, r)) :
    Calls Tryd.prog 24 #[.pointer (some ⟨R, 0, none⟩), .string (St t)] w (TakePost w B R line x) := by
  have HF := Lib.hid (form_any t w ht hm _ ws hw)
  have HN := Lib.hid hn
  obtain ⟨sa, ca, pa, h⟩ := h
  have HRw := Lib.hid h.here.lt
  have H := Lib.hid h
  have HOK := Lib.hid hok
  have HBw := Lib.hid hB
  have HXX := Lib.hid hxx
  clear h hB hm hw hn hok hxx
  have p0 : decide ((0 : Int) < r.part) = false := decide_eq_false (by omega)
  clear hp
  go_enter Tryd.func24, Tryd.ntmps24
  go_wp2_with fail
  refine HF.out.mono ?_
  rintro e w2 ⟨hx, ⟨hno, -⟩ | ⟨l', hl', a, c, rfl, hi, -, hg⟩⟩
  · rw [HN.out] at hno; cases hno
  rw [HN.out] at hl'
  cases hl'
  have HX := Lib.hid hx
  have HI := Lib.hid hi
  have HG := Lib.hid hg
  have H2 := Lib.hid (H.out.ext hx)
  have HB2 : Hid (B ≤ w2.heap.size) := Lib.hid (Nat.le_trans HBw.out hx.size)
  have c5 := H2.out.here.cell 5 (v := .int .i64 r.part) rfl
  have c6 := H2.out.here.cell 6 (v := .bool r.last) rfl
  clear hx hi hg HF H
  go_wp2_with fail
  refine (give_no 5 _).mono ?_
  rintro e w3 ⟨hgv, rfl⟩
  unfold Gave at hgv
  subst hgv
  rw [HXX.out]
  exact ⟨rfl, BB.ext HX.out HBw.out, ⟨_, _, _, H2.out⟩, .inr ⟨(by show (5 : Int) ≠ 0; decide), rfl⟩⟩

set_option maxRecDepth 100000 in
set_option maxHeartbeats 4000000 in
theorem read_P3 (w : World) (B R : Nat) (r : Pl.St) (line : Int) (t : List UInt8) (ws : List (List UInt8)) (l : List Int) (x : Int × Pl.St) (h : IsRd w B R r line) (hok : Rok r) (hB : B ≤ w.heap.size) (hm : MaxAt w) (ht : t.length ≤ 1000000)
    (hw : Pl.words t = [112, 105, 99, 107, 115] :: ws) (hn : Pl.numsP ws = some l) (hp : 0 < r.part) (hs : r.last = true) (hxx : x = (5, r)) :
    Calls Tryd.prog 24 #[.pointer (some ⟨R, 0, none⟩), .string (St t)] w (TakePost w B R line x) := by
  have HF := Lib.hid (form_any t w ht hm _ ws hw)
  have HN := Lib.hid hn
  obtain ⟨sa, ca, pa, h⟩ := h
  have HRw := Lib.hid h.here.lt
  have H := Lib.hid h
  have HOK := Lib.hid hok
  have HBw := Lib.hid hB
  have HXX := Lib.hid hxx
  clear h hB hm hw hn hok hxx
  have p0 : decide ((0 : Int) < r.part) = true := decide_eq_true (by omega)
  have HLS := Lib.hid hs
  clear hp hs
  go_enter Tryd.func24, Tryd.ntmps24
  go_wp2_with fail
  refine HF.out.mono ?_
  rintro e w2 ⟨hx, ⟨hno, -⟩ | ⟨l', hl', a, c, rfl, hi, -, hg⟩⟩
  · rw [HN.out] at hno; cases hno
  rw [HN.out] at hl'
  cases hl'
  have HX := Lib.hid hx
  have HI := Lib.hid hi
  have HG := Lib.hid hg
  have H2 := Lib.hid (H.out.ext hx)
  have HB2 : Hid (B ≤ w2.heap.size) := Lib.hid (Nat.le_trans HBw.out hx.size)
  have c5 := H2.out.here.cell 5 (v := .int .i64 r.part) rfl
  have c6 := H2.out.here.cell 6 (v := .bool r.last) rfl
  clear hx hi hg HF H
  rw [HLS.out] at c6
  go_wp2_with fail
  refine (give_no 5 _).mono ?_
  rintro e w3 ⟨hgv, rfl⟩
  unfold Gave at hgv
  subst hgv
  rw [HXX.out]
  exact ⟨rfl, BB.ext HX.out HBw.out, ⟨_, _, _, H2.out⟩, .inr ⟨(by show (5 : Int) ≠ 0; decide), rfl⟩⟩

set_option maxRecDepth 100000 in
set_option maxHeartbeats 4000000 in
theorem read_P4 (w : World) (B R : Nat) (r : Pl.St) (line : Int) (t : List UInt8) (ws : List (List UInt8)) (l : List Int) (x : Int × Pl.St) (h : IsRd w B R r line) (hok : Rok r) (hB : B ≤ w.heap.size) (hm : MaxAt w) (ht : t.length ≤ 1000000)
    (hw : Pl.words t = [112, 105, 99, 107, 115] :: ws) (hn : Pl.numsP ws = some l) (hp : 0 < r.part) (hs : r.last = false) (hl1 : ¬ 1 ≤ l.length) (hxx : x = (5, r)) :
    Calls Tryd.prog 24 #[.pointer (some ⟨R, 0, none⟩), .string (St t)] w (TakePost w B R line x) := by
  have HF := Lib.hid (form_any t w ht hm _ ws hw)
  have HN := Lib.hid hn
  obtain ⟨sa, ca, pa, h⟩ := h
  have HRw := Lib.hid h.here.lt
  have H := Lib.hid h
  have HOK := Lib.hid hok
  have HBw := Lib.hid hB
  have HXX := Lib.hid hxx
  clear h hB hm hw hn hok hxx
  have p0 : decide ((0 : Int) < r.part) = true := decide_eq_true (by omega)
  have q1 : decide ((1 : Int) ≤ (l.length : Int)) = false := decide_eq_false (by omega)
  have HLS := Lib.hid hs
  clear hp hs
  go_enter Tryd.func24, Tryd.ntmps24
  go_wp2_with fail
  refine HF.out.mono ?_
  rintro e w2 ⟨hx, ⟨hno, -⟩ | ⟨l', hl', a, c, rfl, hi, -, hg⟩⟩
  · rw [HN.out] at hno; cases hno
  rw [HN.out] at hl'
  cases hl'
  have HX := Lib.hid hx
  have HI := Lib.hid hi
  have HG := Lib.hid hg
  have H2 := Lib.hid (H.out.ext hx)
  have HB2 : Hid (B ≤ w2.heap.size) := Lib.hid (Nat.le_trans HBw.out hx.size)
  have c5 := H2.out.here.cell 5 (v := .int .i64 r.part) rfl
  have c6 := H2.out.here.cell 6 (v := .bool r.last) rfl
  clear hx hi hg HF H
  rw [HLS.out] at c6
  go_wp2_with fail
  refine (give_no 5 _).mono ?_
  rintro e w3 ⟨hgv, rfl⟩
  unfold Gave at hgv
  subst hgv
  rw [HXX.out]
  exact ⟨rfl, BB.ext HX.out HBw.out, ⟨_, _, _, H2.out⟩, .inr ⟨(by show (5 : Int) ≠ 0; decide), rfl⟩⟩

set_option maxRecDepth 100000 in
set_option maxHeartbeats 4000000 in
theorem read_P5 (w : World) (B R : Nat) (r : Pl.St) (line : Int) (t : List UInt8) (ws : List (List UInt8)) (l : List Int) (x : Int × Pl.St) (h : IsRd w B R r line) (hok : Rok r) (hB : B ≤ w.heap.size) (hm : MaxAt w) (ht : t.length ≤ 1000000)
    (hw : Pl.words t = [112, 105, 99, 107, 115] :: ws) (hn : Pl.numsP ws = some l) (hp : 0 < r.part) (hs : r.last = false) (hl1 : 1 ≤ l.length) (hl2 : ¬ l.length ≤ 16) (hxx : x = (5, r)) :
    Calls Tryd.prog 24 #[.pointer (some ⟨R, 0, none⟩), .string (St t)] w (TakePost w B R line x) := by
  have HF := Lib.hid (form_any t w ht hm _ ws hw)
  have HN := Lib.hid hn
  obtain ⟨sa, ca, pa, h⟩ := h
  have HRw := Lib.hid h.here.lt
  have H := Lib.hid h
  have HOK := Lib.hid hok
  have HBw := Lib.hid hB
  have HXX := Lib.hid hxx
  clear h hB hm hw hn hok hxx
  have p0 : decide ((0 : Int) < r.part) = true := decide_eq_true (by omega)
  have q1 : decide ((1 : Int) ≤ (l.length : Int)) = true := decide_eq_true (by omega)
  have q2 : decide ((l.length : Int) ≤ 16) = false := decide_eq_false (by omega)
  have HLS := Lib.hid hs
  clear hp hs
  go_enter Tryd.func24, Tryd.ntmps24
  go_wp2_with fail
  refine HF.out.mono ?_
  rintro e w2 ⟨hx, ⟨hno, -⟩ | ⟨l', hl', a, c, rfl, hi, -, hg⟩⟩
  · rw [HN.out] at hno; cases hno
  rw [HN.out] at hl'
  cases hl'
  have HX := Lib.hid hx
  have HI := Lib.hid hi
  have HG := Lib.hid hg
  have H2 := Lib.hid (H.out.ext hx)
  have HB2 : Hid (B ≤ w2.heap.size) := Lib.hid (Nat.le_trans HBw.out hx.size)
  have c5 := H2.out.here.cell 5 (v := .int .i64 r.part) rfl
  have c6 := H2.out.here.cell 6 (v := .bool r.last) rfl
  clear hx hi hg HF H
  rw [HLS.out] at c6
  go_wp2_with fail
  refine (give_no 5 _).mono ?_
  rintro e w3 ⟨hgv, rfl⟩
  unfold Gave at hgv
  subst hgv
  rw [HXX.out]
  exact ⟨rfl, BB.ext HX.out HBw.out, ⟨_, _, _, H2.out⟩, .inr ⟨(by show (5 : Int) ≠ 0; decide), rfl⟩⟩

set_option maxRecDepth 100000 in
set_option maxHeartbeats 4000000 in
theorem read_N (w : World) (B R : Nat) (r : Pl.St) (line : Int) (t : List UInt8) (wd : List UInt8) (ws : List (List UInt8)) (l : List Int) (x : Int × Pl.St) (h : IsRd w B R r line) (hok : Rok r) (hB : B ≤ w.heap.size) (hm : MaxAt w) (ht : t.length ≤ 1000000)
    (hw : Pl.words t = wd :: ws) (hn : Pl.numsP ws = some l) (n1 : ¬ wd = [116, 104, 114, 101, 97, 100, 115]) (n2 : ¬ wd = [111, 98, 106, 101, 99, 116]) (n3 : ¬ wd = [99, 97, 108, 108]) (n4 : ¬ wd = [112, 105, 99, 107, 115]) (hxx : x = (5, r)) :
    Calls Tryd.prog 24 #[.pointer (some ⟨R, 0, none⟩), .string (St t)] w (TakePost w B R line x) := by
  have HF := Lib.hid (form_any t w ht hm _ ws hw)
  have HN := Lib.hid hn
  obtain ⟨sa, ca, pa, h⟩ := h
  have HRw := Lib.hid h.here.lt
  have H := Lib.hid h
  have HOK := Lib.hid hok
  have HBw := Lib.hid hB
  have HXX := Lib.hid hxx
  clear h hB hm hw hn hok hxx
  go_enter Tryd.func24, Tryd.ntmps24
  go_wp2_with fail
  refine HF.out.mono ?_
  rintro e w2 ⟨hx, ⟨hno, -⟩ | ⟨l', hl', a, c, rfl, hi, -, hg⟩⟩
  · rw [HN.out] at hno; cases hno
  rw [HN.out] at hl'
  cases hl'
  have HX := Lib.hid hx
  have HI := Lib.hid hi
  have HG := Lib.hid hg
  have H2 := Lib.hid (H.out.ext hx)
  have HB2 : Hid (B ≤ w2.heap.size) := Lib.hid (Nat.le_trans HBw.out hx.size)
  have c5 := H2.out.here.cell 5 (v := .int .i64 r.part) rfl
  have c6 := H2.out.here.cell 6 (v := .bool r.last) rfl
  clear hx hi hg HF H
  go_wp2_with fail
  refine (give_no 5 _).mono ?_
  rintro e w3 ⟨hgv, rfl⟩
  unfold Gave at hgv
  subst hgv
  rw [HXX.out]
  exact ⟨rfl, BB.ext HX.out HBw.out, ⟨_, _, _, H2.out⟩, .inr ⟨(by show (5 : Int) ≠ 0; decide), rfl⟩⟩

theorem read_any (w : World) (B R : Nat) (r : Pl.St) (line : Int) (t : List UInt8) (h : IsRd w B R r line) (hok : Rok r) (hB : B ≤ w.heap.size) (hm : MaxAt w) (ht : t.length ≤ 1000000) :
    Calls Tryd.prog 24 #[.pointer (some ⟨R, 0, none⟩), .string (St t)] w (TakePost w B R line (Pl.stepL r t)) := by
  cases hw : Pl.words t with
  | nil => exact absurd hw (plwords_ne t)
  | cons wd ws =>
    cases hn : Pl.numsP ws with
    | none =>
      have e : Pl.stepL r t = (5, r) := by unfold Pl.stepL; rw [hw]; simp only [hn]
      rw [e]
      exact read_form w B R r line t wd ws h hB hm ht hw hn
    | some l =>
      have e : Pl.stepL r t = Pl.takeL r wd l := by unfold Pl.stepL; rw [hw]; simp only [hn]
      rw [e]
      by_cases hT : wd = Pl.wT
      · subst hT
        have no : ¬ (r.part = 0 ∧ l.length = 1) → Pl.takeL r Pl.wT l = (5, r) := fun hh => takeL_no (fun g => hh g.2) (fun g => absurd g.1 (by decide)) (fun g => absurd g.1 (by decide)) (fun g => absurd g.1 (by decide))
        by_cases hp : r.part = 0
        · by_cases hl : l.length = 1
          · by_cases h1 : 1 ≤ nth l 0
            · by_cases h2 : nth l 0 ≤ 16
              · exact read_T1 w B R r line t ws l _ h hok hB hm ht hw hn hp hl h1 h2 (by rw [takeL_T hp hl, if_pos ⟨h1, h2⟩])
              · exact read_T3 w B R r line t ws l _ h hok hB hm ht hw hn hp hl h1 (by omega) (by rw [takeL_T hp hl, if_neg (by omega)])
            · exact read_T2 w B R r line t ws l _ h hok hB hm ht hw hn hp hl (by omega) (by rw [takeL_T hp hl, if_neg (by omega)])
          · exact read_T5 w B R r line t ws l _ h hok hB hm ht hw hn hp hl (no (by omega))
        · exact read_T4 w B R r line t ws l _ h hok hB hm ht hw hn hp (no (by omega))
      by_cases hO : wd = Pl.wO
      · subst hO
        have no : ¬ (r.part = 1 ∧ l.length = 3) → Pl.takeL r Pl.wO l = (5, r) := fun hh => takeL_no (fun g => absurd g.1 (by decide)) (fun g => hh g.2) (fun g => absurd g.1 (by decide)) (fun g => absurd g.1 (by decide))
        by_cases hp : r.part = 1
        · by_cases hl : l.length = 3
          · exact read_O1 w B R r line t ws l _ h hok hB hm ht hw hn hp hl (takeL_O hp hl)
          · exact read_O3 w B R r line t ws l _ h hok hB hm ht hw hn hp hl (no (by omega))
        · exact read_O2 w B R r line t ws l _ h hok hB hm ht hw hn hp (no (by omega))
      by_cases hC : wd = Pl.wC
      · subst hC
        have no : ¬ ((r.part = 1 ∨ r.part = 2) ∧ l.length = 6) → Pl.takeL r Pl.wC l = (5, r) := fun hh => takeL_no (fun g => absurd g.1 (by decide)) (fun g => absurd g.1 (by decide)) (fun g => hh g.2) (fun g => absurd g.1 (by decide))
        by_cases hp : r.part = 1
        · by_cases hl : l.length = 6
          · exact read_C1 w B R r line t ws l _ h hok hB hm ht hw hn hp hl (takeL_C (.inl hp) hl)
          · exact read_C4 w B R r line t ws l _ h hok hB hm ht hw hn hp hl (no (by omega))
        · by_cases hp2 : r.part = 2
          · by_cases hl : l.length = 6
            · exact read_C2 w B R r line t ws l _ h hok hB hm ht hw hn hp2 hl (takeL_C (.inr hp2) hl)
            · exact read_C5 w B R r line t ws l _ h hok hB hm ht hw hn hp2 hl (no (by omega))
          · exact read_C3 w B R r line t ws l _ h hok hB hm ht hw hn hp hp2 (no (by omega))
      by_cases hP : wd = Pl.wP
      · subst hP
        have no : ¬ (0 < r.part ∧ r.last = false ∧ 1 ≤ l.length ∧ l.length ≤ 16) → Pl.takeL r Pl.wP l = (5, r) := fun hh => takeL_no (fun g => absurd g.1 (by decide)) (fun g => absurd g.1 (by decide)) (fun g => absurd g.1 (by decide)) (fun g => hh g.2)
        by_cases hp : 0 < r.part
        · cases hs : r.last with
          | true => exact read_P3 w B R r line t ws l _ h hok hB hm ht hw hn hp hs (no (by rw [hs]; simp))
          | false =>
            by_cases h1 : 1 ≤ l.length
            · by_cases h2 : l.length ≤ 16
              · exact read_P1 w B R r line t ws l _ h hok hB hm ht hw hn hp hs h1 h2 (takeL_P hp hs h1 h2)
              · exact read_P5 w B R r line t ws l _ h hok hB hm ht hw hn hp hs h1 h2 (no (fun g => h2 g.2.2.2))
            · exact read_P4 w B R r line t ws l _ h hok hB hm ht hw hn hp hs h1 (no (fun g => h1 g.2.2.1))
        · exact read_P2 w B R r line t ws l _ h hok hB hm ht hw hn hp (no (fun g => hp g.1))
      exact read_N w B R r line t wd ws l _ h hok hB hm ht hw hn hT hO hC hP (takeL_no (fun g => hT g.1) (fun g => hO g.1) (fun g => hC g.1) (fun g => hP g.1))

end Go.Proofs.YtcfbcffmlinlaaaDoor

namespace Go.Proofs.YtcfbcffmlinlaaaDoor
open Go.RowKit

theorem assert_errno (v : Value) (w : World) : (Instr.typeAssert (.iface 28 v) 20 28 true).run Tryd.prog w = .ok (.tuple #[v, .bool true]) w := by
  simp [Instr.typeAssert, run_underlying Tryd.underlying28, go_sem, Result.andThen]

theorem frame22 (a b c d V : Value) : (#[a, b, c, d] ++ ((Array.replicate 18 undef).setIfInBounds 3 V).setIfInBounds 0 V) = #[a, b, c, d, V, undef, undef, V, undef, undef, undef, undef, undef, undef, undef, undef, undef, undef, undef, undef, undef, undef] := by
  simp only [Array.replicate_succ, Array.replicate_zero, List.push_toArray, List.append_toArray, List.nil_append, List.cons_append, List.setIfInBounds_toArray, List.set_cons_succ, List.set_cons_zero]

set_option maxHeartbeats 400000 in
theorem plclos_idle (a0 a1 a2 a3 : Addr) (w : World) :
    CallsD Tryd.prog 21 #[.pointer (some a0), .pointer (some a1), .pointer (some a2), .pointer (some a3)] .returning w fun e u' w' => e = .returned (.tuple #[]) ∧ u' = .returning ∧ w' = w := by
  refine callsD_of_wpS Tryd.func21 rfl fun c₀ cs hu => ?_
  apply wpS_seq
  apply wpS_region
  simp [wpOpsS, go_sem, recoverD, hu, Tryd.ntmps21, Exit.thenS]
  refine wpS_of_wp ?_
  rw [frame22]
  go_wp2
  refine ⟨rfl, .returning, ?_, .tuple #[], results_none rfl _ _ _, rfl, rfl, rfl⟩
  cases c₀
  simp_all

set_option maxRecDepth 100000 in
set_option maxHeartbeats 1000000 in
theorem plclos_caught (Q R S A E : Nat) (x y k e : Int) (cs4 : Array Value) (older : List PanicEntry) (w : World) (hQ : w.cell? ⟨Q, 0, none⟩ = some (.pointer (some ⟨R, 0, none⟩))) (hR : w.cell? ⟨R, 4, none⟩ = some (.int .i64 k))
    (hS : Blk w S cs4 26) (h4 : ∃ v0 v1 v2 v3, cs4 = #[v0, v1, v2, v3]) (hA : Blk w A #[.int .i64 x] 3) (hE : Blk w E #[.int .i64 y] 28) (hSA : S < A) (hAE : A < E) :
    CallsD Tryd.prog 21 #[.pointer (some ⟨Q, 0, none⟩), .pointer (some ⟨S, 0, none⟩), .pointer (some ⟨A, 0, none⟩), .pointer (some ⟨E, 0, none⟩)] (.panicking ({ v := .iface 28 (.int .i64 e), recovered := false } :: older)) w fun en u' w' =>
      en = .returned (.tuple #[]) ∧ u' = .panicking ({ v := .iface 28 (.int .i64 e), recovered := true } :: older) ∧ Below S w w' ∧
      Blk w' S #[.int .i64 0, .slice none 0 0, .slice none 0 0, .slice none 0 0] 26 ∧ Blk w' A #[.int .i64 k] 3 ∧ Blk w' E #[.int .i64 e] 28 := by
  obtain ⟨v0, v1, v2, v3, rfl⟩ := h4
  have s0 := hS.cell 0 (v := v0) rfl
  have s1 := hS.cell 1 (v := v1) rfl
  have s2 := hS.cell 2 (v := v2) rfl
  have s3 := hS.cell 3 (v := v3) rfl
  have z0 := hS.fz 0
  have z1 := hS.fz 1
  have z2 := hS.fz 2
  have z3 := hS.fz 3
  have ls := hS.lt
  have la := hA.lt
  have le := hE.lt
  have hta := assert_errno (.int .i64 e)
  have a0 := hA.cell 0 (v := .int .i64 x) rfl
  have a1 := hA.fz 0
  have e0 := hE.cell 0 (v := .int .i64 y) rfl
  have e1 := hE.fz 0
  refine callsD_of_wpS Tryd.func21 rfl fun c₀ cs hu => ?_
  apply wpS_seq
  apply wpS_region
  simp [wpOpsS, go_sem, recoverD, hu, Tryd.ntmps21, Exit.thenS]
  refine wpS_of_wp ?_
  rw [frame22]
  go_wp2
  have ws : ∀ (u : World) (b i : Nat) (v : Value), S ≤ b → Below S u (u.setCell ⟨b, i, none⟩ v) := fun u b i v h => below_set S u h v
  have hbel : Below S w (((((((w.setCell ⟨S, 0, none⟩ (.int .i64 0)).setCell ⟨S, 1, none⟩ (.slice none 0 0)).setCell ⟨S, 2, none⟩ (.slice none 0 0)).setCell ⟨S, 3, none⟩ (.slice none 0 0)).setCell ⟨A, 0, none⟩ (.int .i64 k)).setCell ⟨E, 0, none⟩ (.int .i64 5)).setCell ⟨E, 0, none⟩ (.int .i64 e)) :=
    ((((((ws _ _ _ _ (Nat.le_refl S)).trans (ws _ _ _ _ (Nat.le_refl S))).trans (ws _ _ _ _ (Nat.le_refl S))).trans (ws _ _ _ _ (Nat.le_refl S))).trans (ws _ _ _ _ (by omega))).trans (ws _ _ _ _ (by omega))).trans (ws _ _ _ _ (by omega))
  have hbS : Blk (((((((w.setCell ⟨S, 0, none⟩ (.int .i64 0)).setCell ⟨S, 1, none⟩ (.slice none 0 0)).setCell ⟨S, 2, none⟩ (.slice none 0 0)).setCell ⟨S, 3, none⟩ (.slice none 0 0)).setCell ⟨A, 0, none⟩ (.int .i64 k)).setCell ⟨E, 0, none⟩ (.int .i64 5)).setCell ⟨E, 0, none⟩ (.int .i64 e)) S #[.int .i64 0, .slice none 0 0, .slice none 0 0, .slice none 0 0] 26 :=
    ((((((hS.set 0 _).set 1 _).set 2 _).set 3 _).set_ne (by omega) _).set_ne (by omega) _).set_ne (by omega) _
  have hbA : Blk (((((((w.setCell ⟨S, 0, none⟩ (.int .i64 0)).setCell ⟨S, 1, none⟩ (.slice none 0 0)).setCell ⟨S, 2, none⟩ (.slice none 0 0)).setCell ⟨S, 3, none⟩ (.slice none 0 0)).setCell ⟨A, 0, none⟩ (.int .i64 k)).setCell ⟨E, 0, none⟩ (.int .i64 5)).setCell ⟨E, 0, none⟩ (.int .i64 e)) A #[.int .i64 k] 3 :=
    ((((((hA.set_ne (by omega) _).set_ne (by omega) _).set_ne (by omega) _).set_ne (by omega) _).set 0 _).set_ne (by omega) _).set_ne (by omega) _
  have hbE : Blk (((((((w.setCell ⟨S, 0, none⟩ (.int .i64 0)).setCell ⟨S, 1, none⟩ (.slice none 0 0)).setCell ⟨S, 2, none⟩ (.slice none 0 0)).setCell ⟨S, 3, none⟩ (.slice none 0 0)).setCell ⟨A, 0, none⟩ (.int .i64 k)).setCell ⟨E, 0, none⟩ (.int .i64 5)).setCell ⟨E, 0, none⟩ (.int .i64 e)) E #[.int .i64 e] 28 :=
    ((((((hE.set_ne (by omega) _).set_ne (by omega) _).set_ne (by omega) _).set_ne (by omega) _).set_ne (by omega) _).set 0 _).set 0 _
  refine ⟨rfl, .panicking ({ v := .iface 28 (.int .i64 e), recovered := true } :: older), rfl, .tuple #[], results_none rfl _ _ _, rfl, rfl, hbel, hbS, hbA, hbE⟩

end Go.Proofs.YtcfbcffmlinlaaaDoor
