/-
  plan's reader: object.
  plan's reader: call.
-/
import Derived.Test.YtcfbcffmlinlaaaDoorJ09
import Derived.Deep.RegionLaw
import Derived.Deep.AppendLies
set_option linter.unusedVariables false
namespace Go.Proofs.YtcfbcffmlinlaaaDoor
open Go.RowKit

def objT (r : Pl.St) (l : List Int) : Int × Pl.St :=
  if 255 < nth l 0 ∨ 65535 < nth l 1 ∨ 65535 < nth l 2 then (10, r)
  else if 8 ≤ r.s.specs.length then (3, r)
  else (0, ⟨⟨r.s.n, r.s.specs ++ [⟨nth l 0, nth l 1, nth l 2⟩], r.s.calls, r.s.picks⟩, 1, r.last⟩)

/-- It gives up in a region that draws. -/
def XGave (W : World) (k : Int) (e : Exit) (w' : World) : Prop := e = .panic [{ v := .iface 28 (.int .i64 k), recovered := false }] ∧ Ext W w'


set_option maxRecDepth 100000 in
set_option maxHeartbeats 2000000 in
theorem object_bad0 (w : World) (B R : Nat) (r : Pl.St) (line : Int) (b off c : Nat) (x0 x1 x2 : Int) (h : IsRd w B R r line) (hB : B ≤ w.heap.size)
    (c0 : w.cell? ⟨b, off, none⟩ = some (.int .u64 x0)) (c1 : w.cell? ⟨b, off + 1, none⟩ = some (.int .u64 x1)) (c2 : w.cell? ⟨b, off + 2, none⟩ = some (.int .u64 x2))
    (g0 : 0 ≤ x0 ∧ x0 ≤ 18446744073709551615) (g1 : 0 ≤ x1 ∧ x1 ≤ 18446744073709551615) (g2 : 0 ≤ x2 ∧ x2 ≤ 18446744073709551615) (hx0 : 255 < x0) :
    Calls Tryd.prog 42 #[.pointer (some ⟨R, 0, none⟩), .slice (some ⟨b, off, none⟩) 3 c] w (TakePost w B R line (10, r)) := by
  have H := Lib.hid h
  have d0 := fun w' (hw : Ext w w') => hw.cell c0
  have d1 := fun w' (hw : Ext w w') => hw.cell c1
  have d2 := fun w' (hw : Ext w w') => hw.cell c2
  have HF0 : Hid (∀ wx, Calls Tryd.prog 56 #[.int .u64 x0, .int .i64 255] wx fun e w' => Gave 10 e ∧ wx = w') := Lib.hid (fun wx => fits_no x0 255 wx g0.1 hx0 g0.2 (by decide) (by decide))
  clear c0 c1 c2 h g0 g1 g2 hx0
  go_enter Tryd.func42, Tryd.ntmps42
  go_wp2_with fail
  refine RegP.wp_region_v [(7, 3), (11, 3), (12, 3), (14, 3)] Ext (XGave w 10) (by kernel_rfl) (by kernel_rfl) (fun _ _ _ => Ext.trans) (Ext.refl _).drew ?_ ?_
  · rintro e a' w' hd ⟨rfl, hx⟩
    exact ⟨hd, BB.ext hx hB, H.out.ext hx, .inr ⟨(by show (10 : Int) ≠ 0; decide), rfl⟩⟩
  focus
    repeat (refine RegP.step_det ?_; apply Exists.intro; refine And.intro ?_ ?_; (focus (intro vs w' hw hf; go_wp2_with fail; exact RegP.post_at rfl (Ext.refl _) rfl)); intro A' hA'; simp only [Act.put, List.setIfInBounds_toArray, List.set_cons_zero, List.set_cons_succ] at hA'; have e := funext hA'; subst e; clear hA')
    refine RegP.step_rel (fun _ _ => False) (by simp) (fun _ _ _ h _ => h) ?_ ?_
    focus
      intro vs w' hw hf
      have hcon := HF0.out w'
      have HCON := Lib.hid hcon; clear hcon
      go_wp2_with fail
      refine HCON.out.mono ?_
      rintro e' wn ⟨hgv, rfl⟩
      unfold Gave at hgv
      subst hgv
      exact RegP.post_pan _ ⟨rfl, hw⟩
    intro A' hA'; simp only [Act.put, List.setIfInBounds_toArray, List.set_cons_zero, List.set_cons_succ] at hA'; have e := funext hA'; subst e; clear hA'
    repeat (refine RegP.step_det ?_; apply Exists.intro; refine And.intro ?_ ?_; (focus (intro vs w' hw hf; go_wp2_with fail; exact RegP.post_at rfl (Ext.refl _) rfl)); intro A' hA'; simp only [Act.put, List.setIfInBounds_toArray, List.set_cons_zero, List.set_cons_succ] at hA'; have e := funext hA'; subst e; clear hA')
    refine RegP.step_det ⟨undef, fun vs w' hw hf => (hf (3, fun _ _ => False) (by simp) (by decide)).elim, ?_⟩
    intro A' hA'; simp only [Act.put, List.setIfInBounds_toArray, List.set_cons_zero, List.set_cons_succ] at hA'; have e := funext hA'; subst e; clear hA'
    repeat (refine RegP.step_det ?_; apply Exists.intro; refine And.intro ?_ ?_; (focus (intro vs w' hw hf; go_wp2_with fail; exact RegP.post_at rfl (Ext.refl _) rfl)); intro A' hA'; simp only [Act.put, List.setIfInBounds_toArray, List.set_cons_zero, List.set_cons_succ] at hA'; have e := funext hA'; subst e; clear hA')
    refine RegP.step_det ⟨undef, fun vs w' hw hf => (hf (3, fun _ _ => False) (by simp) (by decide)).elim, ?_⟩
    intro A' hA'; simp only [Act.put, List.setIfInBounds_toArray, List.set_cons_zero, List.set_cons_succ] at hA'; have e := funext hA'; subst e; clear hA'
    refine RegP.step_det ⟨undef, fun vs w' hw hf => (hf (3, fun _ _ => False) (by simp) (by decide)).elim, ?_⟩
    intro A' hA'; simp only [Act.put, List.setIfInBounds_toArray, List.set_cons_zero, List.set_cons_succ] at hA'; have e := funext hA'; subst e; clear hA'
    refine RegP.step_rel (fun _ _ => True) (by simp) (fun _ _ _ _ _ => trivial) ?_ ?_
    focus
      intro vs w' hw hf
      go_wp2_with fail
      exact RegP.post_rel_at _ rfl ((Ext.refl _).alloc _) rfl trivial
    intro A' hA'; simp only [Act.put, List.setIfInBounds_toArray, List.set_cons_zero, List.set_cons_succ] at hA'; have e := funext hA'; subst e; clear hA'
    refine RegP.step_det ⟨undef, fun vs w' hw hf => (hf (3, fun _ _ => False) (by simp) (by decide)).elim, ?_⟩
    intro A' hA'; simp only [Act.put] at hA'; have e := funext hA'; subst e; clear hA'
    intro vs w' hw hf
    exact (hf (3, fun _ _ => False) (by simp)).elim

set_option maxRecDepth 100000 in
set_option maxHeartbeats 2000000 in
theorem object_bad1 (w : World) (B R : Nat) (r : Pl.St) (line : Int) (b off c : Nat) (x0 x1 x2 : Int) (h : IsRd w B R r line) (hB : B ≤ w.heap.size)
    (c0 : w.cell? ⟨b, off, none⟩ = some (.int .u64 x0)) (c1 : w.cell? ⟨b, off + 1, none⟩ = some (.int .u64 x1)) (c2 : w.cell? ⟨b, off + 2, none⟩ = some (.int .u64 x2))
    (g0 : 0 ≤ x0 ∧ x0 ≤ 18446744073709551615) (g1 : 0 ≤ x1 ∧ x1 ≤ 18446744073709551615) (g2 : 0 ≤ x2 ∧ x2 ≤ 18446744073709551615) (hx0 : x0 ≤ 255) (hx1 : 65535 < x1) :
    Calls Tryd.prog 42 #[.pointer (some ⟨R, 0, none⟩), .slice (some ⟨b, off, none⟩) 3 c] w (TakePost w B R line (10, r)) := by
  have H := Lib.hid h
  have d0 := fun w' (hw : Ext w w') => hw.cell c0
  have d1 := fun w' (hw : Ext w w') => hw.cell c1
  have d2 := fun w' (hw : Ext w w') => hw.cell c2
  have HF0 : Hid (∀ wx, Calls Tryd.prog 56 #[.int .u64 x0, .int .i64 255] wx fun e w' => e = .returned (.int .i64 x0) ∧ wx = w') := Lib.hid (fun wx => fits_ok x0 255 wx g0.1 hx0 (by decide))
  have HF1 : Hid (∀ wx, Calls Tryd.prog 56 #[.int .u64 x1, .int .i64 65535] wx fun e w' => Gave 10 e ∧ wx = w') := Lib.hid (fun wx => fits_no x1 65535 wx g1.1 hx1 g1.2 (by decide) (by decide))
  clear c0 c1 c2 h g0 g1 g2 hx0 hx1
  go_enter Tryd.func42, Tryd.ntmps42
  go_wp2_with fail
  refine RegP.wp_region_v [(11, 7), (12, 7), (14, 7)] Ext (XGave w 10) (by kernel_rfl) (by kernel_rfl) (fun _ _ _ => Ext.trans) (Ext.refl _).drew ?_ ?_
  · rintro e a' w' hd ⟨rfl, hx⟩
    exact ⟨hd, BB.ext hx hB, H.out.ext hx, .inr ⟨(by show (10 : Int) ≠ 0; decide), rfl⟩⟩
  focus
    repeat (refine RegP.step_det ?_; apply Exists.intro; refine And.intro ?_ ?_; (focus (intro vs w' hw hf; go_wp2_with fail; exact RegP.post_at rfl (Ext.refl _) rfl)); intro A' hA'; simp only [Act.put, List.setIfInBounds_toArray, List.set_cons_zero, List.set_cons_succ] at hA'; have e := funext hA'; subst e; clear hA')
    refine RegP.step_det ?_; apply Exists.intro; refine And.intro ?_ ?_
    focus
      intro vs w' hw hf
      have hcon := HF0.out w'
      have HCON := Lib.hid hcon; clear hcon
      go_wp2_with fail
      refine HCON.out.mono ?_
      rintro e' wn ⟨rfl, rfl⟩
      go_wp2_with fail
      exact RegP.post_at rfl (Ext.refl _) rfl
    intro A' hA'; simp only [Act.put, List.setIfInBounds_toArray, List.set_cons_zero, List.set_cons_succ] at hA'; have e := funext hA'; subst e; clear hA'
    repeat (refine RegP.step_det ?_; apply Exists.intro; refine And.intro ?_ ?_; (focus (intro vs w' hw hf; go_wp2_with fail; exact RegP.post_at rfl (Ext.refl _) rfl)); intro A' hA'; simp only [Act.put, List.setIfInBounds_toArray, List.set_cons_zero, List.set_cons_succ] at hA'; have e := funext hA'; subst e; clear hA')
    refine RegP.step_rel (fun _ _ => False) (by simp) (fun _ _ _ h _ => h) ?_ ?_
    focus
      intro vs w' hw hf
      have hcon := HF1.out w'
      have HCON := Lib.hid hcon; clear hcon
      go_wp2_with fail
      refine HCON.out.mono ?_
      rintro e' wn ⟨hgv, rfl⟩
      unfold Gave at hgv
      subst hgv
      exact RegP.post_pan _ ⟨rfl, hw⟩
    intro A' hA'; simp only [Act.put, List.setIfInBounds_toArray, List.set_cons_zero, List.set_cons_succ] at hA'; have e := funext hA'; subst e; clear hA'
    repeat (refine RegP.step_det ?_; apply Exists.intro; refine And.intro ?_ ?_; (focus (intro vs w' hw hf; go_wp2_with fail; exact RegP.post_at rfl (Ext.refl _) rfl)); intro A' hA'; simp only [Act.put, List.setIfInBounds_toArray, List.set_cons_zero, List.set_cons_succ] at hA'; have e := funext hA'; subst e; clear hA')
    refine RegP.step_det ⟨undef, fun vs w' hw hf => (hf (7, fun _ _ => False) (by simp) (by decide)).elim, ?_⟩
    intro A' hA'; simp only [Act.put, List.setIfInBounds_toArray, List.set_cons_zero, List.set_cons_succ] at hA'; have e := funext hA'; subst e; clear hA'
    refine RegP.step_det ⟨undef, fun vs w' hw hf => (hf (7, fun _ _ => False) (by simp) (by decide)).elim, ?_⟩
    intro A' hA'; simp only [Act.put, List.setIfInBounds_toArray, List.set_cons_zero, List.set_cons_succ] at hA'; have e := funext hA'; subst e; clear hA'
    refine RegP.step_rel (fun _ _ => True) (by simp) (fun _ _ _ _ _ => trivial) ?_ ?_
    focus
      intro vs w' hw hf
      go_wp2_with fail
      exact RegP.post_rel_at _ rfl ((Ext.refl _).alloc _) rfl trivial
    intro A' hA'; simp only [Act.put, List.setIfInBounds_toArray, List.set_cons_zero, List.set_cons_succ] at hA'; have e := funext hA'; subst e; clear hA'
    refine RegP.step_det ⟨undef, fun vs w' hw hf => (hf (7, fun _ _ => False) (by simp) (by decide)).elim, ?_⟩
    intro A' hA'; simp only [Act.put] at hA'; have e := funext hA'; subst e; clear hA'
    intro vs w' hw hf
    exact (hf (7, fun _ _ => False) (by simp)).elim

set_option maxRecDepth 100000 in
set_option maxHeartbeats 2000000 in
theorem object_bad2 (w : World) (B R : Nat) (r : Pl.St) (line : Int) (b off c : Nat) (x0 x1 x2 : Int) (h : IsRd w B R r line) (hB : B ≤ w.heap.size)
    (c0 : w.cell? ⟨b, off, none⟩ = some (.int .u64 x0)) (c1 : w.cell? ⟨b, off + 1, none⟩ = some (.int .u64 x1)) (c2 : w.cell? ⟨b, off + 2, none⟩ = some (.int .u64 x2))
    (g0 : 0 ≤ x0 ∧ x0 ≤ 18446744073709551615) (g1 : 0 ≤ x1 ∧ x1 ≤ 18446744073709551615) (g2 : 0 ≤ x2 ∧ x2 ≤ 18446744073709551615) (hx0 : x0 ≤ 255) (hx1 : x1 ≤ 65535) (hx2 : 65535 < x2) :
    Calls Tryd.prog 42 #[.pointer (some ⟨R, 0, none⟩), .slice (some ⟨b, off, none⟩) 3 c] w (TakePost w B R line (10, r)) := by
  have H := Lib.hid h
  have d0 := fun w' (hw : Ext w w') => hw.cell c0
  have d1 := fun w' (hw : Ext w w') => hw.cell c1
  have d2 := fun w' (hw : Ext w w') => hw.cell c2
  have HF0 : Hid (∀ wx, Calls Tryd.prog 56 #[.int .u64 x0, .int .i64 255] wx fun e w' => e = .returned (.int .i64 x0) ∧ wx = w') := Lib.hid (fun wx => fits_ok x0 255 wx g0.1 hx0 (by decide))
  have HF1 : Hid (∀ wx, Calls Tryd.prog 56 #[.int .u64 x1, .int .i64 65535] wx fun e w' => e = .returned (.int .i64 x1) ∧ wx = w') := Lib.hid (fun wx => fits_ok x1 65535 wx g1.1 hx1 (by decide))
  have HF2 : Hid (∀ wx, Calls Tryd.prog 56 #[.int .u64 x2, .int .i64 65535] wx fun e w' => Gave 10 e ∧ wx = w') := Lib.hid (fun wx => fits_no x2 65535 wx g2.1 hx2 g2.2 (by decide) (by decide))
  clear c0 c1 c2 h g0 g1 g2 hx0 hx1 hx2
  go_enter Tryd.func42, Tryd.ntmps42
  go_wp2_with fail
  refine RegP.wp_region_v [(12, 11), (14, 11)] Ext (XGave w 10) (by kernel_rfl) (by kernel_rfl) (fun _ _ _ => Ext.trans) (Ext.refl _).drew ?_ ?_
  · rintro e a' w' hd ⟨rfl, hx⟩
    exact ⟨hd, BB.ext hx hB, H.out.ext hx, .inr ⟨(by show (10 : Int) ≠ 0; decide), rfl⟩⟩
  focus
    repeat (refine RegP.step_det ?_; apply Exists.intro; refine And.intro ?_ ?_; (focus (intro vs w' hw hf; go_wp2_with fail; exact RegP.post_at rfl (Ext.refl _) rfl)); intro A' hA'; simp only [Act.put, List.setIfInBounds_toArray, List.set_cons_zero, List.set_cons_succ] at hA'; have e := funext hA'; subst e; clear hA')
    refine RegP.step_det ?_; apply Exists.intro; refine And.intro ?_ ?_
    focus
      intro vs w' hw hf
      have hcon := HF0.out w'
      have HCON := Lib.hid hcon; clear hcon
      go_wp2_with fail
      refine HCON.out.mono ?_
      rintro e' wn ⟨rfl, rfl⟩
      go_wp2_with fail
      exact RegP.post_at rfl (Ext.refl _) rfl
    intro A' hA'; simp only [Act.put, List.setIfInBounds_toArray, List.set_cons_zero, List.set_cons_succ] at hA'; have e := funext hA'; subst e; clear hA'
    repeat (refine RegP.step_det ?_; apply Exists.intro; refine And.intro ?_ ?_; (focus (intro vs w' hw hf; go_wp2_with fail; exact RegP.post_at rfl (Ext.refl _) rfl)); intro A' hA'; simp only [Act.put, List.setIfInBounds_toArray, List.set_cons_zero, List.set_cons_succ] at hA'; have e := funext hA'; subst e; clear hA')
    refine RegP.step_det ?_; apply Exists.intro; refine And.intro ?_ ?_
    focus
      intro vs w' hw hf
      have hcon := HF1.out w'
      have HCON := Lib.hid hcon; clear hcon
      go_wp2_with fail
      refine HCON.out.mono ?_
      rintro e' wn ⟨rfl, rfl⟩
      go_wp2_with fail
      exact RegP.post_at rfl (Ext.refl _) rfl
    intro A' hA'; simp only [Act.put, List.setIfInBounds_toArray, List.set_cons_zero, List.set_cons_succ] at hA'; have e := funext hA'; subst e; clear hA'
    repeat (refine RegP.step_det ?_; apply Exists.intro; refine And.intro ?_ ?_; (focus (intro vs w' hw hf; go_wp2_with fail; exact RegP.post_at rfl (Ext.refl _) rfl)); intro A' hA'; simp only [Act.put, List.setIfInBounds_toArray, List.set_cons_zero, List.set_cons_succ] at hA'; have e := funext hA'; subst e; clear hA')
    refine RegP.step_rel (fun _ _ => False) (by simp) (fun _ _ _ h _ => h) ?_ ?_
    focus
      intro vs w' hw hf
      have hcon := HF2.out w'
      have HCON := Lib.hid hcon; clear hcon
      go_wp2_with fail
      refine HCON.out.mono ?_
      rintro e' wn ⟨hgv, rfl⟩
      unfold Gave at hgv
      subst hgv
      exact RegP.post_pan _ ⟨rfl, hw⟩
    intro A' hA'; simp only [Act.put, List.setIfInBounds_toArray, List.set_cons_zero, List.set_cons_succ] at hA'; have e := funext hA'; subst e; clear hA'
    refine RegP.step_det ⟨undef, fun vs w' hw hf => (hf (11, fun _ _ => False) (by simp) (by decide)).elim, ?_⟩
    intro A' hA'; simp only [Act.put, List.setIfInBounds_toArray, List.set_cons_zero, List.set_cons_succ] at hA'; have e := funext hA'; subst e; clear hA'
    refine RegP.step_rel (fun _ _ => True) (by simp) (fun _ _ _ _ _ => trivial) ?_ ?_
    focus
      intro vs w' hw hf
      go_wp2_with fail
      exact RegP.post_rel_at _ rfl ((Ext.refl _).alloc _) rfl trivial
    intro A' hA'; simp only [Act.put, List.setIfInBounds_toArray, List.set_cons_zero, List.set_cons_succ] at hA'; have e := funext hA'; subst e; clear hA'
    refine RegP.step_det ⟨undef, fun vs w' hw hf => (hf (11, fun _ _ => False) (by simp) (by decide)).elim, ?_⟩
    intro A' hA'; simp only [Act.put] at hA'; have e := funext hA'; subst e; clear hA'
    intro vs w' hw hf
    exact (hf (11, fun _ _ => False) (by simp)).elim

def objG (r : Pl.St) (x : Spc) : Int × Pl.St :=
  if 8 ≤ r.s.specs.length then (3, r) else (0, ⟨⟨r.s.n, r.s.specs ++ [x], r.s.calls, r.s.picks⟩, 1, r.last⟩)

set_option maxRecDepth 100000 in
set_option maxHeartbeats 4000000 in
theorem object_good (w : World) (B R : Nat) (r : Pl.St) (line : Int) (b off c : Nat) (x0 x1 x2 : Int) (h : IsRd w B R r line) (hok : Rok r) (hB : B ≤ w.heap.size)
    (c0 : w.cell? ⟨b, off, none⟩ = some (.int .u64 x0)) (c1 : w.cell? ⟨b, off + 1, none⟩ = some (.int .u64 x1)) (c2 : w.cell? ⟨b, off + 2, none⟩ = some (.int .u64 x2))
    (g0 : 0 ≤ x0) (g1 : 0 ≤ x1) (g2 : 0 ≤ x2) (hx0 : x0 ≤ 255) (hx1 : x1 ≤ 65535) (hx2 : x2 ≤ 65535) :
    Calls Tryd.prog 42 #[.pointer (some ⟨R, 0, none⟩), .slice (some ⟨b, off, none⟩) 3 c] w
      (TakePost w B R line (objG r ⟨x0, x1, x2⟩)) := by
  obtain ⟨sa, ca, pa, h⟩ := h
  have HRw := Lib.hid h.here.lt
  obtain ⟨va, vc, rfl, -⟩ := own_slice h.specs
  have H := Lib.hid h
  have HBw := Lib.hid hB
  clear hB
  have hs8 := hok.specs
  have d0 := fun w' (hw : Ext w w') => hw.cell c0
  have d1 := fun w' (hw : Ext w w') => hw.cell c1
  have d2 := fun w' (hw : Ext w w') => hw.cell c2
  have HF0 : Hid (∀ wx, Calls Tryd.prog 56 #[.int .u64 x0, .int .i64 255] wx fun e w' => e = .returned (.int .i64 x0) ∧ wx = w') := Lib.hid (fun wx => fits_ok x0 255 wx g0 hx0 (by decide))
  have HF1 : Hid (∀ wx, Calls Tryd.prog 56 #[.int .u64 x1, .int .i64 65535] wx fun e w' => e = .returned (.int .i64 x1) ∧ wx = w') := Lib.hid (fun wx => fits_ok x1 65535 wx g1 hx1 (by decide))
  have HF2 : Hid (∀ wx, Calls Tryd.prog 56 #[.int .u64 x2, .int .i64 65535] wx fun e w' => e = .returned (.int .i64 x2) ∧ wx = w') := Lib.hid (fun wx => fits_ok x2 65535 wx g2 hx2 (by decide))
  clear c0 c1 c2 h g0 g1 g2 hx0 hx1 hx2 hok
  go_enter Tryd.func42, Tryd.ntmps42
  go_wp2_with fail
  refine RegP.wp_region_last 14 _ _ rfl rfl rfl [] Ext (fun _ _ => False) (by kernel_rfl) (by kernel_rfl) (by kernel_rfl) (fun _ _ _ => Ext.trans) (Ext.refl _).drew (fun _ _ _ _ h => h.elim) ?_
  repeat (refine RegP.step_det ?_; apply Exists.intro; refine And.intro ?_ ?_; (focus (intro vs w' hw hf; go_wp2_with fail; exact RegP.post_at rfl (Ext.refl _) rfl)); intro A' hA'; simp only [Act.put, List.setIfInBounds_toArray, List.set_cons_zero, List.set_cons_succ] at hA'; have e := funext hA'; subst e; clear hA')
  refine RegP.step_det ?_; apply Exists.intro; refine And.intro ?_ ?_
  focus
    intro vs w' hw hf
    have hcon := HF0.out w'
    have HCON := Lib.hid hcon; clear hcon
    go_wp2_with fail
    refine HCON.out.mono ?_
    rintro e' wn ⟨rfl, rfl⟩
    go_wp2_with fail
    exact RegP.post_at rfl (Ext.refl _) rfl
  intro A' hA'; simp only [Act.put, List.setIfInBounds_toArray, List.set_cons_zero, List.set_cons_succ] at hA'; have e := funext hA'; subst e; clear hA'
  repeat (refine RegP.step_det ?_; apply Exists.intro; refine And.intro ?_ ?_; (focus (intro vs w' hw hf; go_wp2_with fail; exact RegP.post_at rfl (Ext.refl _) rfl)); intro A' hA'; simp only [Act.put, List.setIfInBounds_toArray, List.set_cons_zero, List.set_cons_succ] at hA'; have e := funext hA'; subst e; clear hA')
  refine RegP.step_det ?_; apply Exists.intro; refine And.intro ?_ ?_
  focus
    intro vs w' hw hf
    have hcon := HF1.out w'
    have HCON := Lib.hid hcon; clear hcon
    go_wp2_with fail
    refine HCON.out.mono ?_
    rintro e' wn ⟨rfl, rfl⟩
    go_wp2_with fail
    exact RegP.post_at rfl (Ext.refl _) rfl
  intro A' hA'; simp only [Act.put, List.setIfInBounds_toArray, List.set_cons_zero, List.set_cons_succ] at hA'; have e := funext hA'; subst e; clear hA'
  repeat (refine RegP.step_det ?_; apply Exists.intro; refine And.intro ?_ ?_; (focus (intro vs w' hw hf; go_wp2_with fail; exact RegP.post_at rfl (Ext.refl _) rfl)); intro A' hA'; simp only [Act.put, List.setIfInBounds_toArray, List.set_cons_zero, List.set_cons_succ] at hA'; have e := funext hA'; subst e; clear hA')
  refine RegP.step_det ?_; apply Exists.intro; refine And.intro ?_ ?_
  focus
    intro vs w' hw hf
    have hcon := HF2.out w'
    have HCON := Lib.hid hcon; clear hcon
    go_wp2_with fail
    refine HCON.out.mono ?_
    rintro e' wn ⟨rfl, rfl⟩
    go_wp2_with fail
    exact RegP.post_at rfl (Ext.refl _) rfl
  intro A' hA'; simp only [Act.put, List.setIfInBounds_toArray, List.set_cons_zero, List.set_cons_succ] at hA'; have e := funext hA'; subst e; clear hA'
  repeat (refine RegP.step_det ?_; apply Exists.intro; refine And.intro ?_ ?_; (focus (intro vs w' hw hf; go_wp2_with fail; exact RegP.post_at rfl (Ext.refl _) rfl)); intro A' hA'; simp only [Act.put, List.setIfInBounds_toArray, List.set_cons_zero, List.set_cons_succ] at hA'; have e := funext hA'; subst e; clear hA')
  refine RegP.step_rel (fun v w2 => ∃ k, v = .pointer (some ⟨k, 0, none⟩) ∧ w.heap.size ≤ k ∧ Blk w2 k #[.int .i64 0, .int .i64 0, .int .i64 0] 59) (by simp) (fun v a b ⟨k, e, h1, h2⟩ hx => ⟨k, e, h1, h2.ext hx⟩) ?_ ?_
  focus
    intro vs w' hw hf
    go_wp2_with fail
    exact RegP.post_rel_at _ rfl ((Ext.refl _).alloc _) rfl ⟨w'.heap.size, rfl, hw.size, Blk.new _ _ _⟩
  intro A' hA'; simp only [Act.put, List.setIfInBounds_toArray, List.set_cons_zero, List.set_cons_succ] at hA'; have e := funext hA'; subst e; clear hA'
  intro vs w' hw hf
  obtain ⟨k, hv, hk, hb⟩ := hf (13, fun v w2 => ∃ k, v = .pointer (some ⟨k, 0, none⟩) ∧ w.heap.size ≤ k ∧ Blk w2 k #[.int .i64 0, .int .i64 0, .int .i64 0] 59) (by simp)
  clear hf d0 d1 d2 HF0 HF1 HF2
  have hv : vs 13 = .pointer (some ⟨k, 0, none⟩) := hv
  simp only [Nat.reduceAdd, hv]
  clear hv
  have HRd := Lib.hid H.out
  have H1 := trivial
  have HW := Lib.hid hw
  have HB := Lib.hid hb
  have HK := Lib.hid hk
  have z0 := hb.cell 0 (v := .int .i64 0) rfl
  have z1 := hb.cell 1 (v := .int .i64 0) rfl
  have z2 := hb.cell 2 (v := .int .i64 0) rfl
  have f0 := hb.fz 0
  have f1 := hb.fz 1
  have f2 := hb.fz 2
  have hlt := hb.lt
  clear hw hb hk H
  go_upto_region 1 with (fail)
  clear z0 z1 z2 f0 f1 f2 hlt
  have HX2 : Hid (Ext w (((w'.setCell ⟨k, 0, none⟩ (.int .i64 x0)).setCell ⟨k, 1, none⟩ (.int .i64 x1)).setCell ⟨k, 2, none⟩ (.int .i64 x2))) := Lib.hid (Below.trans HW.out (((below_set _ _ HK.out _).trans (below_set _ _ HK.out _)).trans (below_set _ _ HK.out _)))
  have HB2 : Hid (Blk (((w'.setCell ⟨k, 0, none⟩ (.int .i64 x0)).setCell ⟨k, 1, none⟩ (.int .i64 x1)).setCell ⟨k, 2, none⟩ (.int .i64 x2)) k #[.int .i64 x0, .int .i64 x1, .int .i64 x2] 59) := Lib.hid (((HB.out.set 0 _).set 1 _).set 2 _)
  clear HB HW H1
  generalize (((w'.setCell ⟨k, 0, none⟩ (.int .i64 x0)).setCell ⟨k, 1, none⟩ (.int .i64 x1)).setCell ⟨k, 2, none⟩ (.int .i64 x2)) = W2 at *
  have H2 := Lib.hid (HRd.out.ext HX2.out)
  clear HRd
  have c1 := H2.out.here.cell 1 (v := .slice va r.s.specs.length vc) rfl
  have cR := H2.out.here.lt
  by_cases h8 : 8 ≤ r.s.specs.length
  · have HG : Hid (objG r ⟨x0, x1, x2⟩ = (3, r)) := Lib.hid (if_pos h8)
    have d8 : decide ((r.s.specs.length : Int) < 8) = false := decide_eq_false (by omega)
    clear h8
    go_wp2_with fail
    refine (give_no 3 _).mono ?_
    rintro e w3 ⟨hg, rfl⟩
    unfold Gave at hg
    subst hg
    refine ⟨rfl, BB.ext HX2.out HBw.out, ?_, ?_⟩
    · rw [HG.out]; exact ⟨_, _, _, H2.out⟩
    · rw [HG.out]; exact .inr ⟨(by show (3 : Int) ≠ 0; decide), rfl⟩
  · have HG : Hid (objG r ⟨x0, x1, x2⟩ = (0, ⟨⟨r.s.n, r.s.specs ++ [⟨x0, x1, x2⟩], r.s.calls, r.s.picks⟩, 1, r.last⟩)) := Lib.hid (if_neg h8)
    have d8 : decide ((r.s.specs.length : Int) < 8) = true := decide_eq_true (by omega)
    clear h8
    go_wp2_with fail
    refine (give_ok 3 _).mono ?_
    rintro e w3 ⟨rfl, rfl⟩
    have b0 := HB2.out.cell 0 (v := .int .i64 x0) rfl
    have b1 := HB2.out.cell 1 (v := .int .i64 x1) rfl
    have b2 := HB2.out.cell 2 (v := .int .i64 x2) rfl
    obtain ⟨i0, hi, hz0, hz1, hz2⟩ := info_parts Tryd.infoSpec
    have HI := Lib.hid hi
    have HZ := Lib.hid (And.intro hz0 (And.intro hz1 hz2))
    clear hi hz0 hz1 hz2
    have hbb : B ≤ W2.heap.size := Nat.le_trans HBw.out HX2.out.size
    go_wp2_with fail
    go_region_law (refine step_append_lies _ (by rfl) (.tmp 31) (.tmp 33) 22 (by rfl) B 59 i0 _ 3 24 Tryd.underlying22 HI.out HZ.out.1 HZ.out.2.1 HZ.out.2.2 (by rfl) (by decide) _ _ _ (by rfl) (own_ext H2.out.specs (((Ext.refl _).drew).alloc _)) ⟨_, 0, none⟩ 1 1 [.int .i64 x0, .int .i64 x1, .int .i64 x2] (by rfl) rfl (World.news_of_block (heap_alloc_new _ _)) (by intro u hu; simp at hu; rcases hu with rfl | rfl | rfl <;> rfl) (by decide) (by unfold maxLen; omega) (by omega) (by simp; omega) _ rfl ?_; intro gb c4 w4 hon hg4 hat4 hlt4; have HBL4 := Lib.hid (Below.trans (((((Ext.refl W2).drew).alloc (.cells #[.int .i64 x0, .int .i64 x1, .int .i64 x2] 59)).mono hbb)) (below_of_grown (own_ext H2.out.specs (((Ext.refl _).drew).alloc _)) hg4 (by simp; omega))); obtain ⟨hb4, hp4⟩ := PRd.app_specs (H2.out.ext (((Ext.refl _).drew).alloc _)) ⟨x0, x1, x2⟩ hg4 hon; have k1 := hb4.cell 1 (v := .slice va r.s.specs.length vc) rfl; have k2 := hb4.fz 1; have k3 := hb4.lt; have HP4 := Lib.hid hp4; clear hb4 hp4 hon hg4 hat4 hlt4)
    all_goals
      have HB5 : Hid (BB B R w (w4.setCell ⟨R, 1, none⟩ (.slice (some ⟨gb, 0, none⟩) (r.s.specs.length + 1) c4))) := Lib.hid ((BB.ext HX2.out HBw.out).trans ((BB.of HBL4.out).trans (BB.set _ _)))
      clear k1 k2 k3 c1 cR b0 b1 b2 HBL4
      generalize (w4.setCell ⟨R, 1, none⟩ (.slice (some ⟨gb, 0, none⟩) (r.s.specs.length + 1) c4)) = W5 at *
      have k1 := HP4.out.here.cell 5 (v := .int .i64 r.part) rfl
      have k2 := HP4.out.here.fz 5
      have k3 := HP4.out.here.lt
      go_wp2_with fail
      go_end0
      refine ⟨HB5.out.trans (BB.set _ _), ?_, ?_⟩
      · rw [HG.out]; exact ⟨_, _, _, HP4.out.set_part 1⟩
      · rw [HG.out]; exact .inl ⟨rfl, rfl⟩

theorem object_any (w : World) (B R : Nat) (r : Pl.St) (line : Int) (a : Option Addr) (c : Nat) (l : List Int) (h : IsRd w B R r line) (hok : Rok r) (hB : B ≤ w.heap.size) (hl : l.length = 3) (hi : IsInts .u64 w a l)
    (hg : ∀ x ∈ l, 0 ≤ x ∧ x ≤ 18446744073709551615) :
    Calls Tryd.prog 42 #[.pointer (some ⟨R, 0, none⟩), .slice a 3 c] w (TakePost w B R line (objT r l)) := by
  obtain ⟨b, off, rfl, c0⟩ := hi.at (i := 0) (by omega)
  obtain ⟨b', off', e1, c1⟩ := hi.at (i := 1) (by omega)
  obtain ⟨b'', off'', e2, c2⟩ := hi.at (i := 2) (by omega)
  simp only [Option.some.injEq, Addr.mk.injEq, and_true] at e1 e2
  obtain ⟨rfl, rfl⟩ := e1
  obtain ⟨rfl, rfl⟩ := e2
  rw [Nat.add_zero] at c0
  have g0 := hg _ (nth_mem l 0 (by omega))
  have g1 := hg _ (nth_mem l 1 (by omega))
  have g2 := hg _ (nth_mem l 2 (by omega))
  unfold objT
  by_cases h0 : 255 < nth l 0
  · rw [if_pos (.inl h0)]
    exact object_bad0 w B R r line b off c _ _ _ h hB c0 c1 c2 g0 g1 g2 h0
  by_cases h1 : 65535 < nth l 1
  · rw [if_pos (.inr (.inl h1))]
    exact object_bad1 w B R r line b off c _ _ _ h hB c0 c1 c2 g0 g1 g2 (by omega) h1
  by_cases h2 : 65535 < nth l 2
  · rw [if_pos (.inr (.inr h2))]
    exact object_bad2 w B R r line b off c _ _ _ h hB c0 c1 c2 g0 g1 g2 (by omega) (by omega) h2
  rw [if_neg (by omega)]
  exact object_good w B R r line b off c _ _ _ h hok hB c0 c1 c2 g0.1 g1.1 g2.1 (by omega) (by omega) (by omega)

end Go.Proofs.YtcfbcffmlinlaaaDoor

namespace Go.Proofs.YtcfbcffmlinlaaaDoor
open Go.RowKit

def callTk (r : Pl.St) (l : List Int) : Int × Pl.St :=
  if r.s.n ≤ nth l 0 ∨ 255 < nth l 1 ∨ 255 < nth l 2 then (10, r)
  else if 1000 ≤ r.s.calls.length then (3, r)
  else (0, ⟨⟨r.s.n, r.s.specs, r.s.calls ++ [⟨nth l 0, nth l 1, nth l 2, nth l 3, nth l 4, nth l 5⟩], r.s.picks⟩, 2, r.last⟩)


set_option maxRecDepth 100000 in
set_option maxHeartbeats 4000000 in
theorem call_bad0 (w : World) (B R : Nat) (r : Pl.St) (line : Int) (b off c : Nat) (x0 x1 x2 x3 x4 x5 : Int) (h : IsRd w B R r line) (hB : B ≤ w.heap.size)
    (c0 : w.cell? ⟨b, off, none⟩ = some (.int .u64 x0)) (c1 : w.cell? ⟨b, off + 1, none⟩ = some (.int .u64 x1)) (c2 : w.cell? ⟨b, off + 2, none⟩ = some (.int .u64 x2))
    (c3 : w.cell? ⟨b, off + 3, none⟩ = some (.int .u64 x3)) (c4 : w.cell? ⟨b, off + 4, none⟩ = some (.int .u64 x4)) (c5 : w.cell? ⟨b, off + 5, none⟩ = some (.int .u64 x5)) (hn1 : 1 ≤ r.s.n) (hn2 : r.s.n ≤ 16)
    (g0 : 0 ≤ x0 ∧ x0 ≤ 18446744073709551615) (g1 : 0 ≤ x1 ∧ x1 ≤ 18446744073709551615) (g2 : 0 ≤ x2 ∧ x2 ≤ 18446744073709551615) (hx0 : (r.s.n - 1) < x0) :
    Calls Tryd.prog 43 #[.pointer (some ⟨R, 0, none⟩), .slice (some ⟨b, off, none⟩) 6 c] w (TakePost w B R line (10, r)) := by
  have H := Lib.hid h
  obtain ⟨sa, ca, pa, h⟩ := h
  have d0 := fun w' (hw : Ext w w') => hw.cell c0
  have d1 := fun w' (hw : Ext w w') => hw.cell c1
  have d2 := fun w' (hw : Ext w w') => hw.cell c2
  have d3 := fun w' (hw : Ext w w') => hw.cell c3
  have d4 := fun w' (hw : Ext w w') => hw.cell c4
  have d5 := fun w' (hw : Ext w w') => hw.cell c5
  have dn := fun w' (hw : Ext w w') => hw.cell (h.here.cell 0 (v := .int .i64 r.s.n) rfl)
  have HF0 : Hid (∀ wx, Calls Tryd.prog 56 #[.int .u64 x0, .int .i64 (r.s.n - 1)] wx fun e w' => Gave 10 e ∧ wx = w') := Lib.hid (fun wx => fits_no x0 (r.s.n - 1) wx g0.1 hx0 g0.2 (by omega) (by omega))
  clear c0 c1 c2 c3 c4 c5 h g0 g1 g2 hx0
  go_enter Tryd.func43, Tryd.ntmps43
  go_wp2_with fail
  refine RegP.wp_region_v [(13, 9), (17, 9), (27, 9), (29, 9)] Ext (XGave w 10) (by kernel_rfl) (by kernel_rfl) (fun _ _ _ => Ext.trans) (Ext.refl _).drew ?_ ?_
  · rintro e a' w' hd ⟨rfl, hx⟩
    exact ⟨hd, BB.ext hx hB, H.out.ext hx, .inr ⟨(by show (10 : Int) ≠ 0; decide), rfl⟩⟩
  focus
    repeat (refine RegP.step_det ?_; apply Exists.intro; refine And.intro ?_ ?_; (focus (intro vs w' hw hf; go_wp2_with fail; exact RegP.post_at rfl (Ext.refl _) rfl)); intro A' hA'; simp only [Act.put, List.setIfInBounds_toArray, List.set_cons_zero, List.set_cons_succ] at hA'; have e := funext hA'; subst e; clear hA')
    refine RegP.step_rel (fun _ _ => False) (by simp) (fun _ _ _ h _ => h) ?_ ?_
    focus
      intro vs w' hw hf
      have hcon := HF0.out w'
      have HCON := Lib.hid hcon; clear hcon
      go_wp2_with fail
      refine HCON.out.mono ?_
      rintro e' wn ⟨hgv, rfl⟩
      unfold Gave at hgv
      subst hgv
      exact RegP.post_pan _ ⟨rfl, hw⟩
    intro A' hA'; simp only [Act.put, List.setIfInBounds_toArray, List.set_cons_zero, List.set_cons_succ] at hA'; have e := funext hA'; subst e; clear hA'
    repeat (refine RegP.step_det ?_; apply Exists.intro; refine And.intro ?_ ?_; (focus (intro vs w' hw hf; go_wp2_with fail; exact RegP.post_at rfl (Ext.refl _) rfl)); intro A' hA'; simp only [Act.put, List.setIfInBounds_toArray, List.set_cons_zero, List.set_cons_succ] at hA'; have e := funext hA'; subst e; clear hA')
    refine RegP.step_det ⟨undef, fun vs w' hw hf => (hf (9, fun _ _ => False) (by simp) (by decide)).elim, ?_⟩
    intro A' hA'; simp only [Act.put, List.setIfInBounds_toArray, List.set_cons_zero, List.set_cons_succ] at hA'; have e := funext hA'; subst e; clear hA'
    repeat (refine RegP.step_det ?_; apply Exists.intro; refine And.intro ?_ ?_; (focus (intro vs w' hw hf; go_wp2_with fail; exact RegP.post_at rfl (Ext.refl _) rfl)); intro A' hA'; simp only [Act.put, List.setIfInBounds_toArray, List.set_cons_zero, List.set_cons_succ] at hA'; have e := funext hA'; subst e; clear hA')
    refine RegP.step_det ⟨undef, fun vs w' hw hf => (hf (9, fun _ _ => False) (by simp) (by decide)).elim, ?_⟩
    intro A' hA'; simp only [Act.put, List.setIfInBounds_toArray, List.set_cons_zero, List.set_cons_succ] at hA'; have e := funext hA'; subst e; clear hA'
    repeat (refine RegP.step_det ?_; apply Exists.intro; refine And.intro ?_ ?_; (focus (intro vs w' hw hf; go_wp2_with fail; exact RegP.post_at rfl (Ext.refl _) rfl)); intro A' hA'; simp only [Act.put, List.setIfInBounds_toArray, List.set_cons_zero, List.set_cons_succ] at hA'; have e := funext hA'; subst e; clear hA')
    refine RegP.step_det ⟨undef, fun vs w' hw hf => (hf (9, fun _ _ => False) (by simp) (by decide)).elim, ?_⟩
    intro A' hA'; simp only [Act.put, List.setIfInBounds_toArray, List.set_cons_zero, List.set_cons_succ] at hA'; have e := funext hA'; subst e; clear hA'
    refine RegP.step_rel (fun _ _ => True) (by simp) (fun _ _ _ _ _ => trivial) ?_ ?_
    focus
      intro vs w' hw hf
      go_wp2_with fail
      exact RegP.post_rel_at _ rfl ((Ext.refl _).alloc _) rfl trivial
    intro A' hA'; simp only [Act.put, List.setIfInBounds_toArray, List.set_cons_zero, List.set_cons_succ] at hA'; have e := funext hA'; subst e; clear hA'
    refine RegP.step_det ⟨undef, fun vs w' hw hf => (hf (9, fun _ _ => False) (by simp) (by decide)).elim, ?_⟩
    intro A' hA'; simp only [Act.put] at hA'; have e := funext hA'; subst e; clear hA'
    intro vs w' hw hf
    exact (hf (9, fun _ _ => False) (by simp)).elim

set_option maxRecDepth 100000 in
set_option maxHeartbeats 4000000 in
theorem call_bad1 (w : World) (B R : Nat) (r : Pl.St) (line : Int) (b off c : Nat) (x0 x1 x2 x3 x4 x5 : Int) (h : IsRd w B R r line) (hB : B ≤ w.heap.size)
    (c0 : w.cell? ⟨b, off, none⟩ = some (.int .u64 x0)) (c1 : w.cell? ⟨b, off + 1, none⟩ = some (.int .u64 x1)) (c2 : w.cell? ⟨b, off + 2, none⟩ = some (.int .u64 x2))
    (c3 : w.cell? ⟨b, off + 3, none⟩ = some (.int .u64 x3)) (c4 : w.cell? ⟨b, off + 4, none⟩ = some (.int .u64 x4)) (c5 : w.cell? ⟨b, off + 5, none⟩ = some (.int .u64 x5)) (hn1 : 1 ≤ r.s.n) (hn2 : r.s.n ≤ 16)
    (g0 : 0 ≤ x0 ∧ x0 ≤ 18446744073709551615) (g1 : 0 ≤ x1 ∧ x1 ≤ 18446744073709551615) (g2 : 0 ≤ x2 ∧ x2 ≤ 18446744073709551615) (hx0 : x0 ≤ (r.s.n - 1)) (hx1 : 255 < x1) :
    Calls Tryd.prog 43 #[.pointer (some ⟨R, 0, none⟩), .slice (some ⟨b, off, none⟩) 6 c] w (TakePost w B R line (10, r)) := by
  have H := Lib.hid h
  obtain ⟨sa, ca, pa, h⟩ := h
  have d0 := fun w' (hw : Ext w w') => hw.cell c0
  have d1 := fun w' (hw : Ext w w') => hw.cell c1
  have d2 := fun w' (hw : Ext w w') => hw.cell c2
  have d3 := fun w' (hw : Ext w w') => hw.cell c3
  have d4 := fun w' (hw : Ext w w') => hw.cell c4
  have d5 := fun w' (hw : Ext w w') => hw.cell c5
  have dn := fun w' (hw : Ext w w') => hw.cell (h.here.cell 0 (v := .int .i64 r.s.n) rfl)
  have HF0 : Hid (∀ wx, Calls Tryd.prog 56 #[.int .u64 x0, .int .i64 (r.s.n - 1)] wx fun e w' => e = .returned (.int .i64 x0) ∧ wx = w') := Lib.hid (fun wx => fits_ok x0 (r.s.n - 1) wx g0.1 hx0 (by omega))
  have HF1 : Hid (∀ wx, Calls Tryd.prog 56 #[.int .u64 x1, .int .i64 255] wx fun e w' => Gave 10 e ∧ wx = w') := Lib.hid (fun wx => fits_no x1 255 wx g1.1 hx1 g1.2 (by omega) (by omega))
  clear c0 c1 c2 c3 c4 c5 h g0 g1 g2 hx0 hx1
  go_enter Tryd.func43, Tryd.ntmps43
  go_wp2_with fail
  refine RegP.wp_region_v [(17, 13), (27, 13), (29, 13)] Ext (XGave w 10) (by kernel_rfl) (by kernel_rfl) (fun _ _ _ => Ext.trans) (Ext.refl _).drew ?_ ?_
  · rintro e a' w' hd ⟨rfl, hx⟩
    exact ⟨hd, BB.ext hx hB, H.out.ext hx, .inr ⟨(by show (10 : Int) ≠ 0; decide), rfl⟩⟩
  focus
    repeat (refine RegP.step_det ?_; apply Exists.intro; refine And.intro ?_ ?_; (focus (intro vs w' hw hf; go_wp2_with fail; exact RegP.post_at rfl (Ext.refl _) rfl)); intro A' hA'; simp only [Act.put, List.setIfInBounds_toArray, List.set_cons_zero, List.set_cons_succ] at hA'; have e := funext hA'; subst e; clear hA')
    refine RegP.step_det ?_; apply Exists.intro; refine And.intro ?_ ?_
    focus
      intro vs w' hw hf
      have hcon := HF0.out w'
      have HCON := Lib.hid hcon; clear hcon
      go_wp2_with fail
      refine HCON.out.mono ?_
      rintro e' wn ⟨rfl, rfl⟩
      go_wp2_with fail
      exact RegP.post_at rfl (Ext.refl _) rfl
    intro A' hA'; simp only [Act.put, List.setIfInBounds_toArray, List.set_cons_zero, List.set_cons_succ] at hA'; have e := funext hA'; subst e; clear hA'
    repeat (refine RegP.step_det ?_; apply Exists.intro; refine And.intro ?_ ?_; (focus (intro vs w' hw hf; go_wp2_with fail; exact RegP.post_at rfl (Ext.refl _) rfl)); intro A' hA'; simp only [Act.put, List.setIfInBounds_toArray, List.set_cons_zero, List.set_cons_succ] at hA'; have e := funext hA'; subst e; clear hA')
    refine RegP.step_rel (fun _ _ => False) (by simp) (fun _ _ _ h _ => h) ?_ ?_
    focus
      intro vs w' hw hf
      have hcon := HF1.out w'
      have HCON := Lib.hid hcon; clear hcon
      go_wp2_with fail
      refine HCON.out.mono ?_
      rintro e' wn ⟨hgv, rfl⟩
      unfold Gave at hgv
      subst hgv
      exact RegP.post_pan _ ⟨rfl, hw⟩
    intro A' hA'; simp only [Act.put, List.setIfInBounds_toArray, List.set_cons_zero, List.set_cons_succ] at hA'; have e := funext hA'; subst e; clear hA'
    repeat (refine RegP.step_det ?_; apply Exists.intro; refine And.intro ?_ ?_; (focus (intro vs w' hw hf; go_wp2_with fail; exact RegP.post_at rfl (Ext.refl _) rfl)); intro A' hA'; simp only [Act.put, List.setIfInBounds_toArray, List.set_cons_zero, List.set_cons_succ] at hA'; have e := funext hA'; subst e; clear hA')
    refine RegP.step_det ⟨undef, fun vs w' hw hf => (hf (13, fun _ _ => False) (by simp) (by decide)).elim, ?_⟩
    intro A' hA'; simp only [Act.put, List.setIfInBounds_toArray, List.set_cons_zero, List.set_cons_succ] at hA'; have e := funext hA'; subst e; clear hA'
    repeat (refine RegP.step_det ?_; apply Exists.intro; refine And.intro ?_ ?_; (focus (intro vs w' hw hf; go_wp2_with fail; exact RegP.post_at rfl (Ext.refl _) rfl)); intro A' hA'; simp only [Act.put, List.setIfInBounds_toArray, List.set_cons_zero, List.set_cons_succ] at hA'; have e := funext hA'; subst e; clear hA')
    refine RegP.step_det ⟨undef, fun vs w' hw hf => (hf (13, fun _ _ => False) (by simp) (by decide)).elim, ?_⟩
    intro A' hA'; simp only [Act.put, List.setIfInBounds_toArray, List.set_cons_zero, List.set_cons_succ] at hA'; have e := funext hA'; subst e; clear hA'
    refine RegP.step_rel (fun _ _ => True) (by simp) (fun _ _ _ _ _ => trivial) ?_ ?_
    focus
      intro vs w' hw hf
      go_wp2_with fail
      exact RegP.post_rel_at _ rfl ((Ext.refl _).alloc _) rfl trivial
    intro A' hA'; simp only [Act.put, List.setIfInBounds_toArray, List.set_cons_zero, List.set_cons_succ] at hA'; have e := funext hA'; subst e; clear hA'
    refine RegP.step_det ⟨undef, fun vs w' hw hf => (hf (13, fun _ _ => False) (by simp) (by decide)).elim, ?_⟩
    intro A' hA'; simp only [Act.put] at hA'; have e := funext hA'; subst e; clear hA'
    intro vs w' hw hf
    exact (hf (13, fun _ _ => False) (by simp)).elim

set_option maxRecDepth 100000 in
set_option maxHeartbeats 4000000 in
theorem call_bad2 (w : World) (B R : Nat) (r : Pl.St) (line : Int) (b off c : Nat) (x0 x1 x2 x3 x4 x5 : Int) (h : IsRd w B R r line) (hB : B ≤ w.heap.size)
    (c0 : w.cell? ⟨b, off, none⟩ = some (.int .u64 x0)) (c1 : w.cell? ⟨b, off + 1, none⟩ = some (.int .u64 x1)) (c2 : w.cell? ⟨b, off + 2, none⟩ = some (.int .u64 x2))
    (c3 : w.cell? ⟨b, off + 3, none⟩ = some (.int .u64 x3)) (c4 : w.cell? ⟨b, off + 4, none⟩ = some (.int .u64 x4)) (c5 : w.cell? ⟨b, off + 5, none⟩ = some (.int .u64 x5)) (hn1 : 1 ≤ r.s.n) (hn2 : r.s.n ≤ 16)
    (g0 : 0 ≤ x0 ∧ x0 ≤ 18446744073709551615) (g1 : 0 ≤ x1 ∧ x1 ≤ 18446744073709551615) (g2 : 0 ≤ x2 ∧ x2 ≤ 18446744073709551615) (hx0 : x0 ≤ (r.s.n - 1)) (hx1 : x1 ≤ 255) (hx2 : 255 < x2) :
    Calls Tryd.prog 43 #[.pointer (some ⟨R, 0, none⟩), .slice (some ⟨b, off, none⟩) 6 c] w (TakePost w B R line (10, r)) := by
  have H := Lib.hid h
  obtain ⟨sa, ca, pa, h⟩ := h
  have d0 := fun w' (hw : Ext w w') => hw.cell c0
  have d1 := fun w' (hw : Ext w w') => hw.cell c1
  have d2 := fun w' (hw : Ext w w') => hw.cell c2
  have d3 := fun w' (hw : Ext w w') => hw.cell c3
  have d4 := fun w' (hw : Ext w w') => hw.cell c4
  have d5 := fun w' (hw : Ext w w') => hw.cell c5
  have dn := fun w' (hw : Ext w w') => hw.cell (h.here.cell 0 (v := .int .i64 r.s.n) rfl)
  have HF0 : Hid (∀ wx, Calls Tryd.prog 56 #[.int .u64 x0, .int .i64 (r.s.n - 1)] wx fun e w' => e = .returned (.int .i64 x0) ∧ wx = w') := Lib.hid (fun wx => fits_ok x0 (r.s.n - 1) wx g0.1 hx0 (by omega))
  have HF1 : Hid (∀ wx, Calls Tryd.prog 56 #[.int .u64 x1, .int .i64 255] wx fun e w' => e = .returned (.int .i64 x1) ∧ wx = w') := Lib.hid (fun wx => fits_ok x1 255 wx g1.1 hx1 (by omega))
  have HF2 : Hid (∀ wx, Calls Tryd.prog 56 #[.int .u64 x2, .int .i64 255] wx fun e w' => Gave 10 e ∧ wx = w') := Lib.hid (fun wx => fits_no x2 255 wx g2.1 hx2 g2.2 (by omega) (by omega))
  clear c0 c1 c2 c3 c4 c5 h g0 g1 g2 hx0 hx1 hx2
  go_enter Tryd.func43, Tryd.ntmps43
  go_wp2_with fail
  refine RegP.wp_region_v [(27, 17), (29, 17)] Ext (XGave w 10) (by kernel_rfl) (by kernel_rfl) (fun _ _ _ => Ext.trans) (Ext.refl _).drew ?_ ?_
  · rintro e a' w' hd ⟨rfl, hx⟩
    exact ⟨hd, BB.ext hx hB, H.out.ext hx, .inr ⟨(by show (10 : Int) ≠ 0; decide), rfl⟩⟩
  focus
    repeat (refine RegP.step_det ?_; apply Exists.intro; refine And.intro ?_ ?_; (focus (intro vs w' hw hf; go_wp2_with fail; exact RegP.post_at rfl (Ext.refl _) rfl)); intro A' hA'; simp only [Act.put, List.setIfInBounds_toArray, List.set_cons_zero, List.set_cons_succ] at hA'; have e := funext hA'; subst e; clear hA')
    refine RegP.step_det ?_; apply Exists.intro; refine And.intro ?_ ?_
    focus
      intro vs w' hw hf
      have hcon := HF0.out w'
      have HCON := Lib.hid hcon; clear hcon
      go_wp2_with fail
      refine HCON.out.mono ?_
      rintro e' wn ⟨rfl, rfl⟩
      go_wp2_with fail
      exact RegP.post_at rfl (Ext.refl _) rfl
    intro A' hA'; simp only [Act.put, List.setIfInBounds_toArray, List.set_cons_zero, List.set_cons_succ] at hA'; have e := funext hA'; subst e; clear hA'
    repeat (refine RegP.step_det ?_; apply Exists.intro; refine And.intro ?_ ?_; (focus (intro vs w' hw hf; go_wp2_with fail; exact RegP.post_at rfl (Ext.refl _) rfl)); intro A' hA'; simp only [Act.put, List.setIfInBounds_toArray, List.set_cons_zero, List.set_cons_succ] at hA'; have e := funext hA'; subst e; clear hA')
    refine RegP.step_det ?_; apply Exists.intro; refine And.intro ?_ ?_
    focus
      intro vs w' hw hf
      have hcon := HF1.out w'
      have HCON := Lib.hid hcon; clear hcon
      go_wp2_with fail
      refine HCON.out.mono ?_
      rintro e' wn ⟨rfl, rfl⟩
      go_wp2_with fail
      exact RegP.post_at rfl (Ext.refl _) rfl
    intro A' hA'; simp only [Act.put, List.setIfInBounds_toArray, List.set_cons_zero, List.set_cons_succ] at hA'; have e := funext hA'; subst e; clear hA'
    repeat (refine RegP.step_det ?_; apply Exists.intro; refine And.intro ?_ ?_; (focus (intro vs w' hw hf; go_wp2_with fail; exact RegP.post_at rfl (Ext.refl _) rfl)); intro A' hA'; simp only [Act.put, List.setIfInBounds_toArray, List.set_cons_zero, List.set_cons_succ] at hA'; have e := funext hA'; subst e; clear hA')
    refine RegP.step_rel (fun _ _ => False) (by simp) (fun _ _ _ h _ => h) ?_ ?_
    focus
      intro vs w' hw hf
      have hcon := HF2.out w'
      have HCON := Lib.hid hcon; clear hcon
      go_wp2_with fail
      refine HCON.out.mono ?_
      rintro e' wn ⟨hgv, rfl⟩
      unfold Gave at hgv
      subst hgv
      exact RegP.post_pan _ ⟨rfl, hw⟩
    intro A' hA'; simp only [Act.put, List.setIfInBounds_toArray, List.set_cons_zero, List.set_cons_succ] at hA'; have e := funext hA'; subst e; clear hA'
    repeat (refine RegP.step_det ?_; apply Exists.intro; refine And.intro ?_ ?_; (focus (intro vs w' hw hf; go_wp2_with fail; exact RegP.post_at rfl (Ext.refl _) rfl)); intro A' hA'; simp only [Act.put, List.setIfInBounds_toArray, List.set_cons_zero, List.set_cons_succ] at hA'; have e := funext hA'; subst e; clear hA')
    refine RegP.step_det ⟨undef, fun vs w' hw hf => (hf (17, fun _ _ => False) (by simp) (by decide)).elim, ?_⟩
    intro A' hA'; simp only [Act.put, List.setIfInBounds_toArray, List.set_cons_zero, List.set_cons_succ] at hA'; have e := funext hA'; subst e; clear hA'
    refine RegP.step_rel (fun _ _ => True) (by simp) (fun _ _ _ _ _ => trivial) ?_ ?_
    focus
      intro vs w' hw hf
      go_wp2_with fail
      exact RegP.post_rel_at _ rfl ((Ext.refl _).alloc _) rfl trivial
    intro A' hA'; simp only [Act.put, List.setIfInBounds_toArray, List.set_cons_zero, List.set_cons_succ] at hA'; have e := funext hA'; subst e; clear hA'
    refine RegP.step_det ⟨undef, fun vs w' hw hf => (hf (17, fun _ _ => False) (by simp) (by decide)).elim, ?_⟩
    intro A' hA'; simp only [Act.put] at hA'; have e := funext hA'; subst e; clear hA'
    intro vs w' hw hf
    exact (hf (17, fun _ _ => False) (by simp)).elim

def callG (r : Pl.St) (x : Cll) : Int × Pl.St :=
  if 1000 ≤ r.s.calls.length then (3, r) else (0, ⟨⟨r.s.n, r.s.specs, r.s.calls ++ [x], r.s.picks⟩, 2, r.last⟩)

set_option maxRecDepth 100000 in
set_option maxHeartbeats 4000000 in
theorem call_good (w : World) (B R : Nat) (r : Pl.St) (line : Int) (b off c : Nat) (x0 x1 x2 x3 x4 x5 : Int) (h : IsRd w B R r line) (hok : Rok r) (hB : B ≤ w.heap.size)
    (c0 : w.cell? ⟨b, off, none⟩ = some (.int .u64 x0)) (c1 : w.cell? ⟨b, off + 1, none⟩ = some (.int .u64 x1)) (c2 : w.cell? ⟨b, off + 2, none⟩ = some (.int .u64 x2))
    (c3 : w.cell? ⟨b, off + 3, none⟩ = some (.int .u64 x3)) (c4 : w.cell? ⟨b, off + 4, none⟩ = some (.int .u64 x4)) (c5 : w.cell? ⟨b, off + 5, none⟩ = some (.int .u64 x5)) (hn1 : 1 ≤ r.s.n) (hn2 : r.s.n ≤ 16)
    (g0 : 0 ≤ x0) (g1 : 0 ≤ x1) (g2 : 0 ≤ x2) (hx0 : x0 ≤ r.s.n - 1) (hx1 : x1 ≤ 255) (hx2 : x2 ≤ 255) :
    Calls Tryd.prog 43 #[.pointer (some ⟨R, 0, none⟩), .slice (some ⟨b, off, none⟩) 6 c] w
      (TakePost w B R line (callG r ⟨x0, x1, x2, x3, x4, x5⟩)) := by
  obtain ⟨sa, ca, pa, h⟩ := h
  have HRw := Lib.hid h.here.lt
  obtain ⟨va, vc, rfl, -⟩ := own_slice h.calls
  have H := Lib.hid h
  have HBw := Lib.hid hB
  clear hB
  have hs8 := hok.calls
  have d0 := fun w' (hw : Ext w w') => hw.cell c0
  have d1 := fun w' (hw : Ext w w') => hw.cell c1
  have d2 := fun w' (hw : Ext w w') => hw.cell c2
  have d3 := fun w' (hw : Ext w w') => hw.cell c3
  have d4 := fun w' (hw : Ext w w') => hw.cell c4
  have d5 := fun w' (hw : Ext w w') => hw.cell c5
  have dn := fun w' (hw : Ext w w') => hw.cell (h.here.cell 0 (v := .int .i64 r.s.n) rfl)
  have HF0 : Hid (∀ wx, Calls Tryd.prog 56 #[.int .u64 x0, .int .i64 (r.s.n - 1)] wx fun e w' => e = .returned (.int .i64 x0) ∧ wx = w') := Lib.hid (fun wx => fits_ok x0 (r.s.n - 1) wx g0 hx0 (by omega))
  have HF1 : Hid (∀ wx, Calls Tryd.prog 56 #[.int .u64 x1, .int .i64 255] wx fun e w' => e = .returned (.int .i64 x1) ∧ wx = w') := Lib.hid (fun wx => fits_ok x1 255 wx g1 hx1 (by decide))
  have HF2 : Hid (∀ wx, Calls Tryd.prog 56 #[.int .u64 x2, .int .i64 255] wx fun e w' => e = .returned (.int .i64 x2) ∧ wx = w') := Lib.hid (fun wx => fits_ok x2 255 wx g2 hx2 (by decide))
  clear c0 c1 c2 c3 c4 c5 h g0 g1 g2 hx0 hx1 hx2 hok
  go_enter Tryd.func43, Tryd.ntmps43
  go_wp2_with fail
  refine RegP.wp_region_last 29 _ _ rfl rfl rfl [] Ext (fun _ _ => False) (by kernel_rfl) (by kernel_rfl) (by kernel_rfl) (fun _ _ _ => Ext.trans) (Ext.refl _).drew (fun _ _ _ _ h => h.elim) ?_
  repeat (refine RegP.step_det ?_; apply Exists.intro; refine And.intro ?_ ?_; (focus (intro vs w' hw hf; go_wp2_with fail; exact RegP.post_at rfl (Ext.refl _) rfl)); intro A' hA'; simp only [Act.put, List.setIfInBounds_toArray, List.set_cons_zero, List.set_cons_succ] at hA'; have e := funext hA'; subst e; clear hA')
  refine RegP.step_det ?_; apply Exists.intro; refine And.intro ?_ ?_
  focus
    intro vs w' hw hf
    have hcon := HF0.out w'
    have HCON := Lib.hid hcon; clear hcon
    go_wp2_with fail
    refine HCON.out.mono ?_
    rintro e' wn ⟨rfl, rfl⟩
    go_wp2_with fail
    exact RegP.post_at rfl (Ext.refl _) rfl
  intro A' hA'; simp only [Act.put, List.setIfInBounds_toArray, List.set_cons_zero, List.set_cons_succ] at hA'; have e := funext hA'; subst e; clear hA'
  repeat (refine RegP.step_det ?_; apply Exists.intro; refine And.intro ?_ ?_; (focus (intro vs w' hw hf; go_wp2_with fail; exact RegP.post_at rfl (Ext.refl _) rfl)); intro A' hA'; simp only [Act.put, List.setIfInBounds_toArray, List.set_cons_zero, List.set_cons_succ] at hA'; have e := funext hA'; subst e; clear hA')
  refine RegP.step_det ?_; apply Exists.intro; refine And.intro ?_ ?_
  focus
    intro vs w' hw hf
    have hcon := HF1.out w'
    have HCON := Lib.hid hcon; clear hcon
    go_wp2_with fail
    refine HCON.out.mono ?_
    rintro e' wn ⟨rfl, rfl⟩
    go_wp2_with fail
    exact RegP.post_at rfl (Ext.refl _) rfl
  intro A' hA'; simp only [Act.put, List.setIfInBounds_toArray, List.set_cons_zero, List.set_cons_succ] at hA'; have e := funext hA'; subst e; clear hA'
  repeat (refine RegP.step_det ?_; apply Exists.intro; refine And.intro ?_ ?_; (focus (intro vs w' hw hf; go_wp2_with fail; exact RegP.post_at rfl (Ext.refl _) rfl)); intro A' hA'; simp only [Act.put, List.setIfInBounds_toArray, List.set_cons_zero, List.set_cons_succ] at hA'; have e := funext hA'; subst e; clear hA')
  refine RegP.step_det ?_; apply Exists.intro; refine And.intro ?_ ?_
  focus
    intro vs w' hw hf
    have hcon := HF2.out w'
    have HCON := Lib.hid hcon; clear hcon
    go_wp2_with fail
    refine HCON.out.mono ?_
    rintro e' wn ⟨rfl, rfl⟩
    go_wp2_with fail
    exact RegP.post_at rfl (Ext.refl _) rfl
  intro A' hA'; simp only [Act.put, List.setIfInBounds_toArray, List.set_cons_zero, List.set_cons_succ] at hA'; have e := funext hA'; subst e; clear hA'
  repeat (refine RegP.step_det ?_; apply Exists.intro; refine And.intro ?_ ?_; (focus (intro vs w' hw hf; go_wp2_with fail; exact RegP.post_at rfl (Ext.refl _) rfl)); intro A' hA'; simp only [Act.put, List.setIfInBounds_toArray, List.set_cons_zero, List.set_cons_succ] at hA'; have e := funext hA'; subst e; clear hA')
  refine RegP.step_rel (fun v w2 => ∃ k, v = .pointer (some ⟨k, 0, none⟩) ∧ w.heap.size ≤ k ∧ Blk w2 k #[.int .i64 0, .int .i64 0, .int .i64 0, .int .u64 0, .int .u64 0, .int .u64 0] 49) (by simp) (fun v a b ⟨k, e, h1, h2⟩ hx => ⟨k, e, h1, h2.ext hx⟩) ?_ ?_
  focus
    intro vs w' hw hf
    go_wp2_with fail
    exact RegP.post_rel_at _ rfl ((Ext.refl _).alloc _) rfl ⟨w'.heap.size, rfl, hw.size, Blk.new _ _ _⟩
  intro A' hA'; simp only [Act.put, List.setIfInBounds_toArray, List.set_cons_zero, List.set_cons_succ] at hA'; have e := funext hA'; subst e; clear hA'
  intro vs w' hw hf
  obtain ⟨k, hv, hk, hb⟩ := hf (28, fun v w2 => ∃ k, v = .pointer (some ⟨k, 0, none⟩) ∧ w.heap.size ≤ k ∧ Blk w2 k #[.int .i64 0, .int .i64 0, .int .i64 0, .int .u64 0, .int .u64 0, .int .u64 0] 49) (by simp)
  clear hf d0 d1 d2 d3 d4 d5 dn HF0 HF1 HF2
  have hv : vs 28 = .pointer (some ⟨k, 0, none⟩) := hv
  simp only [Nat.reduceAdd, hv]
  clear hv
  have HRd := Lib.hid H.out
  have H1 := trivial
  have HW := Lib.hid hw
  have HB := Lib.hid hb
  have HK := Lib.hid hk
  have z0 := hb.cell 0 (v := .int .i64 0) rfl
  have z1 := hb.cell 1 (v := .int .i64 0) rfl
  have z2 := hb.cell 2 (v := .int .i64 0) rfl
  have z3 := hb.cell 3 (v := .int .u64 0) rfl
  have z4 := hb.cell 4 (v := .int .u64 0) rfl
  have z5 := hb.cell 5 (v := .int .u64 0) rfl
  have f0 := hb.fz 0
  have f1 := hb.fz 1
  have f2 := hb.fz 2
  have f3 := hb.fz 3
  have f4 := hb.fz 4
  have f5 := hb.fz 5
  have hlt := hb.lt
  clear hw hb hk H
  go_upto_region 1 with (fail)
  clear z0 z1 z2 z3 z4 z5 f0 f1 f2 f3 f4 f5 hlt
  have HX2 : Hid (Ext w ((((((w'.setCell ⟨k, 0, none⟩ (.int .i64 x0)).setCell ⟨k, 1, none⟩ (.int .i64 x1)).setCell ⟨k, 2, none⟩ (.int .i64 x2)).setCell ⟨k, 3, none⟩ (.int .u64 x3)).setCell ⟨k, 4, none⟩ (.int .u64 x4)).setCell ⟨k, 5, none⟩ (.int .u64 x5))) := Lib.hid (Below.trans HW.out ((((((below_set _ _ HK.out _).trans (below_set _ _ HK.out _)).trans (below_set _ _ HK.out _)).trans (below_set _ _ HK.out _)).trans (below_set _ _ HK.out _)).trans (below_set _ _ HK.out _)))
  have HB2 : Hid (Blk ((((((w'.setCell ⟨k, 0, none⟩ (.int .i64 x0)).setCell ⟨k, 1, none⟩ (.int .i64 x1)).setCell ⟨k, 2, none⟩ (.int .i64 x2)).setCell ⟨k, 3, none⟩ (.int .u64 x3)).setCell ⟨k, 4, none⟩ (.int .u64 x4)).setCell ⟨k, 5, none⟩ (.int .u64 x5)) k #[.int .i64 x0, .int .i64 x1, .int .i64 x2, .int .u64 x3, .int .u64 x4, .int .u64 x5] 49) := Lib.hid ((((((HB.out.set 0 _).set 1 _).set 2 _).set 3 _).set 4 _).set 5 _)
  clear HB HW H1
  generalize ((((((w'.setCell ⟨k, 0, none⟩ (.int .i64 x0)).setCell ⟨k, 1, none⟩ (.int .i64 x1)).setCell ⟨k, 2, none⟩ (.int .i64 x2)).setCell ⟨k, 3, none⟩ (.int .u64 x3)).setCell ⟨k, 4, none⟩ (.int .u64 x4)).setCell ⟨k, 5, none⟩ (.int .u64 x5)) = W2 at *
  have H2 := Lib.hid (HRd.out.ext HX2.out)
  clear HRd
  have c1 := H2.out.here.cell 2 (v := .slice va r.s.calls.length vc) rfl
  have cR := H2.out.here.lt
  by_cases h8 : 1000 ≤ r.s.calls.length
  · have HG : Hid (callG r ⟨x0, x1, x2, x3, x4, x5⟩ = (3, r)) := Lib.hid (if_pos h8)
    have d8 : decide ((r.s.calls.length : Int) < 1000) = false := decide_eq_false (by omega)
    clear h8
    go_wp2_with fail
    refine (give_no 3 _).mono ?_
    rintro e w3 ⟨hg, rfl⟩
    unfold Gave at hg
    subst hg
    refine ⟨rfl, BB.ext HX2.out HBw.out, ?_, ?_⟩
    · rw [HG.out]; exact ⟨_, _, _, H2.out⟩
    · rw [HG.out]; exact .inr ⟨(by show (3 : Int) ≠ 0; decide), rfl⟩
  · have HG : Hid (callG r ⟨x0, x1, x2, x3, x4, x5⟩ = (0, ⟨⟨r.s.n, r.s.specs, r.s.calls ++ [⟨x0, x1, x2, x3, x4, x5⟩], r.s.picks⟩, 2, r.last⟩)) := Lib.hid (if_neg h8)
    have d8 : decide ((r.s.calls.length : Int) < 1000) = true := decide_eq_true (by omega)
    clear h8
    go_wp2_with fail
    refine (give_ok 3 _).mono ?_
    rintro e w3 ⟨rfl, rfl⟩
    have b0 := HB2.out.cell 0 (v := .int .i64 x0) rfl
    have b1 := HB2.out.cell 1 (v := .int .i64 x1) rfl
    have b3 := HB2.out.cell 3 (v := .int .u64 x3) rfl
    have b4 := HB2.out.cell 4 (v := .int .u64 x4) rfl
    have b5 := HB2.out.cell 5 (v := .int .u64 x5) rfl
    have b2 := HB2.out.cell 2 (v := .int .i64 x2) rfl
    obtain ⟨i0, hi, hz0, hz1, hz2⟩ := info_parts Tryd.infoCall
    have HI := Lib.hid hi
    have HZ := Lib.hid (And.intro hz0 (And.intro hz1 hz2))
    clear hi hz0 hz1 hz2
    have hbb : B ≤ W2.heap.size := Nat.le_trans HBw.out HX2.out.size
    go_wp2_with fail
    go_region_law (refine step_append_lies _ (by rfl) (.tmp 46) (.tmp 48) 23 (by rfl) B 49 i0 _ 6 48 Tryd.underlying23 HI.out HZ.out.1 HZ.out.2.1 HZ.out.2.2 (by rfl) (by decide) _ _ _ (by rfl) (own_ext H2.out.calls (((Ext.refl _).drew).alloc _)) ⟨_, 0, none⟩ 1 1 [.int .i64 x0, .int .i64 x1, .int .i64 x2, .int .u64 x3, .int .u64 x4, .int .u64 x5] (by rfl) rfl (World.news_of_block (heap_alloc_new _ _)) (by intro u hu; simp at hu; rcases hu with rfl | rfl | rfl | rfl | rfl | rfl <;> rfl) (by decide) (by unfold maxLen; omega) (by omega) (by simp; omega) _ rfl ?_; intro gb c4 w4 hon hg4 hat4 hlt4; have HBL4 := Lib.hid (Below.trans (((((Ext.refl W2).drew).alloc (.cells #[.int .i64 x0, .int .i64 x1, .int .i64 x2, .int .u64 x3, .int .u64 x4, .int .u64 x5] 49)).mono hbb)) (below_of_grown (own_ext H2.out.calls (((Ext.refl _).drew).alloc _)) hg4 (by simp; omega))); obtain ⟨hb4, hp4⟩ := PRd.app_calls (H2.out.ext (((Ext.refl _).drew).alloc _)) ⟨x0, x1, x2, x3, x4, x5⟩ hg4 hon; have k1 := hb4.cell 2 (v := .slice va r.s.calls.length vc) rfl; have k2 := hb4.fz 2; have k3 := hb4.lt; have HP4 := Lib.hid hp4; clear hb4 hp4 hon hg4 hat4 hlt4)
    all_goals
      have HB5 : Hid (BB B R w (w4.setCell ⟨R, 2, none⟩ (.slice (some ⟨gb, 0, none⟩) (r.s.calls.length + 1) c4))) := Lib.hid ((BB.ext HX2.out HBw.out).trans ((BB.of HBL4.out).trans (BB.set _ _)))
      clear k1 k2 k3 c1 cR b0 b1 b2 b3 b4 b5 HBL4
      generalize (w4.setCell ⟨R, 2, none⟩ (.slice (some ⟨gb, 0, none⟩) (r.s.calls.length + 1) c4)) = W5 at *
      have k1 := HP4.out.here.cell 5 (v := .int .i64 r.part) rfl
      have k2 := HP4.out.here.fz 5
      have k3 := HP4.out.here.lt
      go_wp2_with fail
      go_end0
      refine ⟨HB5.out.trans (BB.set _ _), ?_, ?_⟩
      · rw [HG.out]; exact ⟨_, _, _, HP4.out.set_part 2⟩
      · rw [HG.out]; exact .inl ⟨rfl, rfl⟩

theorem call_any (w : World) (B R : Nat) (r : Pl.St) (line : Int) (a : Option Addr) (c : Nat) (l : List Int) (h : IsRd w B R r line) (hok : Rok r) (hn1 : 1 ≤ r.s.n) (hn2 : r.s.n ≤ 16) (hB : B ≤ w.heap.size) (hl : l.length = 6) (hi : IsInts .u64 w a l)
    (hg : ∀ x ∈ l, 0 ≤ x ∧ x ≤ 18446744073709551615) :
    Calls Tryd.prog 43 #[.pointer (some ⟨R, 0, none⟩), .slice a 6 c] w (TakePost w B R line (callTk r l)) := by
  obtain ⟨b, off, rfl, c0⟩ := hi.at (i := 0) (by omega)
  obtain ⟨b', off', e1, c1⟩ := hi.at (i := 1) (by omega)
  obtain ⟨b2, off2, e2, c2⟩ := hi.at (i := 2) (by omega)
  obtain ⟨b3, off3, e3, c3⟩ := hi.at (i := 3) (by omega)
  obtain ⟨b4, off4, e4, c4⟩ := hi.at (i := 4) (by omega)
  obtain ⟨b5, off5, e5, c5⟩ := hi.at (i := 5) (by omega)
  simp only [Option.some.injEq, Addr.mk.injEq, and_true] at e1 e2 e3 e4 e5
  obtain ⟨rfl, rfl⟩ := e1
  obtain ⟨rfl, rfl⟩ := e2
  obtain ⟨rfl, rfl⟩ := e3
  obtain ⟨rfl, rfl⟩ := e4
  obtain ⟨rfl, rfl⟩ := e5
  rw [Nat.add_zero] at c0
  have g0 := hg _ (nth_mem l 0 (by omega))
  have g1 := hg _ (nth_mem l 1 (by omega))
  have g2 := hg _ (nth_mem l 2 (by omega))
  unfold callTk
  by_cases h0 : r.s.n ≤ nth l 0
  · rw [if_pos (.inl h0)]
    exact call_bad0 w B R r line b off c _ _ _ _ _ _ h hB c0 c1 c2 c3 c4 c5 hn1 hn2 g0 g1 g2 (by omega)
  by_cases h1 : 255 < nth l 1
  · rw [if_pos (.inr (.inl h1))]
    exact call_bad1 w B R r line b off c _ _ _ _ _ _ h hB c0 c1 c2 c3 c4 c5 hn1 hn2 g0 g1 g2 (by omega) h1
  by_cases h2 : 255 < nth l 2
  · rw [if_pos (.inr (.inr h2))]
    exact call_bad2 w B R r line b off c _ _ _ _ _ _ h hB c0 c1 c2 c3 c4 c5 hn1 hn2 g0 g1 g2 (by omega) (by omega) h2
  rw [if_neg (by omega)]
  exact call_good w B R r line b off c _ _ _ _ _ _ h hok hB c0 c1 c2 c3 c4 c5 hn1 hn2 g0.1 g1.1 g2.1 (by omega) (by omega) (by omega)

end Go.Proofs.YtcfbcffmlinlaaaDoor
