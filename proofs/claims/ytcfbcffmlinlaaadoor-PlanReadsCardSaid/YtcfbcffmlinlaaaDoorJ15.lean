/-
  The law's PlanWrites: the plan of any script, or why it has none; what is written is read as it was.
  What came in as a slice of floats reads as a list of words.
  What came in as a slice of integers of whatever kind reads as a list.
  What came in as a slice of structs of numbers reads as a list.
  What came in as a script reads as one.
  The reference's plan as it lies in memory.
-/
import Derived.Test.YtcfbcffmlinlaaaDoorJ12
import Derived.Test.YtcfbcffmlinlaaaDoorJ14
import Derived.Test.YtcfbcffmlinlaaaDoorJ13
import Derived.Test.YtcfbcffmlinlaaaDoorJ01
import Derived.ProofKit
import Derived.Deep.Slices
import Derived.Test.YtcfbcffmlinlaaaDoorJ04
import Derived.Lib.SmallJoins
import Derived.Test.YtcfbcffmlinlaaaDoorJ09
set_option linter.unusedVariables false
namespace Go.Proofs.YtcfbcffmlinlaaaDoor
open Go.RowKit

theorem planT_len3 {s : Scr} (h : s.ok) (hp : s.picks.length ≤ 3000) : (Pl.planT s).length ≤ 1000000 := by
  obtain ⟨-, h1, h2, h3, -⟩ := h
  have e0 := lineT_len' Pl.wT [s.n]
  have e1 := flat_le Pl.specT 100 (fun x => by have := lineT_len' Pl.wO [x.kind, x.p, x.q]; have h6 : Pl.wO.length = 6 := rfl; unfold Pl.specT; simp at this; omega) s.specs
  have e2 := flat_le Pl.callT 200 (fun x => by have := lineT_len' Pl.wC [x.thread, x.obj, x.kind, x.a, x.b, x.c]; have h6 : Pl.wC.length = 4 := rfl; unfold Pl.callT; simp at this; omega) s.calls
  have e3 := picksT_le s.picks.length s.picks
  have h7 : Pl.wT.length = 7 := rfl
  unfold Pl.planT
  simp only [List.length_append]
  simp at e0
  omega

set_option maxRecDepth 100000 in
set_option maxHeartbeats 4000000 in
theorem pwrites_any (s : Scr) (m : Lies) (w : World) (hf : Fits s) (hwd : s.wide) (hm : LiesAt s m w) (hcap : s.picks.length ≤ m.pc) (hmx : MaxAt w) :
    Calls Tryd.prog 3 #[.agg #[.int .i64 s.n, .slice m.sa s.specs.length m.sc, .slice m.ca s.calls.length m.cc, .slice m.pa s.picks.length m.pc]] w fun e w' => e = .returned (.bool true) ∧ Ext w w' := by
  have hx0 := (Ext.refl w).alloc (.cells #[.int .i64 s.n, .slice m.sa s.specs.length m.sc, .slice m.ca s.calls.length m.cc, .slice m.pa s.picks.length m.pc] 26)
  have hm0 := hm.ext hx0
  have hb := Blk.new w #[.int .i64 s.n, .slice m.sa s.specs.length m.sc, .slice m.ca s.calls.length m.cc, .slice m.pa s.picks.length m.pc] 26
  have HM := Lib.hid hm0
  have HMX := Lib.hid (hmx.ext hx0)
  have HCAP := Lib.hid hcap
  have HF := Lib.hid hf
  have HWD := Lib.hid hwd
  obtain ⟨⟨f1, f2⟩, f3, f4, f5⟩ := hf
  clear hm hm0 hwd hmx hcap
  obtain ⟨sa, sc, ca, cc, pa, pc⟩ := m
  simp only at HM hb hx0 HCAP HMX ⊢
  go_enter Tryd.func3, Tryd.ntmps3
  go_upto_region 1 with (fail)
  generalize w.alloc (.cells #[.int .i64 s.n, .slice sa s.specs.length sc, .slice ca s.calls.length cc, .slice pa s.picks.length pc] 26) = W0 at *
  have HX0 := Lib.hid hx0; clear hx0
  have b0 := hb.cell 0 (v := .int .i64 s.n) rfl
  have b1 := hb.cell 1 (v := .slice sa s.specs.length sc) rfl
  have b2 := hb.cell 2 (v := .slice ca s.calls.length cc) rfl
  have b3 := hb.cell 3 (v := .slice pa s.picks.length pc) rfl
  have bl := hb.lt
  by_cases hbig : 1100 < s.calls.length ∨ 70000 < s.picks.length ∨ (3000 < s.picks.length ∧ s.picks.length ≤ 65536)
  · have H4 := Lib.hid (four_any W0 HMX.out)
    by_cases hb1 : 1100 < s.calls.length
    · have d1 : decide ((1100 : Int) < (s.calls.length : Int)) = true := decide_eq_true (by omega)
      clear hbig
      go_wp2_with fail
      refine H4.out.mono ?_
      rintro e w1 ⟨rfl, hx⟩
      have HX := Lib.hid (HX0.out.trans hx); clear hx
      go_wp2_with fail
      refine bodyPost_ret (v := .bool true) (by simp [results, Tryd.results3, go_sem]) rfl ?_
      exact ⟨rfl, HX.out⟩
    · have d1 : decide ((1100 : Int) < (s.calls.length : Int)) = false := decide_eq_false (by omega)
      by_cases hb2 : 70000 < s.picks.length
      · have d2 : decide ((70000 : Int) < (s.picks.length : Int)) = true := decide_eq_true (by omega)
        clear hbig
        go_wp2_with fail
        refine H4.out.mono ?_
        rintro e w1 ⟨rfl, hx⟩
        have HX := Lib.hid (HX0.out.trans hx); clear hx
        go_wp2_with fail
        refine bodyPost_ret (v := .bool true) (by simp [results, Tryd.results3, go_sem]) rfl ?_
        exact ⟨rfl, HX.out⟩
      · have d2 : decide ((70000 : Int) < (s.picks.length : Int)) = false := decide_eq_false (by omega)
        have d3 : decide ((3000 : Int) < (s.picks.length : Int)) = true := decide_eq_true (by omega)
        have d4 : decide ((s.picks.length : Int) ≤ (65536 : Int)) = true := decide_eq_true (by omega)
        clear hbig
        go_wp2_with fail
        refine H4.out.mono ?_
        rintro e w1 ⟨rfl, hx⟩
        have HX := Lib.hid (HX0.out.trans hx); clear hx
        go_wp2_with fail
        refine bodyPost_ret (v := .bool true) (by simp [results, Tryd.results3, go_sem]) rfl ?_
        exact ⟨rfl, HX.out⟩
  have d1 : decide ((1100 : Int) < (s.calls.length : Int)) = false := decide_eq_false (by omega)
  have d2 : decide ((70000 : Int) < (s.picks.length : Int)) = false := decide_eq_false (by omega)
  have HWR := Lib.hid (pwrite_any s ⟨sa, sc, ca, cc, pa, pc⟩ W0 HF.out HWD.out HM.out HCAP.out)
  simp only at HWR
  by_cases hp3 : s.picks.length ≤ 3000
  · have d3 : decide ((3000 : Int) < (s.picks.length : Int)) = false := decide_eq_false (by omega)
    clear hbig
    go_wp2_with fail
    refine HWR.out.mono ?_
    rintro e w1 ⟨hx1, ⟨he, rfl⟩ | ⟨he, rfl⟩⟩
    · clear hp3
      have HE := Lib.hid he
      have hne : (errF s != 0) = true := by simpa using he
      have HW1 := Lib.hid (HX0.out.trans hx1)
      have HM1 := Lib.hid (HM.out.ext hx1)
      have HMX1 := Lib.hid (HMX.out.ext hx1)
      have c0 := hx1.cell b0
      have c1 := hx1.cell b1
      have c2 := hx1.cell b2
      have c3 := hx1.cell b3
      have cl : w.heap.size < w1.heap.size := World.block_lt_of_cell? _ _ c0
      clear b0 b1 b2 b3 bl hx1 he hb
      go_wp2_with fail
      refine (ref_any s ⟨sa, sc, ca, cc, pa, pc⟩ _).mono ?_
      rintro e w2 ⟨rfl, hx2⟩
      have HW2 := Lib.hid (HW1.out.trans hx2)
      have HM2 := Lib.hid (HM1.out.ext hx2)
      have HMX2 := Lib.hid (HMX1.out.ext hx2)
      clear c0 c1 c2 c3 cl hx2
      go_wp2_with fail
      refine (wrong_any s ⟨sa, sc, ca, cc, pa, pc⟩ _ HF.out HM2.out).mono ?_
      rintro e w3 ⟨rfl, hx3⟩
      have HW3 := Lib.hid (HW2.out.trans hx3)
      have H4 := Lib.hid (four_any w3 (HMX2.out.ext hx3))
      clear hx3
      generalize errF s = E at *
      go_wp2_with fail
      refine H4.out.mono ?_
      rintro e w4 ⟨rfl, hx4⟩
      have HW4 := Lib.hid (HW3.out.trans hx4); clear hx4
      go_wp2_with fail
      refine bodyPost_ret (v := .bool true) (by simp [results, Tryd.results3, go_sem]) rfl ?_
      exact ⟨rfl, HW4.out⟩
    · skip
      have hok := (errF_zero s).1 he
      have HE := Lib.hid he
      have HOK := Lib.hid hok
      have HLEN := Lib.hid (planT_len3 hok hp3)
      have HW1 := Lib.hid (HX0.out.trans hx1)
      have HM1 := Lib.hid (HM.out.ext hx1)
      have HMX1 := Lib.hid (HMX.out.ext hx1)
      have c0 := hx1.cell b0
      have c1 := hx1.cell b1
      have c2 := hx1.cell b2
      have c3 := hx1.cell b3
      have cl : w.heap.size < w1.heap.size := World.block_lt_of_cell? _ _ c0
      have HB1 := Lib.hid (hb.ext hx1)
      clear b0 b1 b2 b3 bl hx1 he hb hok
      go_wp2_with fail
      refine (ref_any s ⟨sa, sc, ca, cc, pa, pc⟩ _).mono ?_
      rintro e w2 ⟨rfl, hx2⟩
      have HW2 := Lib.hid (HW1.out.trans hx2)
      have HM2 := Lib.hid (HM1.out.ext hx2)
      have HMX2 := Lib.hid (HMX1.out.ext hx2)
      have HB2 := Lib.hid (HB1.out.ext hx2)
      clear c0 c1 c2 c3 cl hx2 HB1 HM1 HW1 HM HX0
      go_wp2_with fail
      refine (wrong_any s ⟨sa, sc, ca, cc, pa, pc⟩ _ HF.out HM2.out).mono ?_
      rintro e w3 ⟨rfl, hx3⟩
      have HW3 := Lib.hid (HW2.out.trans hx3)
      have HM3 := Lib.hid (HM2.out.ext hx3)
      have HMX3 := Lib.hid (HMX2.out.ext hx3)
      have HB3 := Lib.hid (HB2.out.ext hx3)
      clear hx3 HW2 HM2 HB2
      rw [HE.out]
      obtain ⟨r0, hr0, hrs⟩ := Pl.read_plan s HOK.out HWD.out
      have HRD := Lib.hid (pread_any (Pl.planT s) w3 HLEN.out HMX3.out)
      rw [hr0] at HRD
      clear hr0
      go_wp2_with fail
      refine HRD.out.mono ?_
      rintro e w4 ⟨hx4, ⟨h0, -⟩ | ⟨-, -, m', rfl, hm', -⟩⟩
      · exact absurd rfl h0
      simp only [hrs] at hm' ⊢
      obtain ⟨sa', sc', ca', cc', pa', pc'⟩ := m'
      simp only
      have HW4 := Lib.hid (HW3.out.trans hx4)
      have HM4 := Lib.hid (HM3.out.ext hx4)
      have HMX4 := Lib.hid (HMX3.out.ext hx4)
      have HB4 := Lib.hid (HB3.out.ext hx4)
      have HN4 := Lib.hid hm'
      clear hx4 hm' HW3 HM3 HB3 HRD hrs
      have HBx := Lib.hid (Blk.new w4 #[.int .i64 s.n, .slice sa' s.specs.length sc', .slice ca' s.calls.length cc', .slice pa' s.picks.length pc'] 26)
      have HX5 := Lib.hid ((Ext.refl w4).alloc (.cells #[.int .i64 s.n, .slice sa' s.specs.length sc', .slice ca' s.calls.length cc', .slice pa' s.picks.length pc'] 26))
      go_wp2_with fail
      generalize w4.alloc (.cells #[.int .i64 s.n, .slice sa' s.specs.length sc', .slice ca' s.calls.length cc', .slice pa' s.picks.length pc'] 26) = Wb at *
      generalize w4.heap.size = T at *
      have HB5 := Lib.hid (HB4.out.ext HX5.out)
      have HM5 := Lib.hid (HM4.out.ext HX5.out)
      have HMX5 := Lib.hid (HMX4.out.ext HX5.out)
      have HN5 := Lib.hid (HN4.out.ext HX5.out)
      have HW5 := Lib.hid (HW4.out.trans HX5.out)
      have c0 := fun w' (hw : Ext Wb w') => (HB5.out.ext hw).cell 0 (v := .int .i64 s.n) rfl
      have c1 := fun w' (hw : Ext Wb w') => (HB5.out.ext hw).cell 1 (v := .slice sa s.specs.length sc) rfl
      have c2 := fun w' (hw : Ext Wb w') => (HB5.out.ext hw).cell 2 (v := .slice ca s.calls.length cc) rfl
      have c3 := fun w' (hw : Ext Wb w') => (HB5.out.ext hw).cell 3 (v := .slice pa s.picks.length pc) rfl
      have d0' := fun w' (hw : Ext Wb w') => (HBx.out.ext hw).cell 0 (v := .int .i64 s.n) rfl
      have d1' := fun w' (hw : Ext Wb w') => (HBx.out.ext hw).cell 1 (v := .slice sa' s.specs.length sc') rfl
      have d2' := fun w' (hw : Ext Wb w') => (HBx.out.ext hw).cell 2 (v := .slice ca' s.calls.length cc') rfl
      have d3' := fun w' (hw : Ext Wb w') => (HBx.out.ext hw).cell 3 (v := .slice pa' s.picks.length pc') rfl
      clear HB5 HBx HB4 HN4 HX5 HW4 HMX4 HM4
      refine Reg.wp_region_v [] Ext (by kernel_rfl) (by kernel_rfl) (fun _ _ _ => Ext.trans) (Ext.refl _).drew ?_
      repeat (refine Reg.step_det ?_; apply Exists.intro; refine And.intro ?_ ?_; (focus (intro vs w' hw hf; go_wp2_with fail; exact Reg.post_at rfl (Ext.refl _) rfl)); intro A' hA'; simp only [Act.put, List.setIfInBounds_toArray, List.set_cons_zero, List.set_cons_succ] at hA'; have e := funext hA'; subst e; clear hA')
      refine Reg.step_det ?_; apply Exists.intro; refine And.intro ?_ ?_
      focus
        intro vs w' hw hf
        have hcon := ref_any s ⟨sa, sc, ca, cc, pa, pc⟩ w'
        have HCON := Lib.hid hcon; clear hcon
        go_wp2_with fail
        refine HCON.out.mono ?_
        rintro e' wn ⟨rfl, hx⟩
        have HX := Lib.hid hx; clear hx
        go_wp2_with fail
        exact Reg.post_at rfl HX.out rfl
      intro A' hA'; simp only [Act.put, List.setIfInBounds_toArray, List.set_cons_zero, List.set_cons_succ] at hA'; have e := funext hA'; subst e; clear hA'
      refine Reg.step_det ?_; apply Exists.intro; refine And.intro ?_ ?_
      focus
        intro vs w' hw hf
        have hcon := rtext_any s ⟨sa, sc, ca, cc, pa, pc⟩ w' HOK.out HWD.out (HM5.out.ext hw)
        have HCON := Lib.hid hcon; clear hcon
        go_wp2_with fail
        refine HCON.out.mono ?_
        rintro e' wn ⟨rfl, hx⟩
        have HX := Lib.hid hx; clear hx
        go_wp2_with fail
        exact Reg.post_at rfl HX.out rfl
      intro A' hA'; simp only [Act.put, List.setIfInBounds_toArray, List.set_cons_zero, List.set_cons_succ] at hA'; have e := funext hA'; subst e; clear hA'
      repeat (refine Reg.step_det ?_; apply Exists.intro; refine And.intro ?_ ?_; (focus (intro vs w' hw hf; go_wp2_with fail; exact Reg.post_at rfl (Ext.refl _) rfl)); intro A' hA'; simp only [Act.put, List.setIfInBounds_toArray, List.set_cons_zero, List.set_cons_succ] at hA'; have e := funext hA'; subst e; clear hA')
      refine Reg.step_det ?_; apply Exists.intro; refine And.intro ?_ ?_
      focus
        intro vs w' hw hf
        have hcon := ref_any s ⟨sa', sc', ca', cc', pa', pc'⟩ w'
        have HCON := Lib.hid hcon; clear hcon
        go_wp2_with fail
        refine HCON.out.mono ?_
        rintro e' wn ⟨rfl, hx⟩
        have HX := Lib.hid hx; clear hx
        go_wp2_with fail
        exact Reg.post_at rfl HX.out rfl
      intro A' hA'; simp only [Act.put, List.setIfInBounds_toArray, List.set_cons_zero, List.set_cons_succ] at hA'; have e := funext hA'; subst e; clear hA'
      repeat (refine Reg.step_det ?_; apply Exists.intro; refine And.intro ?_ ?_; (focus (intro vs w' hw hf; go_wp2_with fail; exact Reg.post_at rfl (Ext.refl _) rfl)); intro A' hA'; simp only [Act.put, List.setIfInBounds_toArray, List.set_cons_zero, List.set_cons_succ] at hA'; have e := funext hA'; subst e; clear hA')
      refine Reg.step_det ?_; apply Exists.intro; refine And.intro ?_ ?_
      focus
        intro vs w' hw hf
        have hcon := ref_any s ⟨sa, sc, ca, cc, pa, pc⟩ w'
        have HCON := Lib.hid hcon; clear hcon
        go_wp2_with fail
        refine HCON.out.mono ?_
        rintro e' wn ⟨rfl, hx⟩
        have HX := Lib.hid hx; clear hx
        go_wp2_with fail
        exact Reg.post_at rfl HX.out rfl
      intro A' hA'; simp only [Act.put, List.setIfInBounds_toArray, List.set_cons_zero, List.set_cons_succ] at hA'; have e := funext hA'; subst e; clear hA'
      refine Reg.step_det ?_; apply Exists.intro; refine And.intro ?_ ?_
      focus
        intro vs w' hw hf
        have hcon := same_any s ⟨sa', sc', ca', cc', pa', pc'⟩ ⟨sa, sc, ca, cc, pa, pc⟩ w' HF.out (HN5.out.ext hw) (HM5.out.ext hw)
        have HCON := Lib.hid hcon; clear hcon
        go_wp2_with fail
        refine HCON.out.mono ?_
        rintro e' wn ⟨rfl, hx⟩
        have HX := Lib.hid hx; clear hx
        go_wp2_with fail
        exact Reg.post_at rfl HX.out rfl
      intro A' hA'; simp only [Act.put, List.setIfInBounds_toArray, List.set_cons_zero, List.set_cons_succ] at hA'; have e := funext hA'; subst e; clear hA'
      repeat (refine Reg.step_det ?_; apply Exists.intro; refine And.intro ?_ ?_; (focus (intro vs w' hw hf; go_wp2_with fail; exact Reg.post_at rfl (Ext.refl _) rfl)); intro A' hA'; simp only [Act.put, List.setIfInBounds_toArray, List.set_cons_zero, List.set_cons_succ] at hA'; have e := funext hA'; subst e; clear hA')
      refine Reg.step_det ?_; apply Exists.intro; refine And.intro ?_ ?_
      focus
        intro vs w' hw hf
        have hcon := four_any w' (HMX5.out.ext hw)
        have HCON := Lib.hid hcon; clear hcon
        go_wp2_with fail
        refine HCON.out.mono ?_
        rintro e' wn ⟨rfl, hx⟩
        have HX := Lib.hid hx; clear hx
        go_wp2_with fail
        exact Reg.post_at rfl HX.out rfl
      intro A' hA'; simp only [Act.put, List.setIfInBounds_toArray, List.set_cons_zero, List.set_cons_succ] at hA'; have e := funext hA'; subst e; clear hA'
      repeat (refine Reg.step_det ?_; apply Exists.intro; refine And.intro ?_ ?_; (focus (intro vs w' hw hf; go_wp2_with fail; exact Reg.post_at rfl (Ext.refl _) rfl)); intro A' hA'; simp only [Act.put, List.setIfInBounds_toArray, List.set_cons_zero, List.set_cons_succ] at hA'; have e := funext hA'; subst e; clear hA')
      intro vs w' hw hf
      have HV := Lib.hid hw; clear hw hf
      have HW6 := Lib.hid (HW5.out.trans HV.out)
      go_wp2_with fail
      refine bodyPost_ret (v := .bool true) (by simp [results, Tryd.results3, go_sem]) rfl ?_
      exact ⟨rfl, HW6.out⟩
  · have d3 : decide ((3000 : Int) < (s.picks.length : Int)) = true := decide_eq_true (by omega)
    have d4 : decide ((s.picks.length : Int) ≤ (65536 : Int)) = false := decide_eq_false (by omega)
    have HNO : Hid (errF s ≠ 0) := Lib.hid (fun h => by have := ((errF_zero s).1 h).2.2.2.1; omega)
    clear hbig hp3
    go_wp2_with fail
    refine HWR.out.mono ?_
    rintro e w1 ⟨hx1, ⟨he, rfl⟩ | ⟨he, rfl⟩⟩
    · skip
      have HE := Lib.hid he
      have hne : (errF s != 0) = true := by simpa using he
      have HW1 := Lib.hid (HX0.out.trans hx1)
      have HM1 := Lib.hid (HM.out.ext hx1)
      have HMX1 := Lib.hid (HMX.out.ext hx1)
      have c0 := hx1.cell b0
      have c1 := hx1.cell b1
      have c2 := hx1.cell b2
      have c3 := hx1.cell b3
      have cl : w.heap.size < w1.heap.size := World.block_lt_of_cell? _ _ c0
      clear b0 b1 b2 b3 bl hx1 he hb
      go_wp2_with fail
      refine (ref_any s ⟨sa, sc, ca, cc, pa, pc⟩ _).mono ?_
      rintro e w2 ⟨rfl, hx2⟩
      have HW2 := Lib.hid (HW1.out.trans hx2)
      have HM2 := Lib.hid (HM1.out.ext hx2)
      have HMX2 := Lib.hid (HMX1.out.ext hx2)
      clear c0 c1 c2 c3 cl hx2
      go_wp2_with fail
      refine (wrong_any s ⟨sa, sc, ca, cc, pa, pc⟩ _ HF.out HM2.out).mono ?_
      rintro e w3 ⟨rfl, hx3⟩
      have HW3 := Lib.hid (HW2.out.trans hx3)
      have H4 := Lib.hid (four_any w3 (HMX2.out.ext hx3))
      clear hx3
      generalize errF s = E at *
      go_wp2_with fail
      refine H4.out.mono ?_
      rintro e w4 ⟨rfl, hx4⟩
      have HW4 := Lib.hid (HW3.out.trans hx4); clear hx4
      go_wp2_with fail
      refine bodyPost_ret (v := .bool true) (by simp [results, Tryd.results3, go_sem]) rfl ?_
      exact ⟨rfl, HW4.out⟩
    · exact absurd he HNO.out

end Go.Proofs.YtcfbcffmlinlaaaDoor

namespace Go.Proofs.YtcfbcffmlinlaaaDoor
open Go.RowKit Go.Deep Go.ChangeShapes Go.WideShapes

section
variable {H : Type} {enc : TypeId × Value → H} {P : Program} {w : World} {base : Nat} {spare : Nat → Bool} {held : Bool}

theorem trod_float {t : TypeId} {k : FloatKind} {fuel : Nat} {cs : List Value} {x : DataW H × List MemPlace} (ht : P.underlying t = some (.float k)) (h : DataW.trod enc P w base spare held fuel t cs = some x) :
    ∃ b, cs = [.float k b] ∧ (Lit.float k b).wf = true := by
  cases fuel with
  | zero => simp [DataW.trod] at h
  | succ n =>
    unfold DataW.trod at h
    rw [ht] at h
    split at h <;> simp_all

/-- A slice of one-cell things, each with a property that its own reading gives. -/
theorem open_one {α : Type} [Inhabited α] {t e : TypeId} {fuel : Nat} {cs : List Value} {x : DataW H × List MemPlace} (mk : α → Value) (good : α → Prop) (ht : P.underlying t = some (.slice e)) (hc : P.cellsOf e = 1)
    (hel : ∀ (n : Nat) (v : Value) y, DataW.trod enc P w base spare held n e [v] = some y → ∃ b, v = mk b ∧ good b)
    (h : DataW.trod enc P w base spare held fuel t cs = some x) :
    ∃ (a : Option Addr) (len cap : Nat) (l : List α), cs = [.slice a len cap] ∧ len ≤ cap ∧ cap ≤ maxLen ∧ (a = none → cap = 0) ∧ l.length = len ∧
      (∀ b ∈ l, good b) ∧ ∀ i, i < len → ∃ bb off, a = some ⟨bb, off, none⟩ ∧ w.cell? ⟨bb, off + i, none⟩ = some (mk (l.getD i default)) := by
  rcases open_slice1 ht hc h with ⟨rfl, _⟩ | ⟨a, len, cap, m, n, V, D, Pl, rfl, hb, hl, hm, hmm, _, hx⟩
  · exact ⟨none, 0, 0, [], rfl, Nat.le_refl _, by decide, fun _ => rfl, rfl, (by intro b hb; cases hb), (by intro i hi; omega)⟩
  · have hlm : len ≤ m := by rw [hmm]; split <;> omega
    obtain ⟨f, hf⟩ := choose_lt (α := α) (p := fun i b => V i = mk b ∧ good b) (fun i (hi : i < len) => hel n (V i) _ (hx i (by omega)).2)
    refine ⟨some a, len, cap, (List.range len).map f, rfl, hl, hm, fun h => (by cases h), by simp, ?_, ?_⟩
    · intro b hb
      obtain ⟨i, hi, rfl⟩ := List.mem_map.1 hb
      exact (hf i (List.mem_range.1 hi)).2
    · intro i hi
      have h1 := (hx i (by omega)).1
      obtain ⟨bb, off, spot⟩ := a
      have h0 := (hx 0 (by omega)).1
      have hsp : spot = none := by simpa [Addr.add] using World.cell?_spot h0
      subst hsp
      refine ⟨bb, off, rfl, ?_⟩
      rw [addr_add] at h1
      rw [h1, (hf i hi).1]
      simp [List.getElem?_range hi]
end

end Go.Proofs.YtcfbcffmlinlaaaDoor

namespace Go.Proofs.YtcfbcffmlinlaaaDoor
open Go.RowKit Go.Deep Go.ChangeShapes Go.WideShapes

section
variable {H : Type} {enc : TypeId × Value → H} {P : Program} {w : World} {base : Nat} {spare : Nat → Bool} {held : Bool}

theorem trod_intk {t : TypeId} {k : IntKind} {fuel : Nat} {cs : List Value} {x : DataW H × List MemPlace} (ht : P.underlying t = some (.int k)) (h : DataW.trod enc P w base spare held fuel t cs = some x) :
    ∃ b, cs = [.int k b] ∧ (Lit.int k b).wf = true := by
  cases fuel with
  | zero => simp [DataW.trod] at h
  | succ n =>
    unfold DataW.trod at h
    rw [ht] at h
    split at h <;> simp_all

theorem open_intk {t e : TypeId} {k : IntKind} {fuel : Nat} {cs : List Value} {x : DataW H × List MemPlace} (ht : P.underlying t = some (.slice e)) (he : P.underlying e = some (.int k)) (hc : P.cellsOf e = 1) (h : DataW.trod enc P w base spare held fuel t cs = some x) :
    ∃ (a : Option Addr) (len cap : Nat) (l : List Int), cs = [.slice a len cap] ∧ len ≤ cap ∧ cap ≤ maxLen ∧ (a = none → cap = 0) ∧ l.length = len ∧ (∀ b ∈ l, (Lit.int k b).wf = true) ∧ IsInts k w a l := by
  obtain ⟨a, len, cap, l, hcs, h1, h2, h3, h4, h5, h6⟩ := open_one (α := Int) (Value.int k) (fun b => (Lit.int k b).wf = true) ht hc (fun n v y hy => by
    obtain ⟨b, hb, hw⟩ := trod_intk he hy
    simp only [List.cons.injEq, and_true] at hb
    exact ⟨b, hb, hw⟩) h
  refine ⟨a, len, cap, l, hcs, h1, h2, h3, h4, h5, ?_⟩
  by_cases h0 : l = []
  · exact .inl h0
  · have hp : 0 < l.length := List.length_pos_iff.2 h0
    obtain ⟨bb, off, rfl, _⟩ := h6 0 (by omega)
    refine .inr ⟨bb, off, rfl, fun i hi => ?_⟩
    obtain ⟨bb', off', he, hc⟩ := h6 i (by omega)
    simp at he
    obtain ⟨rfl, rfl⟩ := he
    exact hc
end

theorem byte_wf {b : Int} (h : (Lit.int .u8 b).wf = true) : byteOk b := by
  have hmin : IntKind.u8.min = 0 := rfl
  have hmax : IntKind.u8.max = 255 := rfl
  simp only [Lit.wf, Bool.and_eq_true, decide_eq_true_eq] at h
  unfold byteOk; omega

end Go.Proofs.YtcfbcffmlinlaaaDoor

namespace Go.Proofs.YtcfbcffmlinlaaaDoor
open Go.RowKit Go.Deep Go.ChangeShapes Go.WideShapes

section
variable {H : Type} {enc : TypeId × Value → H} {P : Program} {w : World} {base : Nat} {spare : Nat → Bool} {held : Bool}

/-- A struct of one-cell fields: each cell reads as its field. -/
theorem trod_flat {fs : Array Field} {t : TypeId} {fuel : Nat} {cs : List Value} {x : DataW H × List MemPlace} (ht : P.underlying t = some (.struct fs)) (hone : oneCellFields P fs = true) (hC : P.cellsOf t = fs.size)
    (h : DataW.trod enc P w base spare held fuel t cs = some x) :
    ∃ n, cs.length = fs.size ∧ ∀ (i : Nat) (f : Field) (v : Value), fs[i]? = some f → cs[i]? = some v → ∃ y, DataW.trod enc P w base spare held n f.type [v] = some y := by
  obtain ⟨xs, n, _, _, hl, hlen, hf⟩ := DataW.trod_struct ht h
  refine ⟨n, by rw [hl, hC], fun i f v hfi hvi => ?_⟩
  obtain ⟨ho, hc⟩ := hone_of hone i f hfi
  have h1 := hf i f hfi
  have hlt : i < fs.size := (Array.getElem?_eq_some_iff.1 hfi).1
  rw [List.getElem?_eq_getElem (by rw [hlen]; exact hlt)] at h1
  have hvl : i < cs.length := (List.getElem?_eq_some_iff.1 hvi).1
  rw [ho, hc, List.drop_eq_getElem_cons hvl, List.take_succ_cons, List.take_zero, (List.getElem?_eq_some_iff.1 hvi).2] at h1
  exact ⟨_, h1⟩

/-- A slice of things of sz cells, each with a property that its own reading gives. -/
theorem open_seq {α : Type} (d : α) (sz : Nat) (f : α → List Value) (good : α → Prop) (hf : ∀ x, (f x).length = sz) (hsz : 0 < sz) {t e : TypeId} {fuel : Nat} {cs : List Value} {x : DataW H × List MemPlace}
    (ht : P.underlying t = some (.slice e)) (hc : P.cellsOf e = sz)
    (hel : ∀ (n : Nat) (cs : List Value) y, DataW.trod enc P w base spare held n e cs = some y → ∃ b, cs = f b ∧ good b)
    (h : DataW.trod enc P w base spare held fuel t cs = some x) :
    ∃ (a : Option Addr) (len cap : Nat) (l : List α), cs = [.slice a len cap] ∧ len ≤ cap ∧ cap ≤ maxLen ∧ (a = none → cap = 0) ∧ l.length = len ∧ (∀ b ∈ l, good b) ∧ IsSeq d sz f w a l := by
  haveI : Inhabited α := ⟨d⟩
  rcases open_slice ht h with ⟨rfl, _⟩ | ⟨a, len, cap, m, n, D, Pl, rfl, hb, hl, hm, hmm, _, hx⟩
  · exact ⟨none, 0, 0, [], rfl, Nat.le_refl _, by decide, fun _ => rfl, rfl, (by intro b hb; cases hb), .inl rfl⟩
  · have hlm : len ≤ m := by rw [hmm]; split <;> omega
    rw [hc] at hx
    obtain ⟨F, hF⟩ := choose_lt (α := α) (p := fun i b => w.cells? base (a.add (i * sz)) sz = some (f b) ∧ good b) (fun i (hi : i < len) => by
      obtain ⟨cs', h1, h2⟩ := hx i (by omega)
      obtain ⟨b, rfl, hg⟩ := hel _ _ _ h2
      exact ⟨b, h1, hg⟩)
    refine ⟨some a, len, cap, (List.range len).map F, rfl, hl, hm, fun h => (by cases h), by simp, ?_, ?_⟩
    · intro b hb
      obtain ⟨i, hi, rfl⟩ := List.mem_map.1 hb
      exact (hF i (List.mem_range.1 hi)).2
    · by_cases h0 : len = 0
      · subst h0; exact .inl rfl
      · obtain ⟨b, off, spot⟩ := a
        have q0 := (World.cells?_some (hF 0 (by omega)).1).2.2 0 hsz
        have hsp : spot = none := by
          have h1 : (f (F 0))[0]? = some ((f (F 0)).getD 0 undef) := by
            rw [List.getD_eq_getElem?_getD, List.getElem?_eq_getElem (by rw [hf]; exact hsz)]; rfl
          have := World.cell?_spot (q0.trans h1)
          simpa [Addr.add] using this
        subst hsp
        refine .inr ⟨b, off, rfl, fun i hi j hj => ?_⟩
        have hi' : i < len := by simpa using hi
        have en : nthD d ((List.range len).map F) i = F i := by simp [nthD, List.getElem?_range hi']
        rw [en]
        have q := (World.cells?_some (hF i hi').1).2.2 j hj
        simp only [addr_add] at q
        rw [q, List.getD_eq_getElem?_getD, List.getElem?_eq_getElem (by rw [hf]; exact hj)]
        rfl
end

theorem u64_wf {b : Int} (h : (Lit.int .u64 b).wf = true) : u64Ok b := by
  have hmin : IntKind.u64.min = 0 := rfl
  have hmax : IntKind.u64.max = 18446744073709551615 := rfl
  simp only [Lit.wf, Bool.and_eq_true, decide_eq_true_eq] at h
  unfold u64Ok; omega

theorem i64_wf {b : Int} (h : (Lit.int .i64 b).wf = true) : -9223372036854775808 ≤ b ∧ b ≤ 9223372036854775807 := by
  have hmin : IntKind.i64.min = -9223372036854775808 := rfl
  have hmax : IntKind.i64.max = 9223372036854775807 := rfl
  simp only [Lit.wf, Bool.and_eq_true, decide_eq_true_eq] at h
  omega

theorem list3 {α : Type} (l : List α) (h : l.length = 3) : ∃ a b c, l = [a, b, c] := by
  match l, h with
  | [a, b, c], _ => exact ⟨a, b, c, rfl⟩
theorem list6 {α : Type} (l : List α) (h : l.length = 6) : ∃ a b c d e f, l = [a, b, c, d, e, f] := by
  match l, h with
  | [a, b, c, d, e, f], _ => exact ⟨a, b, c, d, e, f, rfl⟩

end Go.Proofs.YtcfbcffmlinlaaaDoor

namespace Go.Proofs.YtcfbcffmlinlaaaDoor
open Go.RowKit Go.Deep Go.ChangeShapes Go.WideShapes

section
variable {H : Type} {enc : TypeId × Value → H} {w : World} {base : Nat} {spare : Nat → Bool} {held : Bool}

theorem open_spc (n : Nat) (cs : List Value) (y : DataW H × List MemPlace) (h : DataW.trod enc Tryd.prog w base spare held n 59 cs = some y) : ∃ s : Spc, cs = spcCells s ∧ True := by
  obtain ⟨m, hl, hf⟩ := trod_flat Tryd.underlying59 (by kernel_rfl) (by kernel_rfl) h
  obtain ⟨a, b, c, rfl⟩ := list3 cs hl
  obtain ⟨y0, g0⟩ := hf 0 _ a rfl rfl
  obtain ⟨y1, g1⟩ := hf 1 _ b rfl rfl
  obtain ⟨y2, g2⟩ := hf 2 _ c rfl rfl
  obtain ⟨n0, e0, _⟩ := trod_intk Tryd.underlying3 g0
  obtain ⟨n1, e1, _⟩ := trod_intk Tryd.underlying3 g1
  obtain ⟨n2, e2, _⟩ := trod_intk Tryd.underlying3 g2
  simp only [List.cons.injEq, and_true] at e0 e1 e2
  subst e0 e1 e2
  exact ⟨⟨n0, n1, n2⟩, rfl, trivial⟩

theorem open_cll (n : Nat) (cs : List Value) (y : DataW H × List MemPlace) (h : DataW.trod enc Tryd.prog w base spare held n 49 cs = some y) : ∃ c : Cll, cs = cllCells c ∧ c.wide := by
  obtain ⟨m, hl, hf⟩ := trod_flat Tryd.underlying49 (by kernel_rfl) (by kernel_rfl) h
  obtain ⟨a, b, c, d, e, f, rfl⟩ := list6 cs hl
  obtain ⟨y0, g0⟩ := hf 0 _ a rfl rfl
  obtain ⟨y1, g1⟩ := hf 1 _ b rfl rfl
  obtain ⟨y2, g2⟩ := hf 2 _ c rfl rfl
  obtain ⟨y3, g3⟩ := hf 3 _ d rfl rfl
  obtain ⟨y4, g4⟩ := hf 4 _ e rfl rfl
  obtain ⟨y5, g5⟩ := hf 5 _ f rfl rfl
  obtain ⟨n0, e0, _⟩ := trod_intk Tryd.underlying3 g0
  obtain ⟨n1, e1, _⟩ := trod_intk Tryd.underlying3 g1
  obtain ⟨n2, e2, _⟩ := trod_intk Tryd.underlying3 g2
  obtain ⟨n3, e3, w3⟩ := trod_intk Tryd.underlying47 g3
  obtain ⟨n4, e4, w4⟩ := trod_intk Tryd.underlying47 g4
  obtain ⟨n5, e5, w5⟩ := trod_intk Tryd.underlying47 g5
  simp only [List.cons.injEq, and_true] at e0 e1 e2 e3 e4 e5
  subst e0 e1 e2 e3 e4 e5
  exact ⟨⟨n0, n1, n2, n3, n4, n5⟩, rfl, u64_wf w3, u64_wf w4, u64_wf w5⟩

set_option maxRecDepth 100000 in
theorem open_scr {v : Value} {d : DataW H} {p : List MemPlace} {b0 : Nat} (o : Value.okWide Tryd.prog w .any b0 26 v) (h : DataW.Trod enc Tryd.prog w base spare held 26 v d p) :
    ∃ (s : Scr) (m : Lies), v = .agg #[.int .i64 s.n, .slice m.sa s.specs.length m.sc, .slice m.ca s.calls.length m.cc, .slice m.pa s.picks.length m.pc] ∧ Fits s ∧ s.wide ∧ LiesAt s m w := by
  obtain ⟨v0, v1, v2, v3, y0, y1, y2, y3, n, rfl, _, _, g0, g1, g2, g3⟩ := Go.Joins.open_agg4 Tryd.underlying26 (by kernel_rfl) (by kernel_rfl) o h
  obtain ⟨k, e0, w0⟩ := trod_intk Tryd.underlying3 g0
  obtain ⟨sa, sl, sc, specs, e1, _, h12, _, rfl, _, hs⟩ := open_seq spc0 3 spcCells (fun _ => True) spcCells_len (by decide) Tryd.underlying22 (by kernel_rfl) open_spc g1
  obtain ⟨ca, cl, cc, calls, e2, _, h22, _, rfl, hw, hc⟩ := open_seq cll0 6 cllCells Cll.wide cllCells_len (by decide) Tryd.underlying23 (by kernel_rfl) open_cll g2
  obtain ⟨pa, pl, pc, picks, e3, _, h32, _, rfl, _, hp⟩ := open_intk (k := .i64) Tryd.underlying24 Tryd.underlying3 (by kernel_rfl) g3
  simp only [List.cons.injEq, and_true] at e0 e1 e2 e3
  subst e0 e1 e2 e3
  unfold maxLen at h12 h22 h32
  exact ⟨⟨k, specs, calls, picks⟩, ⟨sa, sc, ca, cc, pa, pc⟩, rfl, ⟨i64_wf w0, by simp only; omega, by simp only; omega, by simp only; omega⟩, hw, hs, hc, hp⟩
end

end Go.Proofs.YtcfbcffmlinlaaaDoor

namespace Go.Proofs.YtcfbcffmlinlaaaDoor
open Go.RowKit

/-- May more picks come? -/
def fullOf (r : Pl.St) : Bool := r.part == 3 && !r.last
/-- Only picks end the picks. -/
def Rlast (r : Pl.St) : Prop := r.part ≠ 3 → r.last = false

theorem Rlast.start : Rlast Pl.st0 := fun _ => rfl
theorem Rlast.take {r : Pl.St} (h : Rlast r) (w : List UInt8) (l : List Int) : Rlast (Pl.takeL r w l).2 := by
  unfold Pl.takeL
  split
  · rename_i h1
    split
    · exact fun _ => h (by omega)
    · exact h
  split
  · rename_i h1
    split
    · exact h
    · split
      · exact h
      · exact fun _ => h (by omega)
  split
  · rename_i h1
    split
    · exact h
    · split
      · exact h
      · exact fun _ => h (by omega)
  split
  · split
    · exact h
    · split
      · exact h
      · exact fun h3 => absurd rfl h3
  · exact h
theorem Rlast.step {r : Pl.St} (h : Rlast r) (t : List UInt8) : Rlast (Pl.stepL r t).2 := by
  unfold Pl.stepL
  split
  · exact h
  · split
    · exact h
    · exact h.take _ _

/-- The reference's plan: how far it is read. -/
structure RPl (w : World) (B R : Nat) (r : Pl.St) (sa ca pa : Value) : Prop where
  here : Blk w R #[.int .i64 r.s.n, sa, ca, pa, .int .i64 r.part, .bool (fullOf r), .int .i64 0, .int .i64 0] 40
  specs : w.ownsRow B 59 3 sa r.s.specs.length (r.s.specs.flatMap spcCells)
  calls : w.ownsRow B 49 6 ca r.s.calls.length (r.s.calls.flatMap cllCells)
  picks : w.ownsRow B 3 1 pa r.s.picks.length (r.s.picks.map (Value.int .i64))
def IsRPl (w : World) (B R : Nat) (r : Pl.St) : Prop := ∃ sa ca pa, RPl w B R r sa ca pa

theorem RPl.ext {w w' : World} {B R : Nat} {r : Pl.St} {sa ca pa : Value} (h : RPl w B R r sa ca pa) (he : Ext w w') : RPl w' B R r sa ca pa :=
  ⟨h.here.ext he, own_ext h.specs he, own_ext h.calls he, own_ext h.picks he⟩
theorem IsRPl.ext {w w' : World} {B R : Nat} {r : Pl.St} (h : IsRPl w B R r) (he : Ext w w') : IsRPl w' B R r := by
  obtain ⟨sa, ca, pa, h⟩ := h
  exact ⟨sa, ca, pa, h.ext he⟩

/-- The same while a line is taken: part and full as they stand in memory. -/
structure RPx (w : World) (B R : Nat) (s : Scr) (part : Int) (full : Bool) (sa ca pa : Value) : Prop where
  here : Blk w R #[.int .i64 s.n, sa, ca, pa, .int .i64 part, .bool full, .int .i64 0, .int .i64 0] 40
  specs : w.ownsRow B 59 3 sa s.specs.length (s.specs.flatMap spcCells)
  calls : w.ownsRow B 49 6 ca s.calls.length (s.calls.flatMap cllCells)
  picks : w.ownsRow B 3 1 pa s.picks.length (s.picks.map (Value.int .i64))
theorem RPl.x {w : World} {B R : Nat} {r : Pl.St} {sa ca pa : Value} (h : RPl w B R r sa ca pa) : RPx w B R r.s r.part (fullOf r) sa ca pa := ⟨h.here, h.specs, h.calls, h.picks⟩
theorem RPx.ext {w w' : World} {B R : Nat} {s : Scr} {part : Int} {full : Bool} {sa ca pa : Value} (h : RPx w B R s part full sa ca pa) (he : Ext w w') : RPx w' B R s part full sa ca pa :=
  ⟨h.here.ext he, own_ext h.specs he, own_ext h.calls he, own_ext h.picks he⟩
theorem RPx.app_specs {w w' : World} {B R : Nat} {s : Scr} {part : Int} {full : Bool} {sa ca pa sa' : Value} (h : RPx w B R s part full sa ca pa) (x : Spc) (hg : w.grownBy w' sa.ownBlock)
    (ho : w'.ownsRow B 59 3 sa' (s.specs.length + 1) (s.specs.flatMap spcCells ++ spcCells x)) :
    Blk w' R #[.int .i64 s.n, sa, ca, pa, .int .i64 part, .bool full, .int .i64 0, .int .i64 0] 40 ∧
    RPx (w'.setCell ⟨R, 1, none⟩ sa') B R ⟨s.n, s.specs ++ [x], s.calls, s.picks⟩ part full sa' ca pa := by
  have h1 := h.here.grown hg (own_ne h.specs h.here (by decide))
  refine ⟨h1, h1.set 1 _, ?_, ?_, ?_⟩
  · have := own_set_ne ho (own_ne ho h1 (by decide)) (i := 1) sa'
    rw [List.flatMap_append, List.length_append]
    simpa using this
  · have h2 := own_grown h.calls h.specs (by decide) hg
    exact own_set_ne h2 (own_ne h2 h1 (by decide)) _
  · have h2 := own_grown h.picks h.specs (by decide) hg
    exact own_set_ne h2 (own_ne h2 h1 (by decide)) _
theorem RPx.app_calls {w w' : World} {B R : Nat} {s : Scr} {part : Int} {full : Bool} {sa ca pa ca' : Value} (h : RPx w B R s part full sa ca pa) (x : Cll) (hg : w.grownBy w' ca.ownBlock)
    (ho : w'.ownsRow B 49 6 ca' (s.calls.length + 1) (s.calls.flatMap cllCells ++ cllCells x)) :
    Blk w' R #[.int .i64 s.n, sa, ca, pa, .int .i64 part, .bool full, .int .i64 0, .int .i64 0] 40 ∧
    RPx (w'.setCell ⟨R, 2, none⟩ ca') B R ⟨s.n, s.specs, s.calls ++ [x], s.picks⟩ part full sa ca' pa := by
  have h1 := h.here.grown hg (own_ne h.calls h.here (by decide))
  refine ⟨h1, h1.set 2 _, ?_, ?_, ?_⟩
  · have h2 := own_grown h.specs h.calls (by decide) hg
    exact own_set_ne h2 (own_ne h2 h1 (by decide)) _
  · have := own_set_ne ho (own_ne ho h1 (by decide)) (i := 2) ca'
    rw [List.flatMap_append, List.length_append]
    simpa using this
  · have h2 := own_grown h.picks h.calls (by decide) hg
    exact own_set_ne h2 (own_ne h2 h1 (by decide)) _
theorem RPx.app_pick {w w' : World} {B R : Nat} {s : Scr} {part : Int} {full : Bool} {sa ca pa pa' : Value} (h : RPx w B R s part full sa ca pa) (x : Int) (hg : w.grownBy w' pa.ownBlock)
    (ho : w'.ownsRow B 3 1 pa' (s.picks.length + 1) (s.picks.map (Value.int .i64) ++ [.int .i64 x])) :
    Blk w' R #[.int .i64 s.n, sa, ca, pa, .int .i64 part, .bool full, .int .i64 0, .int .i64 0] 40 ∧
    RPx (w'.setCell ⟨R, 3, none⟩ pa') B R ⟨s.n, s.specs, s.calls, s.picks ++ [x]⟩ part full sa ca pa' := by
  have h1 := h.here.grown hg (own_ne h.picks h.here (by decide))
  refine ⟨h1, h1.set 3 _, ?_, ?_, ?_⟩
  · have h2 := own_grown h.specs h.picks (by decide) hg
    exact own_set_ne h2 (own_ne h2 h1 (by decide)) _
  · have h2 := own_grown h.calls h.picks (by decide) hg
    exact own_set_ne h2 (own_ne h2 h1 (by decide)) _
  · have := own_set_ne ho (own_ne ho h1 (by decide)) (i := 3) pa'
    rw [List.map_append, List.length_append]
    exact this
theorem RPx.set_n {w : World} {B R : Nat} {s : Scr} {part : Int} {full : Bool} {sa ca pa : Value} (h : RPx w B R s part full sa ca pa) (x : Int) : RPx (w.setCell ⟨R, 0, none⟩ (.int .i64 x)) B R ⟨x, s.specs, s.calls, s.picks⟩ part full sa ca pa :=
  ⟨h.here.set 0 _, own_set_ne h.specs (own_ne h.specs h.here (by decide)) _, own_set_ne h.calls (own_ne h.calls h.here (by decide)) _, own_set_ne h.picks (own_ne h.picks h.here (by decide)) _⟩
theorem RPx.set_part {w : World} {B R : Nat} {s : Scr} {part : Int} {full : Bool} {sa ca pa : Value} (h : RPx w B R s part full sa ca pa) (x : Int) : RPx (w.setCell ⟨R, 4, none⟩ (.int .i64 x)) B R s x full sa ca pa :=
  ⟨h.here.set 4 _, own_set_ne h.specs (own_ne h.specs h.here (by decide)) _, own_set_ne h.calls (own_ne h.calls h.here (by decide)) _, own_set_ne h.picks (own_ne h.picks h.here (by decide)) _⟩
theorem RPx.set_full {w : World} {B R : Nat} {s : Scr} {part : Int} {full : Bool} {sa ca pa : Value} (h : RPx w B R s part full sa ca pa) (x : Bool) : RPx (w.setCell ⟨R, 5, none⟩ (.bool x)) B R s part x sa ca pa :=
  ⟨h.here.set 5 _, own_set_ne h.specs (own_ne h.specs h.here (by decide)) _, own_set_ne h.calls (own_ne h.calls h.here (by decide)) _, own_set_ne h.picks (own_ne h.picks h.here (by decide)) _⟩
theorem RPx.pl {w : World} {B R : Nat} {s : Scr} {part : Int} {full : Bool} {sa ca pa : Value} (h : RPx w B R s part full sa ca pa) {r : Pl.St} (h1 : r.s = s) (h2 : r.part = part) (h3 : fullOf r = full) : IsRPl w B R r := by
  subst h1 h2 h3
  exact ⟨sa, ca, pa, h.here, h.specs, h.calls, h.picks⟩

end Go.Proofs.YtcfbcffmlinlaaaDoor
