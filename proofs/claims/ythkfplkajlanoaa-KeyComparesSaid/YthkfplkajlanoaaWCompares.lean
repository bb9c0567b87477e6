/-
  KeyCompares, walked.
-/
import Derived.Test.YthkfplkajlanoaaWRows
import Derived.Test.YthkfplkajlanoaaBlks
namespace Go.Proofs.Ythkfplkajlanoaa
open Go.RowKit

set_option maxRecDepth 100000 in
set_option maxHeartbeats 4000000 in
theorem compares_any (hS : SymAll) (a b : List Int) (pa pb : Option Addr) (ca cb : Nat) (q0 q1 : Int) (w : World) (ha : KeyIn a pa w) (hb : KeyIn b pb w) :
    Calls Try.prog 3 #[.slice pa a.length ca, .slice pb b.length cb, .agg #[.int .i64 q0, .int .i64 q1]] w fun e w' => e = .returned (.bool true) ∧ Ext w w' := by
  have la := ha.len
  have lb := hb.len
  have hbl := Blk.new w #[.int .i64 q0, .int .i64 q1] 23
  have hx0 := (Ext.refl w).alloc (.cells #[.int .i64 q0, .int .i64 q1] 23)
  have HA := Lib.hid (ha.ext hx0)
  have HB := Lib.hid (hb.ext hx0)
  clear ha hb
  have hbig : ∀ w : World, Calls Try.prog 6 #[] w fun e w' => e = .returned (.bool true) ∧ Ext w w' := fun w => known_any hS w
  have HKN := Lib.hid hbig; clear hbig
  have HX0 := Lib.hid hx0; clear hx0
  have HBL := Lib.hid hbl; clear hbl
  rcases (show (a.length ≤ 1000 ∧ b.length ≤ 1000) ∨ 1000 < a.length ∨ (a.length ≤ 1000 ∧ 1000 < b.length) by omega) with ⟨h1, h2⟩ | h1 | ⟨h1, h2⟩
  rotate_left
  · have d1 : decide ((a.length : Int) > 1000) = true := decide_eq_true (by omega)
    go_enter Try.func3, Try.ntmps3
    go_wp2_with fail
    refine (HKN.out _).mono ?_
    rintro e w1 ⟨rfl, hx⟩
    have HX := Lib.hid (HX0.out.trans hx); clear hx
    go_wp2_with fail
    go_ret
    exact ⟨rfl, HX.out⟩
  · have d1 : decide ((a.length : Int) > 1000) = false := decide_eq_false (by omega)
    have d2 : decide ((b.length : Int) > 1000) = true := decide_eq_true (by omega)
    go_enter Try.func3, Try.ntmps3
    go_wp2_with fail
    refine (HKN.out _).mono ?_
    rintro e w1 ⟨rfl, hx⟩
    have HX := Lib.hid (HX0.out.trans hx); clear hx
    go_wp2_with fail
    go_ret
    exact ⟨rfl, HX.out⟩
  · have d1 : decide ((a.length : Int) > 1000) = false := decide_eq_false (by omega)
    have d2 : decide ((b.length : Int) > 1000) = false := decide_eq_false (by omega)
    go_enter Try.func3, Try.ntmps3
    go_upto_region 4 with (fail)
    generalize w.alloc (.cells #[.int .i64 q0, .int .i64 q1] 23) = W0 at *
    generalize w.heap.size = B at *
    have HAB := Lib.hid (ahead_any a b pa ca pb cb W0 HA.out.ints HB.out.ints la lb)
    have HBA := Lib.hid (fun n => ahead_any b a pb cb pa ca (W0.drewN n) (HB.out.ints.ext ((Ext.refl _).drewN n)) (HA.out.ints.ext ((Ext.refl _).drewN n)) lb la)
    have HWE := Lib.hid (wantK_eq a b)
    unfold wantK at HWE
    clear d1 d2
    generalize aheadB a b = x1 at *
    generalize aheadB b a = x2 at *
    have hwp : ∀ w', Ext W0 w' → Calls Try.prog 9 #[.slice pa a.length ca, .int .i64 q0, .int .i64 q1] w' fun e w'' => e = .returned (.bool (withinB a q0 q1)) ∧ Ext w' w'' := fun w' hw =>
      (kwithin_any a pa ca q0 q1 w' (HA.out.ints.ext hw) HA.out.good la).mono fun _ _ ⟨h, n, hn⟩ => ⟨h, by rw [hn]; exact (Ext.refl _).drewN n⟩
    have hwr : ∀ w', Ext W0 w' → Calls Try.prog 10 #[.slice pa a.length ca, .int .i64 q0, .int .i64 q1] w' fun e w'' => e = .returned (.bool (withinB a q0 q1)) ∧ Ext w' w'' := fun w' hw =>
      (rwithin_any a pa ca q0 q1 w' (HA.out.ints.ext hw) HA.out.good la).mono fun _ _ ⟨h, n, hn⟩ => ⟨h, by rw [hn]; exact (Ext.refl _).drewN n⟩
    generalize withinB a q0 q1 = wb at *
    have HWP := Lib.hid hwp
    have HWR := Lib.hid hwr
    clear hwp hwr
    cases x1 with
    | true =>
      have hck := fun w' (hw : Ext W0 w') => kcmp_any a b pa ca pb cb w' (HA.out.ints.ext hw) (HB.out.ints.ext hw) la lb
      rw [← HWE.out] at hck
      have hck : ∀ w', Ext W0 w' → Calls Try.prog 8 #[.slice pa a.length ca, .slice pb b.length cb] w' fun e w'' => e = .returned (.int .i64 (-1)) ∧ w' = w'' := hck
      have HCK := Lib.hid hck
      clear hck
      go_wp2_with fail
      refine HAB.out.mono ?_
      rintro e w' ⟨rfl, n1, rfl⟩
      have HW1 := Lib.hid ((Ext.refl W0).drewN n1)
      clear HBA HAB HWE
      generalize W0.drewN n1 = W1 at *
      go_upto_region 8 with (fail)
      have q0' := fun w' (hw : Ext W1 w') => (HBL.out.ext (HW1.out.trans hw)).cell 0 (v := .int .i64 q0) rfl
      have q1' := fun w' (hw : Ext W1 w') => (HBL.out.ext (HW1.out.trans hw)).cell 1 (v := .int .i64 q1) rfl
      refine Reg.wp_region_v [] Ext (by kernel_rfl) (by kernel_rfl) (fun _ _ _ => Ext.trans) (Ext.refl _).drew ?_
      repeat (refine Reg.step_det ?_; apply Exists.intro; refine And.intro ?_ ?_; (focus (intro vs w' hw hf; go_wp2_with fail; exact Reg.post_at rfl (Ext.refl _) rfl)); intro A' hA'; simp only [Act.put, List.setIfInBounds_toArray, List.set_cons_zero, List.set_cons_succ] at hA'; have e := funext hA'; subst e; clear hA')
      refine Reg.step_det ?_; apply Exists.intro; refine And.intro ?_ ?_
      focus
        intro vs w' hw hf
        have hcon := HCK.out w' (HW1.out.trans hw)
        have HCON := Lib.hid hcon; clear hcon
        go_wp2_with fail
        refine HCON.out.mono ?_
        rintro e' wn ⟨rfl, rfl⟩
        go_wp2_with fail
        exact Reg.post_at rfl (Ext.refl _) rfl
      intro A' hA'; simp only [Act.put, List.setIfInBounds_toArray, List.set_cons_zero, List.set_cons_succ] at hA'; have e := funext hA'; subst e; clear hA'
      repeat (refine Reg.step_det ?_; apply Exists.intro; refine And.intro ?_ ?_; (focus (intro vs w' hw hf; go_wp2_with fail; exact Reg.post_at rfl (Ext.refl _) rfl)); intro A' hA'; simp only [Act.put, List.setIfInBounds_toArray, List.set_cons_zero, List.set_cons_succ] at hA'; have e := funext hA'; subst e; clear hA')
      refine Reg.step_det ?_; apply Exists.intro; refine And.intro ?_ ?_
      focus
        intro vs w' hw hf
        have hcon := HWP.out w' (HW1.out.trans hw)
        have HCON := Lib.hid hcon; clear hcon
        go_wp2_with fail
        refine HCON.out.mono ?_
        rintro e' wn ⟨rfl, hx⟩
        have HX := Lib.hid hx; clear hx
        go_wp2_with fail
        exact Reg.post_at rfl HX.out rfl
      intro A' hA'; simp only [Act.put, List.setIfInBounds_toArray, List.set_cons_zero, List.set_cons_succ] at hA'; have e := funext hA'; subst e; clear hA'
      repeat (refine Reg.step_det ?_; apply Exists.intro; refine And.intro ?_ ?_; (focus (intro vs w' hw hf; go_wp2_with fail; exact Reg.post_at rfl (Ext.refl _) rfl)); intro A' hA'; simp only [Act.put, List.setIfInBounds_toArray, List.set_cons_zero, List.set_cons_succ] at hA'; have e := funext hA'; subst e; clear hA')
      refine Reg.step_det ?_; apply Exists.intro; refine And.intro ?_ ?_
      focus
        intro vs w' hw hf
        have hcon := HWR.out w' (HW1.out.trans hw)
        have HCON := Lib.hid hcon; clear hcon
        go_wp2_with fail
        refine HCON.out.mono ?_
        rintro e' wn ⟨rfl, hx⟩
        have HX := Lib.hid hx; clear hx
        go_wp2_with fail
        exact Reg.post_at rfl HX.out rfl
      intro A' hA'; simp only [Act.put, List.setIfInBounds_toArray, List.set_cons_zero, List.set_cons_succ] at hA'; have e := funext hA'; subst e; clear hA'
      repeat (refine Reg.step_det ?_; apply Exists.intro; refine And.intro ?_ ?_; (focus (intro vs w' hw hf; go_wp2_with fail; exact Reg.post_at rfl (Ext.refl _) rfl)); intro A' hA'; simp only [Act.put, List.setIfInBounds_toArray, List.set_cons_zero, List.set_cons_succ] at hA'; have e := funext hA'; subst e; clear hA')
      refine Reg.step_det ?_; apply Exists.intro; refine And.intro ?_ ?_
      focus
        intro vs w' hw hf
        have hcon := HKN.out w'
        have HCON := Lib.hid hcon; clear hcon
        go_wp2_with fail
        refine HCON.out.mono ?_
        rintro e' wn ⟨rfl, hx⟩
        have HX := Lib.hid hx; clear hx
        go_wp2_with fail
        exact Reg.post_at rfl HX.out rfl
      intro A' hA'; simp only [Act.put, List.setIfInBounds_toArray, List.set_cons_zero, List.set_cons_succ] at hA'; have e := funext hA'; subst e; clear hA'
      repeat (refine Reg.step_det ?_; apply Exists.intro; refine And.intro ?_ ?_; (focus (intro vs w' hw hf; go_wp2_with fail; exact Reg.post_at rfl (Ext.refl _) rfl)); intro A' hA'; simp only [Act.put, List.setIfInBounds_toArray, List.set_cons_zero, List.set_cons_succ] at hA'; have e := funext hA'; subst e; clear hA')
      intro vs w' hw hf
      have HV := Lib.hid hw; clear hw hf
      go_wp2_with fail
      go_ret
      exact ⟨rfl, HX0.out.trans (HW1.out.trans HV.out)⟩
    | false =>
      cases x2 with
      | true =>
        have hck := fun w' (hw : Ext W0 w') => kcmp_any a b pa ca pb cb w' (HA.out.ints.ext hw) (HB.out.ints.ext hw) la lb
        rw [← HWE.out] at hck
        have hck : ∀ w', Ext W0 w' → Calls Try.prog 8 #[.slice pa a.length ca, .slice pb b.length cb] w' fun e w'' => e = .returned (.int .i64 (1)) ∧ w' = w'' := hck
        have HCK := Lib.hid hck
        clear hck
        go_wp2_with fail
        refine HAB.out.mono ?_
        rintro e w' ⟨rfl, n1, rfl⟩
        go_wp2_with fail
        refine (HBA.out n1).mono ?_
        rintro e w' ⟨rfl, n2, rfl⟩
        have HW1 := Lib.hid (((Ext.refl W0).drewN n1).drewN n2)
        clear HBA HAB HWE
        generalize (W0.drewN n1).drewN n2 = W1 at *
        go_upto_region 8 with (fail)
        have q0' := fun w' (hw : Ext W1 w') => (HBL.out.ext (HW1.out.trans hw)).cell 0 (v := .int .i64 q0) rfl
        have q1' := fun w' (hw : Ext W1 w') => (HBL.out.ext (HW1.out.trans hw)).cell 1 (v := .int .i64 q1) rfl
        refine Reg.wp_region_v [] Ext (by kernel_rfl) (by kernel_rfl) (fun _ _ _ => Ext.trans) (Ext.refl _).drew ?_
        repeat (refine Reg.step_det ?_; apply Exists.intro; refine And.intro ?_ ?_; (focus (intro vs w' hw hf; go_wp2_with fail; exact Reg.post_at rfl (Ext.refl _) rfl)); intro A' hA'; simp only [Act.put, List.setIfInBounds_toArray, List.set_cons_zero, List.set_cons_succ] at hA'; have e := funext hA'; subst e; clear hA')
        refine Reg.step_det ?_; apply Exists.intro; refine And.intro ?_ ?_
        focus
          intro vs w' hw hf
          have hcon := HCK.out w' (HW1.out.trans hw)
          have HCON := Lib.hid hcon; clear hcon
          go_wp2_with fail
          refine HCON.out.mono ?_
          rintro e' wn ⟨rfl, rfl⟩
          go_wp2_with fail
          exact Reg.post_at rfl (Ext.refl _) rfl
        intro A' hA'; simp only [Act.put, List.setIfInBounds_toArray, List.set_cons_zero, List.set_cons_succ] at hA'; have e := funext hA'; subst e; clear hA'
        repeat (refine Reg.step_det ?_; apply Exists.intro; refine And.intro ?_ ?_; (focus (intro vs w' hw hf; go_wp2_with fail; exact Reg.post_at rfl (Ext.refl _) rfl)); intro A' hA'; simp only [Act.put, List.setIfInBounds_toArray, List.set_cons_zero, List.set_cons_succ] at hA'; have e := funext hA'; subst e; clear hA')
        refine Reg.step_det ?_; apply Exists.intro; refine And.intro ?_ ?_
        focus
          intro vs w' hw hf
          have hcon := HWP.out w' (HW1.out.trans hw)
          have HCON := Lib.hid hcon; clear hcon
          go_wp2_with fail
          refine HCON.out.mono ?_
          rintro e' wn ⟨rfl, hx⟩
          have HX := Lib.hid hx; clear hx
          go_wp2_with fail
          exact Reg.post_at rfl HX.out rfl
        intro A' hA'; simp only [Act.put, List.setIfInBounds_toArray, List.set_cons_zero, List.set_cons_succ] at hA'; have e := funext hA'; subst e; clear hA'
        repeat (refine Reg.step_det ?_; apply Exists.intro; refine And.intro ?_ ?_; (focus (intro vs w' hw hf; go_wp2_with fail; exact Reg.post_at rfl (Ext.refl _) rfl)); intro A' hA'; simp only [Act.put, List.setIfInBounds_toArray, List.set_cons_zero, List.set_cons_succ] at hA'; have e := funext hA'; subst e; clear hA')
        refine Reg.step_det ?_; apply Exists.intro; refine And.intro ?_ ?_
        focus
          intro vs w' hw hf
          have hcon := HWR.out w' (HW1.out.trans hw)
          have HCON := Lib.hid hcon; clear hcon
          go_wp2_with fail
          refine HCON.out.mono ?_
          rintro e' wn ⟨rfl, hx⟩
          have HX := Lib.hid hx; clear hx
          go_wp2_with fail
          exact Reg.post_at rfl HX.out rfl
        intro A' hA'; simp only [Act.put, List.setIfInBounds_toArray, List.set_cons_zero, List.set_cons_succ] at hA'; have e := funext hA'; subst e; clear hA'
        repeat (refine Reg.step_det ?_; apply Exists.intro; refine And.intro ?_ ?_; (focus (intro vs w' hw hf; go_wp2_with fail; exact Reg.post_at rfl (Ext.refl _) rfl)); intro A' hA'; simp only [Act.put, List.setIfInBounds_toArray, List.set_cons_zero, List.set_cons_succ] at hA'; have e := funext hA'; subst e; clear hA')
        refine Reg.step_det ?_; apply Exists.intro; refine And.intro ?_ ?_
        focus
          intro vs w' hw hf
          have hcon := HKN.out w'
          have HCON := Lib.hid hcon; clear hcon
          go_wp2_with fail
          refine HCON.out.mono ?_
          rintro e' wn ⟨rfl, hx⟩
          have HX := Lib.hid hx; clear hx
          go_wp2_with fail
          exact Reg.post_at rfl HX.out rfl
        intro A' hA'; simp only [Act.put, List.setIfInBounds_toArray, List.set_cons_zero, List.set_cons_succ] at hA'; have e := funext hA'; subst e; clear hA'
        repeat (refine Reg.step_det ?_; apply Exists.intro; refine And.intro ?_ ?_; (focus (intro vs w' hw hf; go_wp2_with fail; exact Reg.post_at rfl (Ext.refl _) rfl)); intro A' hA'; simp only [Act.put, List.setIfInBounds_toArray, List.set_cons_zero, List.set_cons_succ] at hA'; have e := funext hA'; subst e; clear hA')
        intro vs w' hw hf
        have HV := Lib.hid hw; clear hw hf
        go_wp2_with fail
        go_ret
        exact ⟨rfl, HX0.out.trans (HW1.out.trans HV.out)⟩
      | false =>
        have hck := fun w' (hw : Ext W0 w') => kcmp_any a b pa ca pb cb w' (HA.out.ints.ext hw) (HB.out.ints.ext hw) la lb
        rw [← HWE.out] at hck
        have hck : ∀ w', Ext W0 w' → Calls Try.prog 8 #[.slice pa a.length ca, .slice pb b.length cb] w' fun e w'' => e = .returned (.int .i64 (0)) ∧ w' = w'' := hck
        have HCK := Lib.hid hck
        clear hck
        go_wp2_with fail
        refine HAB.out.mono ?_
        rintro e w' ⟨rfl, n1, rfl⟩
        go_wp2_with fail
        refine (HBA.out n1).mono ?_
        rintro e w' ⟨rfl, n2, rfl⟩
        have HW1 := Lib.hid (((Ext.refl W0).drewN n1).drewN n2)
        clear HBA HAB HWE
        generalize (W0.drewN n1).drewN n2 = W1 at *
        go_upto_region 8 with (fail)
        have q0' := fun w' (hw : Ext W1 w') => (HBL.out.ext (HW1.out.trans hw)).cell 0 (v := .int .i64 q0) rfl
        have q1' := fun w' (hw : Ext W1 w') => (HBL.out.ext (HW1.out.trans hw)).cell 1 (v := .int .i64 q1) rfl
        refine Reg.wp_region_v [] Ext (by kernel_rfl) (by kernel_rfl) (fun _ _ _ => Ext.trans) (Ext.refl _).drew ?_
        repeat (refine Reg.step_det ?_; apply Exists.intro; refine And.intro ?_ ?_; (focus (intro vs w' hw hf; go_wp2_with fail; exact Reg.post_at rfl (Ext.refl _) rfl)); intro A' hA'; simp only [Act.put, List.setIfInBounds_toArray, List.set_cons_zero, List.set_cons_succ] at hA'; have e := funext hA'; subst e; clear hA')
        refine Reg.step_det ?_; apply Exists.intro; refine And.intro ?_ ?_
        focus
          intro vs w' hw hf
          have hcon := HCK.out w' (HW1.out.trans hw)
          have HCON := Lib.hid hcon; clear hcon
          go_wp2_with fail
          refine HCON.out.mono ?_
          rintro e' wn ⟨rfl, rfl⟩
          go_wp2_with fail
          exact Reg.post_at rfl (Ext.refl _) rfl
        intro A' hA'; simp only [Act.put, List.setIfInBounds_toArray, List.set_cons_zero, List.set_cons_succ] at hA'; have e := funext hA'; subst e; clear hA'
        repeat (refine Reg.step_det ?_; apply Exists.intro; refine And.intro ?_ ?_; (focus (intro vs w' hw hf; go_wp2_with fail; exact Reg.post_at rfl (Ext.refl _) rfl)); intro A' hA'; simp only [Act.put, List.setIfInBounds_toArray, List.set_cons_zero, List.set_cons_succ] at hA'; have e := funext hA'; subst e; clear hA')
        refine Reg.step_det ?_; apply Exists.intro; refine And.intro ?_ ?_
        focus
          intro vs w' hw hf
          have hcon := HWP.out w' (HW1.out.trans hw)
          have HCON := Lib.hid hcon; clear hcon
          go_wp2_with fail
          refine HCON.out.mono ?_
          rintro e' wn ⟨rfl, hx⟩
          have HX := Lib.hid hx; clear hx
          go_wp2_with fail
          exact Reg.post_at rfl HX.out rfl
        intro A' hA'; simp only [Act.put, List.setIfInBounds_toArray, List.set_cons_zero, List.set_cons_succ] at hA'; have e := funext hA'; subst e; clear hA'
        repeat (refine Reg.step_det ?_; apply Exists.intro; refine And.intro ?_ ?_; (focus (intro vs w' hw hf; go_wp2_with fail; exact Reg.post_at rfl (Ext.refl _) rfl)); intro A' hA'; simp only [Act.put, List.setIfInBounds_toArray, List.set_cons_zero, List.set_cons_succ] at hA'; have e := funext hA'; subst e; clear hA')
        refine Reg.step_det ?_; apply Exists.intro; refine And.intro ?_ ?_
        focus
          intro vs w' hw hf
          have hcon := HWR.out w' (HW1.out.trans hw)
          have HCON := Lib.hid hcon; clear hcon
          go_wp2_with fail
          refine HCON.out.mono ?_
          rintro e' wn ⟨rfl, hx⟩
          have HX := Lib.hid hx; clear hx
          go_wp2_with fail
          exact Reg.post_at rfl HX.out rfl
        intro A' hA'; simp only [Act.put, List.setIfInBounds_toArray, List.set_cons_zero, List.set_cons_succ] at hA'; have e := funext hA'; subst e; clear hA'
        repeat (refine Reg.step_det ?_; apply Exists.intro; refine And.intro ?_ ?_; (focus (intro vs w' hw hf; go_wp2_with fail; exact Reg.post_at rfl (Ext.refl _) rfl)); intro A' hA'; simp only [Act.put, List.setIfInBounds_toArray, List.set_cons_zero, List.set_cons_succ] at hA'; have e := funext hA'; subst e; clear hA')
        refine Reg.step_det ?_; apply Exists.intro; refine And.intro ?_ ?_
        focus
          intro vs w' hw hf
          have hcon := HKN.out w'
          have HCON := Lib.hid hcon; clear hcon
          go_wp2_with fail
          refine HCON.out.mono ?_
          rintro e' wn ⟨rfl, hx⟩
          have HX := Lib.hid hx; clear hx
          go_wp2_with fail
          exact Reg.post_at rfl HX.out rfl
        intro A' hA'; simp only [Act.put, List.setIfInBounds_toArray, List.set_cons_zero, List.set_cons_succ] at hA'; have e := funext hA'; subst e; clear hA'
        repeat (refine Reg.step_det ?_; apply Exists.intro; refine And.intro ?_ ?_; (focus (intro vs w' hw hf; go_wp2_with fail; exact Reg.post_at rfl (Ext.refl _) rfl)); intro A' hA'; simp only [Act.put, List.setIfInBounds_toArray, List.set_cons_zero, List.set_cons_succ] at hA'; have e := funext hA'; subst e; clear hA')
        intro vs w' hw hf
        have HV := Lib.hid hw; clear hw hf
        go_wp2_with fail
        go_ret
        exact ⟨rfl, HX0.out.trans (HW1.out.trans HV.out)⟩

end Go.Proofs.Ythkfplkajlanoaa
