/-
  TextTells, walked.
-/
import Derived.Test.YtkhagpnnkfglbaaTxThree
import Derived.Test.YtkhagpnnkfglbaaOpenEv
namespace Go.Proofs.Ytkhagpnnkfglbaa
open Go.RowKit

set_option maxRecDepth 100000 in
set_option maxHeartbeats 2000000 in
theorem tells_any (e : Tx.Evt) (m : EvM) (t o k a b c : Int) (w : World) (he : EvIn e m w) (ht : Tx.i64 t) (ho : Tx.i64 o) (hk : Tx.i64 k) (ha : Tx.u64 a) (hb : Tx.u64 b) (hc : Tx.u64 c) :
    Calls Try.prog 3 #[.agg #[.int .i64 e.call, .int .i64 e.inv, .int .i64 e.resp, .int .i64 e.steps, .int .i64 e.err, .int .u64 e.val, .slice m.la e.list.length m.lc, .slice m.ka e.key.length m.kc], .agg #[.int .i64 t, .int .i64 o, .int .i64 k, .int .u64 a, .int .u64 b, .int .u64 c]] w fun x w' => x = .returned (.bool true) ∧ Ext w w' := by
  obtain ⟨hok, hat, hll, hkl⟩ := he
  have hl1 : e.list.length ≤ 9223372036854775807 := by omega
  have hl2 : e.key.length ≤ 9223372036854775807 := by omega
  clear hll hkl
  obtain ⟨la, lc, ka, kc⟩ := m
  simp only at hat ⊢
  have hbl := Blk.new w #[.int .i64 e.call, .int .i64 e.inv, .int .i64 e.resp, .int .i64 e.steps, .int .i64 e.err, .int .u64 e.val, .slice la e.list.length lc, .slice ka e.key.length kc] 29
  have hb2 := Blk.new (w.alloc (.cells #[.int .i64 e.call, .int .i64 e.inv, .int .i64 e.resp, .int .i64 e.steps, .int .i64 e.err, .int .u64 e.val, .slice la e.list.length lc, .slice ka e.key.length kc] 29)) #[.int .i64 t, .int .i64 o, .int .i64 k, .int .u64 a, .int .u64 b, .int .u64 c] 31
  have hx0 : Ext w ((w.alloc (.cells #[.int .i64 e.call, .int .i64 e.inv, .int .i64 e.resp, .int .i64 e.steps, .int .i64 e.err, .int .u64 e.val, .slice la e.list.length lc, .slice ka e.key.length kc] 29)).alloc (.cells #[.int .i64 t, .int .i64 o, .int .i64 k, .int .u64 a, .int .u64 b, .int .u64 c] 31)) := ((Ext.refl w).alloc _).alloc _
  have hbl := hbl.alloc (.cells #[.int .i64 t, .int .i64 o, .int .i64 k, .int .u64 a, .int .u64 b, .int .u64 c] 31)
  have hsz : (w.alloc (.cells #[.int .i64 e.call, .int .i64 e.inv, .int .i64 e.resp, .int .i64 e.steps, .int .i64 e.err, .int .u64 e.val, .slice la e.list.length lc, .slice ka e.key.length kc] 29)).heap.size = w.heap.size + 1 := by simp
  rw [hsz] at hb2
  clear hsz
  have HAT := Lib.hid (hat.ext hx0)
  have HX0 := Lib.hid hx0
  have HB1 := Lib.hid hbl
  have HB2 := Lib.hid hb2
  have HOK := Lib.hid hok
  clear hat hx0 hbl hb2 hok
  go_enter Try.func3, Try.ntmps3
  go_upto_region 1 with (fail)
  generalize ((w.alloc (.cells #[.int .i64 e.call, .int .i64 e.inv, .int .i64 e.resp, .int .i64 e.steps, .int .i64 e.err, .int .u64 e.val, .slice la e.list.length lc, .slice ka e.key.length kc] 29)).alloc (.cells #[.int .i64 t, .int .i64 o, .int .i64 k, .int .u64 a, .int .u64 b, .int .u64 c] 31)) = W0 at *
  generalize w.heap.size + 1 = B2 at *
  generalize w.heap.size = B1 at *
  have q0 := fun w' (hw : Ext W0 w') => (HB1.out.ext hw).cell 0 (v := .int .i64 e.call) rfl
  have q1 := fun w' (hw : Ext W0 w') => (HB1.out.ext hw).cell 1 (v := .int .i64 e.inv) rfl
  have q2 := fun w' (hw : Ext W0 w') => (HB1.out.ext hw).cell 2 (v := .int .i64 e.resp) rfl
  have q3 := fun w' (hw : Ext W0 w') => (HB1.out.ext hw).cell 3 (v := .int .i64 e.steps) rfl
  have q4 := fun w' (hw : Ext W0 w') => (HB1.out.ext hw).cell 4 (v := .int .i64 e.err) rfl
  have q5 := fun w' (hw : Ext W0 w') => (HB1.out.ext hw).cell 5 (v := .int .u64 e.val) rfl
  have q6 := fun w' (hw : Ext W0 w') => (HB1.out.ext hw).cell 6 (v := .slice la e.list.length lc) rfl
  have q7 := fun w' (hw : Ext W0 w') => (HB1.out.ext hw).cell 7 (v := .slice ka e.key.length kc) rfl
  have p0 := fun w' (hw : Ext W0 w') => (HB2.out.ext hw).cell 0 (v := .int .i64 t) rfl
  have p1 := fun w' (hw : Ext W0 w') => (HB2.out.ext hw).cell 1 (v := .int .i64 o) rfl
  have p2 := fun w' (hw : Ext W0 w') => (HB2.out.ext hw).cell 2 (v := .int .i64 k) rfl
  have p3 := fun w' (hw : Ext W0 w') => (HB2.out.ext hw).cell 3 (v := .int .u64 a) rfl
  have p4 := fun w' (hw : Ext W0 w') => (HB2.out.ext hw).cell 4 (v := .int .u64 b) rfl
  have p5 := fun w' (hw : Ext W0 w') => (HB2.out.ext hw).cell 5 (v := .int .u64 c) rfl
  have r6 := q6 W0 (Ext.refl _)
  have r7 := q7 W0 (Ext.refl _)
  by_cases h1 : e.list.length ≤ 1000
  · by_cases h2 : e.key.length ≤ 1000
    · have hfit : EvFit e := ⟨HOK.out, by omega, by omega⟩
      have HFIT := Lib.hid hfit; clear hfit
      go_wp2_with fail
      clear r6 r7
      refine Reg.wp_region_v [] Ext (by kernel_rfl) (by kernel_rfl) (fun _ _ _ => Ext.trans) (Ext.refl _).drew ?_
      repeat (refine Reg.step_det ?_; apply Exists.intro; refine And.intro ?_ ?_; (focus (intro vs w' hw hf; go_wp2_with fail; exact Reg.post_at rfl (Ext.refl _) rfl)); intro A' hA'; simp only [Act.put, List.setIfInBounds_toArray, List.set_cons_zero, List.set_cons_succ] at hA'; have e := funext hA'; subst e; clear hA')
      refine Reg.step_det ?_; apply Exists.intro; refine And.intro ?_ ?_
      focus
        intro vs w' hw hf
        have hcon := tevent_any e ⟨la, lc, ka, kc⟩ w' HFIT.out (HAT.out.ext hw)
        have HCON := Lib.hid hcon; clear hcon
        go_wp2_with fail
        refine HCON.out.mono ?_
        rintro e' wn ⟨rfl, hx⟩
        have HX := Lib.hid hx; clear hx
        go_wp2_with fail
        exact Reg.post_at rfl HX.out rfl
      intro A' hA'; simp only [Act.put, List.setIfInBounds_toArray, List.set_cons_zero, List.set_cons_succ] at hA'; have e := funext hA'; subst e; clear hA'
      repeat (refine Reg.step_det ?_; apply Exists.intro; refine And.intro ?_ ?_; (focus (intro vs w' hw hf; go_wp2_with fail; exact Reg.post_at rfl (Ext.refl _) rfl)); intro A' hA'; simp only [Act.put, List.setIfInBounds_toArray, List.set_cons_zero, List.set_cons_succ] at hA'; have e := funext hA'; subst e; clear hA')
      refine Reg.step_det ?_; apply Exists.intro; refine And.intro ?_ ?_
      focus
        intro vs w' hw hf
        have hcon := revent_any e ⟨la, lc, ka, kc⟩ w' HFIT.out (HAT.out.ext hw)
        have HCON := Lib.hid hcon; clear hcon
        go_wp2_with fail
        refine HCON.out.mono ?_
        rintro e' wn ⟨rfl, hx⟩
        have HX := Lib.hid hx; clear hx
        go_wp2_with fail
        exact Reg.post_at rfl HX.out rfl
      intro A' hA'; simp only [Act.put, List.setIfInBounds_toArray, List.set_cons_zero, List.set_cons_succ] at hA'; have e := funext hA'; subst e; clear hA'
      repeat (refine Reg.step_det ?_; apply Exists.intro; refine And.intro ?_ ?_; (focus (intro vs w' hw hf; go_wp2_with fail; exact Reg.post_at rfl (Ext.refl _) rfl)); intro A' hA'; simp only [Act.put, List.setIfInBounds_toArray, List.set_cons_zero, List.set_cons_succ] at hA'; have e := funext hA'; subst e; clear hA')
      refine Reg.step_det ?_; apply Exists.intro; refine And.intro ?_ ?_
      focus
        intro vs w' hw hf
        have hcon := tcall_any t o k a b c w' ht ho hk ha hb hc
        have HCON := Lib.hid hcon; clear hcon
        go_wp2_with fail
        refine HCON.out.mono ?_
        rintro e' wn ⟨rfl, hx⟩
        have HX := Lib.hid hx; clear hx
        go_wp2_with fail
        exact Reg.post_at rfl HX.out rfl
      intro A' hA'; simp only [Act.put, List.setIfInBounds_toArray, List.set_cons_zero, List.set_cons_succ] at hA'; have e := funext hA'; subst e; clear hA'
      repeat (refine Reg.step_det ?_; apply Exists.intro; refine And.intro ?_ ?_; (focus (intro vs w' hw hf; go_wp2_with fail; exact Reg.post_at rfl (Ext.refl _) rfl)); intro A' hA'; simp only [Act.put, List.setIfInBounds_toArray, List.set_cons_zero, List.set_cons_succ] at hA'; have e := funext hA'; subst e; clear hA')
      refine Reg.step_det ?_; apply Exists.intro; refine And.intro ?_ ?_
      focus
        intro vs w' hw hf
        have hcon := rcall_any t o k a b c w' ht ho hk ha hb hc
        have HCON := Lib.hid hcon; clear hcon
        go_wp2_with fail
        refine HCON.out.mono ?_
        rintro e' wn ⟨rfl, hx⟩
        have HX := Lib.hid hx; clear hx
        go_wp2_with fail
        exact Reg.post_at rfl HX.out rfl
      intro A' hA'; simp only [Act.put, List.setIfInBounds_toArray, List.set_cons_zero, List.set_cons_succ] at hA'; have e := funext hA'; subst e; clear hA'
      repeat (refine Reg.step_det ?_; apply Exists.intro; refine And.intro ?_ ?_; (focus (intro vs w' hw hf; go_wp2_with fail; exact Reg.post_at rfl (Ext.refl _) rfl)); intro A' hA'; simp only [Act.put, List.setIfInBounds_toArray, List.set_cons_zero, List.set_cons_succ] at hA'; have e := funext hA'; subst e; clear hA')
      refine Reg.step_det ?_; apply Exists.intro; refine And.intro ?_ ?_
      focus
        intro vs w' hw hf
        have hcon := three_any w'
        have HCON := Lib.hid hcon; clear hcon
        go_wp2_with fail
        refine HCON.out.mono ?_
        rintro e' wn ⟨rfl, hx⟩
        have HX := Lib.hid hx; clear hx
        go_wp2_with fail
        exact Reg.post_at rfl HX.out rfl
      intro A' hA'; simp only [Act.put, List.setIfInBounds_toArray, List.set_cons_zero, List.set_cons_succ] at hA'; have e := funext hA'; subst e; clear hA'
      repeat (refine Reg.step_det ?_; apply Exists.intro; refine And.intro ?_ ?_; (focus (intro vs w' hw hf; go_wp2_with fail; exact Reg.post_at rfl (Ext.refl _) rfl)); intro A' hA'; simp only [Act.put, List.setIfInBounds_toArray, List.set_cons_zero, List.set_cons_succ] at hA'; have e := funext hA'; subst e; clear hA')
      intro vs w' hw hf
      have HV := Lib.hid hw; clear hw hf
      go_wp2_with fail
      go_ret
      exact ⟨rfl, HX0.out.trans HV.out⟩
    · go_wp2_with fail
      refine (three_any _).mono ?_
      rintro e w1 ⟨rfl, hx⟩
      have HX := Lib.hid hx; clear hx
      go_wp2_with fail
      go_ret
      exact ⟨rfl, HX0.out.trans HX.out⟩
  · go_wp2_with fail
    refine (three_any _).mono ?_
    rintro e w1 ⟨rfl, hx⟩
    have HX := Lib.hid hx; clear hx
    go_wp2_with fail
    go_ret
    exact ⟨rfl, HX0.out.trans HX.out⟩

end Go.Proofs.Ytkhagpnnkfglbaa
