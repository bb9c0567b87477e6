/-
  TextBack, walked.
-/
import Derived.Test.YtkhagpnnkfglbaaTxThree
import Derived.Test.YtkhagpnnkfglbaaOpenEv
namespace Go.Proofs.Ytkhagpnnkfglbaa
open Go.RowKit

/-- Reading what was told. -/
theorem read_told (e : Tx.Evt) (w : World) (hf : EvFit e) :
    Calls Try.prog 12 #[.string (St (Tx.evT e))] w fun x w' => ∃ la lc ka kc, x = .returned (.tuple #[.agg #[.int .i64 e.call, .int .i64 e.inv, .int .i64 e.resp, .int .i64 e.steps, .int .i64 e.err, .int .u64 e.val, .slice la e.list.length lc, .slice ka e.key.length kc], .int .i64 0, .bool true]) ∧ EvAt e ⟨la, lc, ka, kc⟩ w' ∧ Ext w w' :=
  read_yes _ e w (by have := evT_len e hf; omega) (Tx.read_tell e hf.ok)

theorem tell_iff {a b : Tx.Evt} (ha : a.ok) (hb : b.ok) : (Tx.evT a == Tx.evT b) = evB a b := by
  unfold evB
  rw [Bool.eq_iff_iff]
  simp only [decide_eq_true_eq, beq_iff_eq]
  exact ⟨fun h => Tx.tell_inj ha hb h, fun h => by rw [h]⟩

set_option maxRecDepth 100000 in
set_option maxHeartbeats 2000000 in
theorem back_any (a b : Tx.Evt) (m n : EvM) (w : World) (he : EvIn a m w) (hf : EvIn b n w) :
    Calls Try.prog 5 #[.agg #[.int .i64 a.call, .int .i64 a.inv, .int .i64 a.resp, .int .i64 a.steps, .int .i64 a.err, .int .u64 a.val, .slice m.la a.list.length m.lc, .slice m.ka a.key.length m.kc], .agg #[.int .i64 b.call, .int .i64 b.inv, .int .i64 b.resp, .int .i64 b.steps, .int .i64 b.err, .int .u64 b.val, .slice n.la b.list.length n.lc, .slice n.ka b.key.length n.kc]] w fun x w' => x = .returned (.bool true) ∧ Ext w w' := by
  obtain ⟨hok, hat, hll, hkl⟩ := he
  obtain ⟨hok2, hat2, hll2, hkl2⟩ := hf
  have hl1 : a.list.length ≤ 9223372036854775807 := by omega
  have hl2 : a.key.length ≤ 9223372036854775807 := by omega
  have hl3 : b.list.length ≤ 9223372036854775807 := by omega
  have hl4 : b.key.length ≤ 9223372036854775807 := by omega
  clear hll hkl hll2 hkl2
  obtain ⟨la, lc, ka, kc⟩ := m
  obtain ⟨lb, ld, kb, kd⟩ := n
  simp only at hat hat2 ⊢
  have hbl := Blk.new w #[.int .i64 a.call, .int .i64 a.inv, .int .i64 a.resp, .int .i64 a.steps, .int .i64 a.err, .int .u64 a.val, .slice la a.list.length lc, .slice ka a.key.length kc] 29
  have hb2 := Blk.new (w.alloc (.cells #[.int .i64 a.call, .int .i64 a.inv, .int .i64 a.resp, .int .i64 a.steps, .int .i64 a.err, .int .u64 a.val, .slice la a.list.length lc, .slice ka a.key.length kc] 29)) #[.int .i64 b.call, .int .i64 b.inv, .int .i64 b.resp, .int .i64 b.steps, .int .i64 b.err, .int .u64 b.val, .slice lb b.list.length ld, .slice kb b.key.length kd] 29
  have hx0 : Ext w ((w.alloc (.cells #[.int .i64 a.call, .int .i64 a.inv, .int .i64 a.resp, .int .i64 a.steps, .int .i64 a.err, .int .u64 a.val, .slice la a.list.length lc, .slice ka a.key.length kc] 29)).alloc (.cells #[.int .i64 b.call, .int .i64 b.inv, .int .i64 b.resp, .int .i64 b.steps, .int .i64 b.err, .int .u64 b.val, .slice lb b.list.length ld, .slice kb b.key.length kd] 29)) := ((Ext.refl w).alloc _).alloc _
  have hbl := hbl.alloc (.cells #[.int .i64 b.call, .int .i64 b.inv, .int .i64 b.resp, .int .i64 b.steps, .int .i64 b.err, .int .u64 b.val, .slice lb b.list.length ld, .slice kb b.key.length kd] 29)
  have hsz : (w.alloc (.cells #[.int .i64 a.call, .int .i64 a.inv, .int .i64 a.resp, .int .i64 a.steps, .int .i64 a.err, .int .u64 a.val, .slice la a.list.length lc, .slice ka a.key.length kc] 29)).heap.size = w.heap.size + 1 := by simp
  rw [hsz] at hb2
  clear hsz
  have HAT := Lib.hid (hat.ext hx0)
  have HAT2 := Lib.hid (hat2.ext hx0)
  have HX0 := Lib.hid hx0
  have HB1 := Lib.hid hbl
  have HB2 := Lib.hid hb2
  have HOK := Lib.hid hok
  have HOK2 := Lib.hid hok2
  clear hat hat2 hx0 hbl hb2 hok hok2
  go_enter Try.func5, Try.ntmps5
  go_upto_region 1 with (fail)
  generalize ((w.alloc (.cells #[.int .i64 a.call, .int .i64 a.inv, .int .i64 a.resp, .int .i64 a.steps, .int .i64 a.err, .int .u64 a.val, .slice la a.list.length lc, .slice ka a.key.length kc] 29)).alloc (.cells #[.int .i64 b.call, .int .i64 b.inv, .int .i64 b.resp, .int .i64 b.steps, .int .i64 b.err, .int .u64 b.val, .slice lb b.list.length ld, .slice kb b.key.length kd] 29)) = W0 at *
  generalize w.heap.size + 1 = B2 at *
  generalize w.heap.size = B1 at *
  have q0 := fun w' (hw : Ext W0 w') => (HB1.out.ext hw).cell 0 (v := .int .i64 a.call) rfl
  have q1 := fun w' (hw : Ext W0 w') => (HB1.out.ext hw).cell 1 (v := .int .i64 a.inv) rfl
  have q2 := fun w' (hw : Ext W0 w') => (HB1.out.ext hw).cell 2 (v := .int .i64 a.resp) rfl
  have q3 := fun w' (hw : Ext W0 w') => (HB1.out.ext hw).cell 3 (v := .int .i64 a.steps) rfl
  have q4 := fun w' (hw : Ext W0 w') => (HB1.out.ext hw).cell 4 (v := .int .i64 a.err) rfl
  have q5 := fun w' (hw : Ext W0 w') => (HB1.out.ext hw).cell 5 (v := .int .u64 a.val) rfl
  have q6 := fun w' (hw : Ext W0 w') => (HB1.out.ext hw).cell 6 (v := .slice la a.list.length lc) rfl
  have q7 := fun w' (hw : Ext W0 w') => (HB1.out.ext hw).cell 7 (v := .slice ka a.key.length kc) rfl
  have p0 := fun w' (hw : Ext W0 w') => (HB2.out.ext hw).cell 0 (v := .int .i64 b.call) rfl
  have p1 := fun w' (hw : Ext W0 w') => (HB2.out.ext hw).cell 1 (v := .int .i64 b.inv) rfl
  have p2 := fun w' (hw : Ext W0 w') => (HB2.out.ext hw).cell 2 (v := .int .i64 b.resp) rfl
  have p3 := fun w' (hw : Ext W0 w') => (HB2.out.ext hw).cell 3 (v := .int .i64 b.steps) rfl
  have p4 := fun w' (hw : Ext W0 w') => (HB2.out.ext hw).cell 4 (v := .int .i64 b.err) rfl
  have p5 := fun w' (hw : Ext W0 w') => (HB2.out.ext hw).cell 5 (v := .int .u64 b.val) rfl
  have p6 := fun w' (hw : Ext W0 w') => (HB2.out.ext hw).cell 6 (v := .slice lb b.list.length ld) rfl
  have p7 := fun w' (hw : Ext W0 w') => (HB2.out.ext hw).cell 7 (v := .slice kb b.key.length kd) rfl
  have r6 := q6 W0 (Ext.refl _)
  have r7 := q7 W0 (Ext.refl _)
  have s6 := p6 W0 (Ext.refl _)
  have s7 := p7 W0 (Ext.refl _)
  by_cases h1 : a.list.length ≤ 1000
  · by_cases h2 : a.key.length ≤ 1000
    · by_cases h3 : b.list.length ≤ 1000
      · by_cases h4 : b.key.length ≤ 1000
        · have hfa : EvFit a := ⟨HOK.out, by omega, by omega⟩
          have hfb : EvFit b := ⟨HOK2.out, by omega, by omega⟩
          have HFA := Lib.hid hfa
          have HFB := Lib.hid hfb
          have HIFF := Lib.hid (tell_iff HOK.out HOK2.out)
          clear hfa hfb
          have t0 := q0 W0 (Ext.refl _)
          have t1 := q1 W0 (Ext.refl _)
          have t2 := q2 W0 (Ext.refl _)
          have t3 := q3 W0 (Ext.refl _)
          have t4 := q4 W0 (Ext.refl _)
          have t5 := q5 W0 (Ext.refl _)
          go_wp2_with fail
          have hc := tevent_any a ⟨la, lc, ka, kc⟩ W0 HFA.out HAT.out
          have HC := Lib.hid hc; clear hc
          refine HC.out.mono ?_
          rintro e W1 ⟨rfl, hx⟩
          have HX1 := Lib.hid hx; clear hx HC
          clear r6 r7 s6 s7 t0 t1 t2 t3 t4 t5
          have hc := read_told a W1 HFA.out
          have HC := Lib.hid hc; clear hc
          go_wp2_with fail
          refine HC.out.mono ?_
          rintro e W2 ⟨lx, le, kx, ke, rfl, hev, hx⟩
          have HEV := Lib.hid hev
          have HX2 := Lib.hid (HX1.out.trans hx)
          clear hev hx HC
          go_upto_region 5 with (fail)
          have hb3 := Blk.new W2 #[.int .i64 a.call, .int .i64 a.inv, .int .i64 a.resp, .int .i64 a.steps, .int .i64 a.err, .int .u64 a.val, .slice lx a.list.length le, .slice kx a.key.length ke] 29
          have hx3 : Ext W2 (W2.alloc (.cells #[.int .i64 a.call, .int .i64 a.inv, .int .i64 a.resp, .int .i64 a.steps, .int .i64 a.err, .int .u64 a.val, .slice lx a.list.length le, .slice kx a.key.length ke] 29)) := (Ext.refl W2).alloc _
          have HB3 := Lib.hid hb3
          have HEV3 := Lib.hid (HEV.out.ext hx3)
          have HX3 := Lib.hid (HX2.out.trans hx3)
          clear hb3 hx3 HEV
          generalize W2.alloc (.cells #[.int .i64 a.call, .int .i64 a.inv, .int .i64 a.resp, .int .i64 a.steps, .int .i64 a.err, .int .u64 a.val, .slice lx a.list.length le, .slice kx a.key.length ke] 29) = W3 at *
          generalize W2.heap.size = B3 at *
          have HB1' := Lib.hid (HB1.out.ext HX3.out)
          have HB2' := Lib.hid (HB2.out.ext HX3.out)
          clear q0 q1 q2 q3 q4 q5 q6 q7 p0 p1 p2 p3 p4 p5 p6 p7
          have x0 := fun w' (hw : Ext W3 w') => (HB3.out.ext hw).cell 0 (v := .int .i64 a.call) rfl
          have x1 := fun w' (hw : Ext W3 w') => (HB3.out.ext hw).cell 1 (v := .int .i64 a.inv) rfl
          have x2 := fun w' (hw : Ext W3 w') => (HB3.out.ext hw).cell 2 (v := .int .i64 a.resp) rfl
          have x3 := fun w' (hw : Ext W3 w') => (HB3.out.ext hw).cell 3 (v := .int .i64 a.steps) rfl
          have x4 := fun w' (hw : Ext W3 w') => (HB3.out.ext hw).cell 4 (v := .int .i64 a.err) rfl
          have x5 := fun w' (hw : Ext W3 w') => (HB3.out.ext hw).cell 5 (v := .int .u64 a.val) rfl
          have x6 := fun w' (hw : Ext W3 w') => (HB3.out.ext hw).cell 6 (v := .slice lx a.list.length le) rfl
          have x7 := fun w' (hw : Ext W3 w') => (HB3.out.ext hw).cell 7 (v := .slice kx a.key.length ke) rfl
          have q0 := fun w' (hw : Ext W3 w') => (HB1'.out.ext hw).cell 0 (v := .int .i64 a.call) rfl
          have q1 := fun w' (hw : Ext W3 w') => (HB1'.out.ext hw).cell 1 (v := .int .i64 a.inv) rfl
          have q2 := fun w' (hw : Ext W3 w') => (HB1'.out.ext hw).cell 2 (v := .int .i64 a.resp) rfl
          have q3 := fun w' (hw : Ext W3 w') => (HB1'.out.ext hw).cell 3 (v := .int .i64 a.steps) rfl
          have q4 := fun w' (hw : Ext W3 w') => (HB1'.out.ext hw).cell 4 (v := .int .i64 a.err) rfl
          have q5 := fun w' (hw : Ext W3 w') => (HB1'.out.ext hw).cell 5 (v := .int .u64 a.val) rfl
          have q6 := fun w' (hw : Ext W3 w') => (HB1'.out.ext hw).cell 6 (v := .slice la a.list.length lc) rfl
          have q7 := fun w' (hw : Ext W3 w') => (HB1'.out.ext hw).cell 7 (v := .slice ka a.key.length kc) rfl
          have p0 := fun w' (hw : Ext W3 w') => (HB2'.out.ext hw).cell 0 (v := .int .i64 b.call) rfl
          have p1 := fun w' (hw : Ext W3 w') => (HB2'.out.ext hw).cell 1 (v := .int .i64 b.inv) rfl
          have p2 := fun w' (hw : Ext W3 w') => (HB2'.out.ext hw).cell 2 (v := .int .i64 b.resp) rfl
          have p3 := fun w' (hw : Ext W3 w') => (HB2'.out.ext hw).cell 3 (v := .int .i64 b.steps) rfl
          have p4 := fun w' (hw : Ext W3 w') => (HB2'.out.ext hw).cell 4 (v := .int .i64 b.err) rfl
          have p5 := fun w' (hw : Ext W3 w') => (HB2'.out.ext hw).cell 5 (v := .int .u64 b.val) rfl
          have p6 := fun w' (hw : Ext W3 w') => (HB2'.out.ext hw).cell 6 (v := .slice lb b.list.length ld) rfl
          have p7 := fun w' (hw : Ext W3 w') => (HB2'.out.ext hw).cell 7 (v := .slice kb b.key.length kd) rfl
          have HA3 := Lib.hid (HAT.out.ext HX3.out)
          have HA4 := Lib.hid (HAT2.out.ext HX3.out)
          have hself : evB a a = true := by unfold evB; simp
          have HSELF := Lib.hid hself; clear hself
          have same_self := fun w' (hw : Ext W3 w') => (show Calls Try.prog 14 #[.agg #[.int .i64 a.call, .int .i64 a.inv, .int .i64 a.resp, .int .i64 a.steps, .int .i64 a.err, .int .u64 a.val, .slice lx a.list.length le, .slice kx a.key.length ke], .agg #[.int .i64 a.call, .int .i64 a.inv, .int .i64 a.resp, .int .i64 a.steps, .int .i64 a.err, .int .u64 a.val, .slice la a.list.length lc, .slice ka a.key.length kc]] w' fun e w'' => e = .returned (.bool true) ∧ Ext w' w'' from by
            have h := same_evt a a ⟨lx, le, kx, ke⟩ ⟨la, lc, ka, kc⟩ w' (HEV3.out.ext hw) (HA3.out.ext hw) (by omega) (by omega) (by omega) (by omega)
            rw [HSELF.out] at h
            exact h)
          have SAME := Lib.hid same_self; clear same_self
          refine Reg.wp_region_v [] Ext (by kernel_rfl) (by kernel_rfl) (fun _ _ _ => Ext.trans) (Ext.refl _).drew ?_
          repeat (refine Reg.step_det ?_; apply Exists.intro; refine And.intro ?_ ?_; (focus (intro vs w' hw hf; go_wp2_with fail; exact Reg.post_at rfl (Ext.refl _) rfl)); intro A' hA'; simp only [Act.put, List.setIfInBounds_toArray, List.set_cons_zero, List.set_cons_succ] at hA'; have e := funext hA'; subst e; clear hA')
          refine Reg.step_det ?_; apply Exists.intro; refine And.intro ?_ ?_
          focus
            intro vs w' hw hf
            have hcon := SAME.out w' hw
            have HCON := Lib.hid hcon; clear hcon
            go_wp2_with fail
            refine HCON.out.mono ?_
            rintro e' wn ⟨rfl, hx⟩
            have HX := Lib.hid hx; clear hx
            go_wp2_with fail
            exact Reg.post_at rfl HX.out rfl
          intro A' hA'; simp only [Act.put, List.setIfInBounds_toArray, List.set_cons_zero, List.set_cons_succ] at hA'; have e := funext hA'; subst e; clear hA'
          repeat (refine Reg.step_det ?_; apply Exists.intro; refine And.intro ?_ ?_; (focus (intro vs w' hw hf; go_wp2_with fail; exact Reg.post_at rfl (Ext.refl _) rfl)); intro A' hA'; simp only [Act.put, List.setIfInBounds_toArray, List.set_cons_zero, List.set_cons_succ] at hA'; have e := funext hA'; subst e; clear hA')
          refine Reg.step_det ?_; apply Exists.intro; refine And.intro ?_ ?_
          focus
            intro vs w' hw hf
            have hcon := tevent_any b ⟨lb, ld, kb, kd⟩ w' HFB.out (HA4.out.ext hw)
            have HCON := Lib.hid hcon; clear hcon
            go_wp2_with fail
            refine HCON.out.mono ?_
            rintro e' wn ⟨rfl, hx⟩
            have HX := Lib.hid hx; clear hx
            go_wp2_with fail
            exact Reg.post_at rfl HX.out rfl
          intro A' hA'; simp only [Act.put, List.setIfInBounds_toArray, List.set_cons_zero, List.set_cons_succ] at hA'; have e := funext hA'; subst e; clear hA'
          repeat (refine Reg.step_det ?_; apply Exists.intro; refine And.intro ?_ ?_; (focus (intro vs w' hw hf; go_wp2_with fail; exact Reg.post_at rfl (Ext.refl _) rfl)); intro A' hA'; simp only [Act.put, List.setIfInBounds_toArray, List.set_cons_zero, List.set_cons_succ] at hA'; have e := funext hA'; subst e; clear hA')
          refine Reg.step_det ?_; apply Exists.intro; refine And.intro ?_ ?_
          focus
            intro vs w' hw hf
            have hcon := same_evt a b ⟨la, lc, ka, kc⟩ ⟨lb, ld, kb, kd⟩ w' (HA3.out.ext hw) (HA4.out.ext hw) (by omega) (by omega) (by omega) (by omega)
            have HCON := Lib.hid hcon; clear hcon
            go_wp2_with fail
            refine HCON.out.mono ?_
            rintro e' wn ⟨rfl, hx⟩
            have HX := Lib.hid hx; clear hx
            go_wp2_with fail
            exact Reg.post_at rfl HX.out rfl
          intro A' hA'; simp only [Act.put, List.setIfInBounds_toArray, List.set_cons_zero, List.set_cons_succ] at hA'; have e := funext hA'; subst e; clear hA'
          have hiff := HIFF.out
          have hbb : (evB a b == evB a b) = true := by simp
          repeat (refine Reg.step_det ?_; apply Exists.intro; refine And.intro ?_ ?_; (focus (intro vs w' hw hf; go_wp2_with fail; exact Reg.post_at rfl (Ext.refl _) rfl)); intro A' hA'; simp only [Act.put, List.setIfInBounds_toArray, List.set_cons_zero, List.set_cons_succ] at hA'; have e := funext hA'; subst e; clear hA')
          refine Reg.step_det ?_; apply Exists.intro; refine And.intro ?_ ?_
          focus
            intro vs w' hw hf
            have hcon := three_any w'
            have HCON := Lib.hid hcon; clear hcon
            go_wp2_with fail
            refine HCON.out.mono ?_
            rintro e' wn ⟨rfl, hx⟩
            have HX := Lib.hid hx; clear hx
            go_wp2_with fail
            exact Reg.post_at rfl HX.out rfl
          intro A' hA'; simp only [Act.put, List.setIfInBounds_toArray, List.set_cons_zero, List.set_cons_succ] at hA'; have e := funext hA'; subst e; clear hA'
          repeat (refine Reg.step_det ?_; apply Exists.intro; refine And.intro ?_ ?_; (focus (intro vs w' hw hf; go_wp2_with fail; exact Reg.post_at rfl (Ext.refl _) rfl)); intro A' hA'; simp only [Act.put, List.setIfInBounds_toArray, List.set_cons_zero, List.set_cons_succ] at hA'; have e := funext hA'; subst e; clear hA')
          intro vs w' hw hf
          have HV := Lib.hid hw; clear hw hf
          go_wp2_with fail
          go_ret
          exact ⟨rfl, HX0.out.trans (HX3.out.trans HV.out)⟩
        · go_wp2_with fail
          refine (three_any _).mono ?_
          rintro e w1 ⟨rfl, hx⟩
          have HX := Lib.hid hx; clear hx
          go_wp2_with fail
          go_ret
          exact ⟨rfl, HX0.out.trans HX.out⟩
      · go_wp2_with fail
        refine (three_any _).mono ?_
        rintro e w1 ⟨rfl, hx⟩
        have HX := Lib.hid hx; clear hx
        go_wp2_with fail
        go_ret
        exact ⟨rfl, HX0.out.trans HX.out⟩
    · go_wp2_with fail
      refine (three_any _).mono ?_
      rintro e w1 ⟨rfl, hx⟩
      have HX := Lib.hid hx; clear hx
      go_wp2_with fail
      go_ret
      exact ⟨rfl, HX0.out.trans HX.out⟩
  · go_wp2_with fail
    refine (three_any _).mono ?_
    rintro e w1 ⟨rfl, hx⟩
    have HX := Lib.hid hx; clear hx
    go_wp2_with fail
    go_ret
    exact ⟨rfl, HX0.out.trans HX.out⟩

end Go.Proofs.Ytkhagpnnkfglbaa
