/-
  text's line of a call; the reference's lines of events and of calls.
-/
import Derived.Test.YtkhagpnnkfglbaaTxEvt
namespace Go.Proofs.Ytkhagpnnkfglbaa
open Go.RowKit

theorem rnum_u64 (x : Int) (w : World) (h0 : 0 ≤ x) (h1 : x ≤ 18446744073709551615) :
    Calls Try.prog 24 #[.int .u64 x] w fun e w' => e = .returned (.string (St (Tx.numT x))) ∧ Ext w w' := by
  rw [Tx.numT_pos h0]; exact rdigits_any x w h0 h1

set_option maxRecDepth 100000 in
set_option maxHeartbeats 2000000 in
theorem revent_any (e : Tx.Evt) (m : EvM) (w : World) (hf : EvFit e) (hm : EvAt e m w) :
    Calls Try.prog 9 #[.agg #[.int .i64 e.call, .int .i64 e.inv, .int .i64 e.resp, .int .i64 e.steps, .int .i64 e.err, .int .u64 e.val, .slice m.la e.list.length m.lc, .slice m.ka e.key.length m.kc]] w fun x w' => x = .returned (.string (St (Tx.evT e))) ∧ Ext w w' := by
  have hlen := evT_len e hf
  obtain ⟨⟨⟨a1, a2⟩, ⟨b1, b2⟩, ⟨c1, c2⟩, ⟨d1, d2⟩, ⟨e1, e2⟩, ⟨v1, v2⟩, hl, hk⟩, hll, hkl⟩ := hf
  obtain ⟨la, lc, ka, kc⟩ := m
  simp only at hm ⊢
  have hb := Blk.new w #[.int .i64 e.call, .int .i64 e.inv, .int .i64 e.resp, .int .i64 e.steps, .int .i64 e.err, .int .u64 e.val, .slice la e.list.length lc, .slice ka e.key.length kc] 29
  have hx0 := (Ext.refl w).alloc (.cells #[.int .i64 e.call, .int .i64 e.inv, .int .i64 e.resp, .int .i64 e.steps, .int .i64 e.err, .int .u64 e.val, .slice la e.list.length lc, .slice ka e.key.length kc] 29)
  have HM := Lib.hid (hm.ext hx0)
  have HL := Lib.hid hl
  have HK := Lib.hid hk
  clear hm hl hk
  go_enter Try.func9, Try.ntmps9
  go_upto_region 1 with (fail)
  generalize w.alloc (.cells #[.int .i64 e.call, .int .i64 e.inv, .int .i64 e.resp, .int .i64 e.steps, .int .i64 e.err, .int .u64 e.val, .slice la e.list.length lc, .slice ka e.key.length kc] 29) = W0 at *
  have HX0 := Lib.hid hx0; clear hx0
  have HB := Lib.hid hb; clear hb
  generalize w.heap.size = B at *
  have q0 := fun w' (hw : Ext W0 w') => (HB.out.ext hw).cell 0 (v := .int .i64 e.call) rfl
  have q1 := fun w' (hw : Ext W0 w') => (HB.out.ext hw).cell 1 (v := .int .i64 e.inv) rfl
  have q2 := fun w' (hw : Ext W0 w') => (HB.out.ext hw).cell 2 (v := .int .i64 e.resp) rfl
  have q3 := fun w' (hw : Ext W0 w') => (HB.out.ext hw).cell 3 (v := .int .i64 e.steps) rfl
  have q4 := fun w' (hw : Ext W0 w') => (HB.out.ext hw).cell 4 (v := .int .i64 e.err) rfl
  have q5 := fun w' (hw : Ext W0 w') => (HB.out.ext hw).cell 5 (v := .int .u64 e.val) rfl
  have q6 := fun w' (hw : Ext W0 w') => (HB.out.ext hw).cell 6 (v := .slice la e.list.length lc) rfl
  have q7 := fun w' (hw : Ext W0 w') => (HB.out.ext hw).cell 7 (v := .slice ka e.key.length kc) rfl
  have n1 := numT_len e.call
  have n2 := numT_len e.inv
  have n3 := numT_len e.resp
  have n4 := numT_len e.steps
  have n5 := numT_len e.err
  have n6 := numT_len e.val
  have n7 := listT_len e.list
  have n8 := listT_len e.key
  have HD := Lib.hid (Tx.numT_pos v1)
  have HE := Lib.hid (Tx.evT_eq e)
  refine Reg.wp_region_v [] Ext (by kernel_rfl) (by kernel_rfl) (fun _ _ _ => Ext.trans) (Ext.refl _).drew ?_
  repeat (refine Reg.step_det ?_; apply Exists.intro; refine And.intro ?_ ?_; (focus (intro vs w' hw hf; go_wp2_with fail; exact Reg.post_at rfl (Ext.refl _) rfl)); intro A' hA'; simp only [Act.put, List.setIfInBounds_toArray, List.set_cons_zero, List.set_cons_succ] at hA'; have e := funext hA'; subst e; clear hA')
  refine Reg.step_det ?_; apply Exists.intro; refine And.intro ?_ ?_
  focus
    intro vs w' hw hf
    have hcon := rint_any e.call w' a1 a2
    have HCON := Lib.hid hcon; clear hcon
    go_wp2_with fail
    refine HCON.out.mono ?_
    rintro e' wn ⟨rfl, hx⟩
    have HX := Lib.hid hx; clear hx
    go_wp2_with fail
    exact Reg.post_at rfl HX.out rfl
  intro A' hA'; simp only [Act.put, List.setIfInBounds_toArray, List.set_cons_zero, List.set_cons_succ] at hA'; have e := funext hA'; subst e; clear hA'
  repeat (refine Reg.step_det ?_; apply Exists.intro; refine And.intro ?_ ?_; (focus (intro vs w' hw hf; go_wp2_with fail; exact Reg.post_at rfl (Ext.refl _) rfl)); intro A' hA'; simp only [Act.put, List.setIfInBounds_toArray, List.set_cons_zero, List.set_cons_succ] at hA'; have e := funext hA'; subst e; clear hA')
  refine Reg.step_det ?_; apply Exists.intro; refine And.intro ?_ ?_
  focus
    intro vs w' hw hf
    have hcon := rint_any e.inv w' b1 b2
    have HCON := Lib.hid hcon; clear hcon
    go_wp2_with fail
    refine HCON.out.mono ?_
    rintro e' wn ⟨rfl, hx⟩
    have HX := Lib.hid hx; clear hx
    go_wp2_with fail
    exact Reg.post_at rfl HX.out rfl
  intro A' hA'; simp only [Act.put, List.setIfInBounds_toArray, List.set_cons_zero, List.set_cons_succ] at hA'; have e := funext hA'; subst e; clear hA'
  repeat (refine Reg.step_det ?_; apply Exists.intro; refine And.intro ?_ ?_; (focus (intro vs w' hw hf; go_wp2_with fail; exact Reg.post_at rfl (Ext.refl _) rfl)); intro A' hA'; simp only [Act.put, List.setIfInBounds_toArray, List.set_cons_zero, List.set_cons_succ] at hA'; have e := funext hA'; subst e; clear hA')
  refine Reg.step_det ?_; apply Exists.intro; refine And.intro ?_ ?_
  focus
    intro vs w' hw hf
    have hcon := rint_any e.resp w' c1 c2
    have HCON := Lib.hid hcon; clear hcon
    go_wp2_with fail
    refine HCON.out.mono ?_
    rintro e' wn ⟨rfl, hx⟩
    have HX := Lib.hid hx; clear hx
    go_wp2_with fail
    exact Reg.post_at rfl HX.out rfl
  intro A' hA'; simp only [Act.put, List.setIfInBounds_toArray, List.set_cons_zero, List.set_cons_succ] at hA'; have e := funext hA'; subst e; clear hA'
  repeat (refine Reg.step_det ?_; apply Exists.intro; refine And.intro ?_ ?_; (focus (intro vs w' hw hf; go_wp2_with fail; exact Reg.post_at rfl (Ext.refl _) rfl)); intro A' hA'; simp only [Act.put, List.setIfInBounds_toArray, List.set_cons_zero, List.set_cons_succ] at hA'; have e := funext hA'; subst e; clear hA')
  refine Reg.step_det ?_; apply Exists.intro; refine And.intro ?_ ?_
  focus
    intro vs w' hw hf
    have hcon := rint_any e.steps w' d1 d2
    have HCON := Lib.hid hcon; clear hcon
    go_wp2_with fail
    refine HCON.out.mono ?_
    rintro e' wn ⟨rfl, hx⟩
    have HX := Lib.hid hx; clear hx
    go_wp2_with fail
    exact Reg.post_at rfl HX.out rfl
  intro A' hA'; simp only [Act.put, List.setIfInBounds_toArray, List.set_cons_zero, List.set_cons_succ] at hA'; have e := funext hA'; subst e; clear hA'
  repeat (refine Reg.step_det ?_; apply Exists.intro; refine And.intro ?_ ?_; (focus (intro vs w' hw hf; go_wp2_with fail; exact Reg.post_at rfl (Ext.refl _) rfl)); intro A' hA'; simp only [Act.put, List.setIfInBounds_toArray, List.set_cons_zero, List.set_cons_succ] at hA'; have e := funext hA'; subst e; clear hA')
  refine Reg.step_det ?_; apply Exists.intro; refine And.intro ?_ ?_
  focus
    intro vs w' hw hf
    have hcon := rint_any e.err w' e1 e2
    have HCON := Lib.hid hcon; clear hcon
    go_wp2_with fail
    refine HCON.out.mono ?_
    rintro e' wn ⟨rfl, hx⟩
    have HX := Lib.hid hx; clear hx
    go_wp2_with fail
    exact Reg.post_at rfl HX.out rfl
  intro A' hA'; simp only [Act.put, List.setIfInBounds_toArray, List.set_cons_zero, List.set_cons_succ] at hA'; have e := funext hA'; subst e; clear hA'
  repeat (refine Reg.step_det ?_; apply Exists.intro; refine And.intro ?_ ?_; (focus (intro vs w' hw hf; go_wp2_with fail; exact Reg.post_at rfl (Ext.refl _) rfl)); intro A' hA'; simp only [Act.put, List.setIfInBounds_toArray, List.set_cons_zero, List.set_cons_succ] at hA'; have e := funext hA'; subst e; clear hA')
  refine Reg.step_det ?_; apply Exists.intro; refine And.intro ?_ ?_
  focus
    intro vs w' hw hf
    have hcon := rnum_u64 e.val w' v1 v2
    have HCON := Lib.hid hcon; clear hcon
    go_wp2_with fail
    refine HCON.out.mono ?_
    rintro e' wn ⟨rfl, hx⟩
    have HX := Lib.hid hx; clear hx
    go_wp2_with fail
    exact Reg.post_at rfl HX.out rfl
  intro A' hA'; simp only [Act.put, List.setIfInBounds_toArray, List.set_cons_zero, List.set_cons_succ] at hA'; have e := funext hA'; subst e; clear hA'
  repeat (refine Reg.step_det ?_; apply Exists.intro; refine And.intro ?_ ?_; (focus (intro vs w' hw hf; go_wp2_with fail; exact Reg.post_at rfl (Ext.refl _) rfl)); intro A' hA'; simp only [Act.put, List.setIfInBounds_toArray, List.set_cons_zero, List.set_cons_succ] at hA'; have e := funext hA'; subst e; clear hA')
  refine Reg.step_det ?_; apply Exists.intro; refine And.intro ?_ ?_
  focus
    intro vs w' hw hf
    have hcon := words_any e.list la lc w' (HM.out.ext hw).list HL.out hll
    have HCON := Lib.hid hcon; clear hcon
    go_wp2_with fail
    refine HCON.out.mono ?_
    rintro e' wn ⟨rfl, hx⟩
    have HX := Lib.hid hx; clear hx
    go_wp2_with fail
    exact Reg.post_at rfl HX.out rfl
  intro A' hA'; simp only [Act.put, List.setIfInBounds_toArray, List.set_cons_zero, List.set_cons_succ] at hA'; have e := funext hA'; subst e; clear hA'
  repeat (refine Reg.step_det ?_; apply Exists.intro; refine And.intro ?_ ?_; (focus (intro vs w' hw hf; go_wp2_with fail; exact Reg.post_at rfl (Ext.refl _) rfl)); intro A' hA'; simp only [Act.put, List.setIfInBounds_toArray, List.set_cons_zero, List.set_cons_succ] at hA'; have e := funext hA'; subst e; clear hA')
  refine Reg.step_det ?_; apply Exists.intro; refine And.intro ?_ ?_
  focus
    intro vs w' hw hf
    have hcon := ints_any e.key ka kc w' (HM.out.ext hw).key HK.out hkl
    have HCON := Lib.hid hcon; clear hcon
    go_wp2_with fail
    refine HCON.out.mono ?_
    rintro e' wn ⟨rfl, hx⟩
    have HX := Lib.hid hx; clear hx
    go_wp2_with fail
    exact Reg.post_at rfl HX.out rfl
  intro A' hA'; simp only [Act.put, List.setIfInBounds_toArray, List.set_cons_zero, List.set_cons_succ] at hA'; have e := funext hA'; subst e; clear hA'
  repeat (refine Reg.step_det ?_; apply Exists.intro; refine And.intro ?_ ?_; (focus (intro vs w' hw hf; go_wp2_with fail; exact Reg.post_at rfl (Ext.refl _) rfl)); intro A' hA'; simp only [Act.put, List.setIfInBounds_toArray, List.set_cons_zero, List.set_cons_succ] at hA'; have e := funext hA'; subst e; clear hA')
  intro vs w' hw hf
  have HV := Lib.hid hw; clear hw hf
  go_wp2_with fail
  go_ret
  exact ⟨ret_str (by rw [HE.out]; simp), HX0.out.trans HV.out⟩

set_option maxRecDepth 100000 in
set_option maxHeartbeats 2000000 in
theorem tcall_any (t o k a b c : Int) (w : World) (ht : Tx.i64 t) (ho : Tx.i64 o) (hk : Tx.i64 k) (ha : Tx.u64 a) (hb : Tx.u64 b) (hc : Tx.u64 c) :
    Calls Try.prog 10 #[.agg #[.int .i64 t, .int .i64 o, .int .i64 k, .int .u64 a, .int .u64 b, .int .u64 c]] w fun x w' => x = .returned (.string (St (Tx.callT t o k a b c))) ∧ Ext w w' := by
  obtain ⟨t1, t2⟩ := ht
  obtain ⟨o1, o2⟩ := ho
  obtain ⟨k1, k2⟩ := hk
  obtain ⟨a1, a2⟩ := ha
  obtain ⟨b1, b2⟩ := hb
  obtain ⟨c1, c2⟩ := hc
  have hbl := Blk.new w #[.int .i64 t, .int .i64 o, .int .i64 k, .int .u64 a, .int .u64 b, .int .u64 c] 31
  have hx0 := (Ext.refl w).alloc (.cells #[.int .i64 t, .int .i64 o, .int .i64 k, .int .u64 a, .int .u64 b, .int .u64 c] 31)
  go_enter Try.func10, Try.ntmps10
  go_upto_region 1 with (fail)
  generalize w.alloc (.cells #[.int .i64 t, .int .i64 o, .int .i64 k, .int .u64 a, .int .u64 b, .int .u64 c] 31) = W0 at *
  have HX0 := Lib.hid hx0; clear hx0
  have HB := Lib.hid hbl; clear hbl
  generalize w.heap.size = B at *
  have q0 := fun w' (hw : Ext W0 w') => (HB.out.ext hw).cell 0 (v := .int .i64 t) rfl
  have q1 := fun w' (hw : Ext W0 w') => (HB.out.ext hw).cell 1 (v := .int .i64 o) rfl
  have q2 := fun w' (hw : Ext W0 w') => (HB.out.ext hw).cell 2 (v := .int .i64 k) rfl
  have q3 := fun w' (hw : Ext W0 w') => (HB.out.ext hw).cell 3 (v := .int .u64 a) rfl
  have q4 := fun w' (hw : Ext W0 w') => (HB.out.ext hw).cell 4 (v := .int .u64 b) rfl
  have q5 := fun w' (hw : Ext W0 w') => (HB.out.ext hw).cell 5 (v := .int .u64 c) rfl
  have nt := numT_len t
  have no := numT_len o
  have nk := numT_len k
  have na := numT_len a
  have nb := numT_len b
  have nc := numT_len c
  refine Reg.wp_region_v [(19, 18)] Ext (by kernel_rfl) (by kernel_rfl) (fun _ _ _ => Ext.trans) (Ext.refl _).drew ?_
  repeat (refine Reg.step_det ?_; apply Exists.intro; refine And.intro ?_ ?_; (focus (intro vs w' hw hf; go_wp2_with fail; exact Reg.post_at rfl (Ext.refl _) rfl)); intro A' hA'; simp only [Act.put, List.setIfInBounds_toArray, List.set_cons_zero, List.set_cons_succ] at hA'; have e := funext hA'; subst e; clear hA')
  refine Reg.step_det ?_; apply Exists.intro; refine And.intro ?_ ?_
  focus
    intro vs w' hw hf
    have hcon := num_int_any t w' t1 t2
    have HCON := Lib.hid hcon; clear hcon
    go_wp2_with fail
    refine HCON.out.mono ?_
    rintro e' wn ⟨rfl, rfl⟩
    go_wp2_with fail
    exact Reg.post_at rfl (Ext.refl _) rfl
  intro A' hA'; simp only [Act.put, List.setIfInBounds_toArray, List.set_cons_zero, List.set_cons_succ] at hA'; have e := funext hA'; subst e; clear hA'
  repeat (refine Reg.step_det ?_; apply Exists.intro; refine And.intro ?_ ?_; (focus (intro vs w' hw hf; go_wp2_with fail; exact Reg.post_at rfl (Ext.refl _) rfl)); intro A' hA'; simp only [Act.put, List.setIfInBounds_toArray, List.set_cons_zero, List.set_cons_succ] at hA'; have e := funext hA'; subst e; clear hA')
  refine Reg.step_det ?_; apply Exists.intro; refine And.intro ?_ ?_
  focus
    intro vs w' hw hf
    have hcon := num_int_any o w' o1 o2
    have HCON := Lib.hid hcon; clear hcon
    go_wp2_with fail
    refine HCON.out.mono ?_
    rintro e' wn ⟨rfl, rfl⟩
    go_wp2_with fail
    exact Reg.post_at rfl (Ext.refl _) rfl
  intro A' hA'; simp only [Act.put, List.setIfInBounds_toArray, List.set_cons_zero, List.set_cons_succ] at hA'; have e := funext hA'; subst e; clear hA'
  repeat (refine Reg.step_det ?_; apply Exists.intro; refine And.intro ?_ ?_; (focus (intro vs w' hw hf; go_wp2_with fail; exact Reg.post_at rfl (Ext.refl _) rfl)); intro A' hA'; simp only [Act.put, List.setIfInBounds_toArray, List.set_cons_zero, List.set_cons_succ] at hA'; have e := funext hA'; subst e; clear hA')
  refine Reg.step_det ?_; apply Exists.intro; refine And.intro ?_ ?_
  focus
    intro vs w' hw hf
    have hcon := num_int_any k w' k1 k2
    have HCON := Lib.hid hcon; clear hcon
    go_wp2_with fail
    refine HCON.out.mono ?_
    rintro e' wn ⟨rfl, rfl⟩
    go_wp2_with fail
    exact Reg.post_at rfl (Ext.refl _) rfl
  intro A' hA'; simp only [Act.put, List.setIfInBounds_toArray, List.set_cons_zero, List.set_cons_succ] at hA'; have e := funext hA'; subst e; clear hA'
  repeat (refine Reg.step_det ?_; apply Exists.intro; refine And.intro ?_ ?_; (focus (intro vs w' hw hf; go_wp2_with fail; exact Reg.post_at rfl (Ext.refl _) rfl)); intro A' hA'; simp only [Act.put, List.setIfInBounds_toArray, List.set_cons_zero, List.set_cons_succ] at hA'; have e := funext hA'; subst e; clear hA')
  refine Reg.step_det ?_; apply Exists.intro; refine And.intro ?_ ?_
  focus
    intro vs w' hw hf
    have hcon := num_u64_any a w' a1 a2
    have HCON := Lib.hid hcon; clear hcon
    go_wp2_with fail
    refine HCON.out.mono ?_
    rintro e' wn ⟨rfl, rfl⟩
    go_wp2_with fail
    exact Reg.post_at rfl (Ext.refl _) rfl
  intro A' hA'; simp only [Act.put, List.setIfInBounds_toArray, List.set_cons_zero, List.set_cons_succ] at hA'; have e := funext hA'; subst e; clear hA'
  repeat (refine Reg.step_det ?_; apply Exists.intro; refine And.intro ?_ ?_; (focus (intro vs w' hw hf; go_wp2_with fail; exact Reg.post_at rfl (Ext.refl _) rfl)); intro A' hA'; simp only [Act.put, List.setIfInBounds_toArray, List.set_cons_zero, List.set_cons_succ] at hA'; have e := funext hA'; subst e; clear hA')
  refine Reg.step_det ?_; apply Exists.intro; refine And.intro ?_ ?_
  focus
    intro vs w' hw hf
    have hcon := num_u64_any b w' b1 b2
    have HCON := Lib.hid hcon; clear hcon
    go_wp2_with fail
    refine HCON.out.mono ?_
    rintro e' wn ⟨rfl, rfl⟩
    go_wp2_with fail
    exact Reg.post_at rfl (Ext.refl _) rfl
  intro A' hA'; simp only [Act.put, List.setIfInBounds_toArray, List.set_cons_zero, List.set_cons_succ] at hA'; have e := funext hA'; subst e; clear hA'
  repeat (refine Reg.step_det ?_; apply Exists.intro; refine And.intro ?_ ?_; (focus (intro vs w' hw hf; go_wp2_with fail; exact Reg.post_at rfl (Ext.refl _) rfl)); intro A' hA'; simp only [Act.put, List.setIfInBounds_toArray, List.set_cons_zero, List.set_cons_succ] at hA'; have e := funext hA'; subst e; clear hA')
  refine Reg.step_det ?_; apply Exists.intro; refine And.intro ?_ ?_
  focus
    intro vs w' hw hf
    have hcon := num_u64_any c w' c1 c2
    have HCON := Lib.hid hcon; clear hcon
    go_wp2_with fail
    refine HCON.out.mono ?_
    rintro e' wn ⟨rfl, rfl⟩
    go_wp2_with fail
    exact Reg.post_at rfl (Ext.refl _) rfl
  intro A' hA'; simp only [Act.put, List.setIfInBounds_toArray, List.set_cons_zero, List.set_cons_succ] at hA'; have e := funext hA'; subst e; clear hA'
  refine Reg.step_rel (IsWords [Tx.numT t, Tx.numT o, Tx.numT k, Tx.numT a, Tx.numT b, Tx.numT c]) (by decide) (fun v w1 w2 h hx => h.ext hx) ?_ ?_
  · intro vs w' hw hf
    have hnew := IsWords.new [Tx.numT t, Tx.numT o, Tx.numT k, Tx.numT a, Tx.numT b, Tx.numT c] w' _ rfl
    have HN := Lib.hid hnew; clear hnew
    go_wp2_with fail
    exact Reg.post_rel_at _ rfl ((Ext.refl _).alloc _) rfl HN.out
  intro A' hA'; simp only [Act.put, List.setIfInBounds_toArray, List.set_cons_zero, List.set_cons_succ] at hA'; have e := funext hA'; subst e; clear hA'
  refine Reg.step_det ?_; apply Exists.intro; refine And.intro ?_ ?_
  focus
    intro vs w' hw hf
    obtain ⟨g, h18, hg, hcc⟩ := hf _ (List.mem_cons_self ..) (by simp)
    have hcon := join_any [Tx.numT t, Tx.numT o, Tx.numT k, Tx.numT a, Tx.numT b, Tx.numT c] g 6 w' hcc hg (by simp) (by simp) (by simp only [Tx.jn, List.length_append, List.length_cons]; omega)
    simp only at h18
    have H18 := Lib.hid h18; clear h18
    have HC := Lib.hid hcon; clear hcon
    clear hf hcc
    simp only [H18.out]
    go_wp2_with fail
    refine HC.out.mono ?_
    rintro e' wn ⟨rfl, hx⟩
    have HX := Lib.hid hx; clear hx
    go_wp2_with fail
    exact Reg.post_at rfl HX.out rfl
  intro A' hA'; simp only [Act.put, List.setIfInBounds_toArray, List.set_cons_zero, List.set_cons_succ] at hA'; have e := funext hA'; subst e; clear hA'
  repeat (refine Reg.step_det ?_; apply Exists.intro; refine And.intro ?_ ?_; (focus (intro vs w' hw hf; go_wp2_with fail; exact Reg.post_at rfl (Ext.refl _) rfl)); intro A' hA'; simp only [Act.put, List.setIfInBounds_toArray, List.set_cons_zero, List.set_cons_succ] at hA'; have e := funext hA'; subst e; clear hA')
  intro vs w' hw hf
  have HV := Lib.hid hw; clear hw hf
  go_wp2_with fail
  go_ret
  exact ⟨rfl, HX0.out.trans HV.out⟩

set_option maxRecDepth 100000 in
set_option maxHeartbeats 2000000 in
theorem rcall_any (t o k a b c : Int) (w : World) (ht : Tx.i64 t) (ho : Tx.i64 o) (hk : Tx.i64 k) (ha : Tx.u64 a) (hb : Tx.u64 b) (hc : Tx.u64 c) :
    Calls Try.prog 11 #[.agg #[.int .i64 t, .int .i64 o, .int .i64 k, .int .u64 a, .int .u64 b, .int .u64 c]] w fun x w' => x = .returned (.string (St (Tx.callT t o k a b c))) ∧ Ext w w' := by
  obtain ⟨t1, t2⟩ := ht
  obtain ⟨o1, o2⟩ := ho
  obtain ⟨k1, k2⟩ := hk
  obtain ⟨a1, a2⟩ := ha
  obtain ⟨b1, b2⟩ := hb
  obtain ⟨c1, c2⟩ := hc
  have hbl := Blk.new w #[.int .i64 t, .int .i64 o, .int .i64 k, .int .u64 a, .int .u64 b, .int .u64 c] 31
  have hx0 := (Ext.refl w).alloc (.cells #[.int .i64 t, .int .i64 o, .int .i64 k, .int .u64 a, .int .u64 b, .int .u64 c] 31)
  go_enter Try.func11, Try.ntmps11
  go_upto_region 1 with (fail)
  generalize w.alloc (.cells #[.int .i64 t, .int .i64 o, .int .i64 k, .int .u64 a, .int .u64 b, .int .u64 c] 31) = W0 at *
  have HX0 := Lib.hid hx0; clear hx0
  have HB := Lib.hid hbl; clear hbl
  generalize w.heap.size = B at *
  have q0 := fun w' (hw : Ext W0 w') => (HB.out.ext hw).cell 0 (v := .int .i64 t) rfl
  have q1 := fun w' (hw : Ext W0 w') => (HB.out.ext hw).cell 1 (v := .int .i64 o) rfl
  have q2 := fun w' (hw : Ext W0 w') => (HB.out.ext hw).cell 2 (v := .int .i64 k) rfl
  have q3 := fun w' (hw : Ext W0 w') => (HB.out.ext hw).cell 3 (v := .int .u64 a) rfl
  have q4 := fun w' (hw : Ext W0 w') => (HB.out.ext hw).cell 4 (v := .int .u64 b) rfl
  have q5 := fun w' (hw : Ext W0 w') => (HB.out.ext hw).cell 5 (v := .int .u64 c) rfl
  have nt := numT_len t
  have no := numT_len o
  have nk := numT_len k
  have na := numT_len a
  have nb := numT_len b
  have nc := numT_len c
  refine Reg.wp_region_v [] Ext (by kernel_rfl) (by kernel_rfl) (fun _ _ _ => Ext.trans) (Ext.refl _).drew ?_
  repeat (refine Reg.step_det ?_; apply Exists.intro; refine And.intro ?_ ?_; (focus (intro vs w' hw hf; go_wp2_with fail; exact Reg.post_at rfl (Ext.refl _) rfl)); intro A' hA'; simp only [Act.put, List.setIfInBounds_toArray, List.set_cons_zero, List.set_cons_succ] at hA'; have e := funext hA'; subst e; clear hA')
  refine Reg.step_det ?_; apply Exists.intro; refine And.intro ?_ ?_
  focus
    intro vs w' hw hf
    have hcon := rint_any t w' t1 t2
    have HCON := Lib.hid hcon; clear hcon
    go_wp2_with fail
    refine HCON.out.mono ?_
    rintro e' wn ⟨rfl, hx⟩
    have HX := Lib.hid hx; clear hx
    go_wp2_with fail
    exact Reg.post_at rfl HX.out rfl
  intro A' hA'; simp only [Act.put, List.setIfInBounds_toArray, List.set_cons_zero, List.set_cons_succ] at hA'; have e := funext hA'; subst e; clear hA'
  repeat (refine Reg.step_det ?_; apply Exists.intro; refine And.intro ?_ ?_; (focus (intro vs w' hw hf; go_wp2_with fail; exact Reg.post_at rfl (Ext.refl _) rfl)); intro A' hA'; simp only [Act.put, List.setIfInBounds_toArray, List.set_cons_zero, List.set_cons_succ] at hA'; have e := funext hA'; subst e; clear hA')
  refine Reg.step_det ?_; apply Exists.intro; refine And.intro ?_ ?_
  focus
    intro vs w' hw hf
    have hcon := rint_any o w' o1 o2
    have HCON := Lib.hid hcon; clear hcon
    go_wp2_with fail
    refine HCON.out.mono ?_
    rintro e' wn ⟨rfl, hx⟩
    have HX := Lib.hid hx; clear hx
    go_wp2_with fail
    exact Reg.post_at rfl HX.out rfl
  intro A' hA'; simp only [Act.put, List.setIfInBounds_toArray, List.set_cons_zero, List.set_cons_succ] at hA'; have e := funext hA'; subst e; clear hA'
  repeat (refine Reg.step_det ?_; apply Exists.intro; refine And.intro ?_ ?_; (focus (intro vs w' hw hf; go_wp2_with fail; exact Reg.post_at rfl (Ext.refl _) rfl)); intro A' hA'; simp only [Act.put, List.setIfInBounds_toArray, List.set_cons_zero, List.set_cons_succ] at hA'; have e := funext hA'; subst e; clear hA')
  refine Reg.step_det ?_; apply Exists.intro; refine And.intro ?_ ?_
  focus
    intro vs w' hw hf
    have hcon := rint_any k w' k1 k2
    have HCON := Lib.hid hcon; clear hcon
    go_wp2_with fail
    refine HCON.out.mono ?_
    rintro e' wn ⟨rfl, hx⟩
    have HX := Lib.hid hx; clear hx
    go_wp2_with fail
    exact Reg.post_at rfl HX.out rfl
  intro A' hA'; simp only [Act.put, List.setIfInBounds_toArray, List.set_cons_zero, List.set_cons_succ] at hA'; have e := funext hA'; subst e; clear hA'
  repeat (refine Reg.step_det ?_; apply Exists.intro; refine And.intro ?_ ?_; (focus (intro vs w' hw hf; go_wp2_with fail; exact Reg.post_at rfl (Ext.refl _) rfl)); intro A' hA'; simp only [Act.put, List.setIfInBounds_toArray, List.set_cons_zero, List.set_cons_succ] at hA'; have e := funext hA'; subst e; clear hA')
  refine Reg.step_det ?_; apply Exists.intro; refine And.intro ?_ ?_
  focus
    intro vs w' hw hf
    have hcon := rnum_u64 a w' a1 a2
    have HCON := Lib.hid hcon; clear hcon
    go_wp2_with fail
    refine HCON.out.mono ?_
    rintro e' wn ⟨rfl, hx⟩
    have HX := Lib.hid hx; clear hx
    go_wp2_with fail
    exact Reg.post_at rfl HX.out rfl
  intro A' hA'; simp only [Act.put, List.setIfInBounds_toArray, List.set_cons_zero, List.set_cons_succ] at hA'; have e := funext hA'; subst e; clear hA'
  repeat (refine Reg.step_det ?_; apply Exists.intro; refine And.intro ?_ ?_; (focus (intro vs w' hw hf; go_wp2_with fail; exact Reg.post_at rfl (Ext.refl _) rfl)); intro A' hA'; simp only [Act.put, List.setIfInBounds_toArray, List.set_cons_zero, List.set_cons_succ] at hA'; have e := funext hA'; subst e; clear hA')
  refine Reg.step_det ?_; apply Exists.intro; refine And.intro ?_ ?_
  focus
    intro vs w' hw hf
    have hcon := rnum_u64 b w' b1 b2
    have HCON := Lib.hid hcon; clear hcon
    go_wp2_with fail
    refine HCON.out.mono ?_
    rintro e' wn ⟨rfl, hx⟩
    have HX := Lib.hid hx; clear hx
    go_wp2_with fail
    exact Reg.post_at rfl HX.out rfl
  intro A' hA'; simp only [Act.put, List.setIfInBounds_toArray, List.set_cons_zero, List.set_cons_succ] at hA'; have e := funext hA'; subst e; clear hA'
  repeat (refine Reg.step_det ?_; apply Exists.intro; refine And.intro ?_ ?_; (focus (intro vs w' hw hf; go_wp2_with fail; exact Reg.post_at rfl (Ext.refl _) rfl)); intro A' hA'; simp only [Act.put, List.setIfInBounds_toArray, List.set_cons_zero, List.set_cons_succ] at hA'; have e := funext hA'; subst e; clear hA')
  refine Reg.step_det ?_; apply Exists.intro; refine And.intro ?_ ?_
  focus
    intro vs w' hw hf
    have hcon := rnum_u64 c w' c1 c2
    have HCON := Lib.hid hcon; clear hcon
    go_wp2_with fail
    refine HCON.out.mono ?_
    rintro e' wn ⟨rfl, hx⟩
    have HX := Lib.hid hx; clear hx
    go_wp2_with fail
    exact Reg.post_at rfl HX.out rfl
  intro A' hA'; simp only [Act.put, List.setIfInBounds_toArray, List.set_cons_zero, List.set_cons_succ] at hA'; have e := funext hA'; subst e; clear hA'
  repeat (refine Reg.step_det ?_; apply Exists.intro; refine And.intro ?_ ?_; (focus (intro vs w' hw hf; go_wp2_with fail; exact Reg.post_at rfl (Ext.refl _) rfl)); intro A' hA'; simp only [Act.put, List.setIfInBounds_toArray, List.set_cons_zero, List.set_cons_succ] at hA'; have e := funext hA'; subst e; clear hA')
  intro vs w' hw hf
  have HV := Lib.hid hw; clear hw hf
  go_wp2_with fail
  go_ret
  exact ⟨ret_str (by simp [Tx.callT, Tx.jn]), HX0.out.trans HV.out⟩

end Go.Proofs.Ytkhagpnnkfglbaa
