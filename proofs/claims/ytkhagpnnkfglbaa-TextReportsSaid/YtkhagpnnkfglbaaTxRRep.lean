/-
  The reference's Report, walked.
-/
import Derived.Test.YtkhagpnnkfglbaaTxRep
namespace Go.Proofs.Ytkhagpnnkfglbaa
open Go.RowKit

set_option maxRecDepth 100000 in
set_option maxHeartbeats 4000000 in
theorem rreport_any (cs : List Tx.Cl) (es : List (Tx.Evt × EvM)) (r : Tx.Rep) (ca : Option Addr) (cc : Nat) (ea : Option Addr) (ec : Nat) (wa : Option Addr) (wn wc : Nat) (w : World) (hm : RepAt cs es ca ea w) (hr : r.ok) :
    Calls Try.prog 16 #[.slice ca cs.length cc, .agg #[.slice ea es.length ec, .slice wa wn wc, .int .i64 r.r, .int .i64 r.w, .int .i64 r.s, .int .i64 r.a, .int .i64 r.f, .int .i64 r.ticks, .int .i64 r.idle]] w
      fun x w' => x = .returned (.string (St (Tx.repT cs (es.map (·.1)) r))) ∧ Ext w w' := by
  obtain ⟨⟨r1, r2⟩, ⟨w1, w2⟩, ⟨s1, s2⟩, ⟨a1, a2⟩, ⟨f1, f2⟩, ⟨t1, t2⟩, ⟨i1, i2⟩⟩ := hr
  have hcl := hm.clen
  have hel := hm.elen
  have hb := Blk.new w #[.slice ea es.length ec, .slice wa wn wc, .int .i64 r.r, .int .i64 r.w, .int .i64 r.s, .int .i64 r.a, .int .i64 r.f, .int .i64 r.ticks, .int .i64 r.idle] 49
  have hx0 := (Ext.refl w).alloc (.cells #[.slice ea es.length ec, .slice wa wn wc, .int .i64 r.r, .int .i64 r.w, .int .i64 r.s, .int .i64 r.a, .int .i64 r.f, .int .i64 r.ticks, .int .i64 r.idle] 49)
  have HM := Lib.hid (hm.ext hx0); clear hm
  go_enter Try.func16, Try.ntmps16
  go_upto_region 1 with (fail)
  generalize w.alloc (.cells #[.slice ea es.length ec, .slice wa wn wc, .int .i64 r.r, .int .i64 r.w, .int .i64 r.s, .int .i64 r.a, .int .i64 r.f, .int .i64 r.ticks, .int .i64 r.idle] 49) = W0 at *
  have HX0 := Lib.hid hx0; clear hx0
  have HB := Lib.hid hb; clear hb
  have hlt0 := HB.out.lt
  generalize w.heap.size = B at *
  have q0 := HB.out.cell 0 (v := .slice ea es.length ec) rfl
  have HW0 : Hid (Ext W0 W0) := Lib.hid (Ext.refl _)
  go_wp2_with fail
  simp only [lit_St]
  go_loopw [5, 12] (fun o k wr => ∃ i : Nat, i ≤ es.length ∧ k = .int .i64 i ∧ o = .string (St (Tx.linesT cs ((es.take i).map (·.1)))) ∧ Hid (Ext W0 wr)) (fun _ k _ => es.length - (intOf k).toNat)
  case atStart => exact ⟨0, Nat.zero_le _, rfl, rfl, HW0⟩
  case round =>
    obtain ⟨i, hi, rfl, rfl, HWi⟩ := hrel
    have HMi := Lib.hid (HM.out.ext HWi.out)
    have HBk := Lib.hid (HB.out.ext HWi.out)
    clear q0
    have q0 := HBk.out.cell 0 (v := .slice ea es.length ec) rfl
    have hll := lines_len (cs := cs) HMi.out.fit i
    by_cases hlt : i < es.length
    · obtain ⟨b, off, rfl, e0, e1, e2, e3, e4, e5, e6, e7⟩ := HMi.out.evs.at hlt
      have HLN := Lib.hid (lines_take cs es i hlt)
      have hfit := HMi.out.fit _ (nthD_mem evd es i hlt)
      have hat := HM.out.lists _ (nthD_mem evd es i hlt)
      generalize Tx.linesT cs ((es.take i).map (·.1)) = L at *
      generalize nthD evd es i = p at *
      obtain ⟨⟨call, inv, resp, steps, err, val, list, key⟩, ⟨la, lc, ka, kc⟩⟩ := p
      simp only at e0 e1 e2 e3 e4 e5 e6 e7
      have HFIT : Hid (EvFit ⟨call, inv, resp, steps, err, val, list, key⟩) := Lib.hid hfit
      have HAT : Hid (EvAt ⟨call, inv, resp, steps, err, val, list, key⟩ ⟨la, lc, ka, kc⟩ W0) := Lib.hid hat
      have hel2 := evT_len _ HFIT.out
      clear hfit hat
      have hb7 := Blk.new wr #[.int .i64 call, .int .i64 inv, .int .i64 resp, .int .i64 steps, .int .i64 err, .int .u64 val, .slice la list.length lc, .slice ka key.length kc] 29
      have hx7 := (Ext.refl wr).alloc (.cells #[.int .i64 call, .int .i64 inv, .int .i64 resp, .int .i64 steps, .int .i64 err, .int .u64 val, .slice la list.length lc, .slice ka key.length kc] 29)
      by_cases hth : 0 ≤ call ∧ call < (cs.length : Int)
      · obtain ⟨h0, h1⟩ := hth
        obtain ⟨k, rfl⟩ := Int.eq_ofNat_of_zero_le h0
        have hk : k < cs.length := by omega
        obtain ⟨b2, off2, rfl, c0, c1, c2, c3, c4, c5⟩ := HMi.out.calls.at hk
        obtain ⟨⟨o1, o2⟩, ⟨o3, o4⟩, ⟨o5, o6⟩, ⟨o7, o8⟩, ⟨o9, o10⟩, ⟨o11, o12⟩⟩ := HMi.out.cok _ (nthD_mem Tx.cl0 cs k hk)
        have HP := Lib.hid (Tx.preT_yes (cs := cs) (e := ⟨k, inv, resp, steps, err, val, list, key⟩) h0 h1)
        simp only [Int.toNat_natCast] at HP
        have hlc := clT_len (nthD Tx.cl0 cs k)
        generalize nthD Tx.cl0 cs k = q at *
        obtain ⟨ct, co, ck, cx, cy, cz⟩ := q
        simp only at c0 c1 c2 c3 c4 c5 o1 o2 o3 o4 o5 o6 o7 o8 o9 o10 o11 o12
        have d0 := hx7.cell c0
        have d1 := hx7.cell c1
        have d2 := hx7.cell c2
        have d3 := hx7.cell c3
        have d4 := hx7.cell c4
        have d5 := hx7.cell c5
        have g0 := hb7.cell 0 (v := .int .i64 (k : Int)) rfl
        clear c0 c1 c2 c3 c4 c5
        have HX7 := Lib.hid hx7; clear hx7
        have HB7 := Lib.hid hb7; clear hb7
        go_upto_region 7 with (fail)
        clear e0 e1 e2 e3 e4 e5 e6 e7
        generalize (wr.alloc (.cells #[.int .i64 (k : Int), .int .i64 inv, .int .i64 resp, .int .i64 steps, .int .i64 err, .int .u64 val, .slice la list.length lc, .slice ka key.length kc] 29)) = W7 at *
        go_wp2_with fail
        refine (rcall_any ct co ck cx cy cz W7 ⟨o1, o2⟩ ⟨o3, o4⟩ ⟨o5, o6⟩ ⟨o7, o8⟩ ⟨o9, o10⟩ ⟨o11, o12⟩).mono ?_
        rintro e w8 ⟨rfl, hx8⟩
        clear d0 d1 d2 d3 d4 d5 g0
        have HX8 := Lib.hid (HX7.out.trans hx8)
        have HB8 := Lib.hid (HB7.out.ext hx8)
        have HW8 := Lib.hid (HWi.out.trans HX8.out)
        clear hx8
        have HP2 : Hid (Tx.preT cs ⟨k, inv, resp, steps, err, val, list, key⟩ = Tx.callT ct co ck cx cy cz) := HP
        have hlc2 : (Tx.callT ct co ck cx cy cz).length ≤ 150 := hlc
        clear HP hlc
        have HLN2 : Hid (Tx.linesT cs ((es.take (i + 1)).map (·.1)) = L ++ Tx.callT ct co ck cx cy cz ++ (58 :: 32 :: (Tx.evT ⟨k, inv, resp, steps, err, val, list, key⟩ ++ [10]))) := Lib.hid (by
          rw [HLN.out]; unfold Tx.lineT; rw [HP2.out]; simp)
        generalize Tx.callT ct co ck cx cy cz = ctx at *
        have f0 := HB8.out.cell 0 rfl
        have f1 := HB8.out.cell 1 rfl
        have f2 := HB8.out.cell 2 rfl
        have f3 := HB8.out.cell 3 rfl
        have f4 := HB8.out.cell 4 rfl
        have f5 := HB8.out.cell 5 rfl
        have f6 := HB8.out.cell 6 rfl
        have f7 := HB8.out.cell 7 rfl
        have hs8 := HW8.out.size
        go_wp2_with fail
        refine (revent_any ⟨k, inv, resp, steps, err, val, list, key⟩ ⟨la, lc, ka, kc⟩ w8 HFIT.out (HAT.out.ext HW8.out)).mono ?_
        rintro e w10 ⟨rfl, hx10⟩
        clear f0 f1 f2 f3 f4 f5 f6 f7
        have HW10 := Lib.hid (HW8.out.trans hx10); clear hx10
        generalize Tx.evT ⟨k, inv, resp, steps, err, val, list, key⟩ = evx at *
        go_wp2_with fail
        go_roundw
        case rel => exact ⟨i + 1, by omega, by go_num, vs (by rw [HLN2.out]; try simp), HW10⟩
        case measure => simp [intOf]; omega
      · have hno : call < 0 ∨ (0 ≤ call ∧ (cs.length : Int) ≤ call) := by omega
        clear hth
        have HP := Lib.hid (Tx.preT_no (cs := cs) (e := ⟨call, inv, resp, steps, err, val, list, key⟩) (by show call < 0 ∨ (cs.length : Int) ≤ call; omega))
        have g0 := hb7.cell 0 (v := .int .i64 call) rfl
        have HX7 := Lib.hid hx7; clear hx7
        have HB7 := Lib.hid hb7; clear hb7
        have f0 := HB7.out.cell 0 rfl
        have f1 := HB7.out.cell 1 rfl
        have f2 := HB7.out.cell 2 rfl
        have f3 := HB7.out.cell 3 rfl
        have f4 := HB7.out.cell 4 rfl
        have f5 := HB7.out.cell 5 rfl
        have f6 := HB7.out.cell 6 rfl
        have f7 := HB7.out.cell 7 rfl
        have HW7 := Lib.hid (HWi.out.trans HX7.out)
        have HAT7 := Lib.hid (HAT.out.ext HW7.out)
        have HLN2 : Hid (Tx.linesT cs ((es.take (i + 1)).map (·.1)) = L ++ (58 :: 32 :: (Tx.evT ⟨call, inv, resp, steps, err, val, list, key⟩ ++ [10]))) := Lib.hid (by
          rw [HLN.out]; unfold Tx.lineT; rw [HP.out]; simp)
        rcases hno with h0 | ⟨h0, h1⟩
        all_goals
          go_upto_region 6 with (fail)
          clear e0 e1 e2 e3 e4 e5 e6 e7
          generalize (wr.alloc (.cells #[.int .i64 call, .int .i64 inv, .int .i64 resp, .int .i64 steps, .int .i64 err, .int .u64 val, .slice la list.length lc, .slice ka key.length kc] 29)) = W7 at *
          go_wp2_with fail
          refine (revent_any ⟨call, inv, resp, steps, err, val, list, key⟩ ⟨la, lc, ka, kc⟩ W7 HFIT.out HAT7.out).mono ?_
          rintro e w10 ⟨rfl, hx10⟩
          clear f0 f1 f2 f3 f4 f5 f6 f7 g0
          have HW10 := Lib.hid (HW7.out.trans hx10); clear hx10
          generalize Tx.evT ⟨call, inv, resp, steps, err, val, list, key⟩ = evx at *
          go_wp2_with fail
          go_roundw
          case rel => exact ⟨i + 1, by omega, by go_num, vs (by rw [HLN2.out]; try simp), HW10⟩
          case measure => simp [intOf]; omega
    · obtain rfl : i = es.length := by omega
      have HTK : Hid ((es.take es.length).map (·.1) = es.map (·.1)) := Lib.hid (by rw [List.take_length])
      generalize hLL : Tx.linesT cs ((es.take es.length).map (·.1)) = L at *
      have HLL := Lib.hid hLL; clear hLL
      clear q0
      have n1 := numT_len r.ticks
      have n2 := numT_len r.idle
      have n3 := numT_len r.r
      have n4 := numT_len r.w
      have n5 := numT_len r.s
      have n6 := numT_len r.a
      have n7 := numT_len r.f
      go_upto_region 10 with (fail)
      have q7 := fun w' (hw : Ext wr w') => (HBk.out.ext hw).cell 7 (v := .int .i64 r.ticks) rfl
      have q8 := fun w' (hw : Ext wr w') => (HBk.out.ext hw).cell 8 (v := .int .i64 r.idle) rfl
      refine Reg.wp_region_v [] Ext (by kernel_rfl) (by kernel_rfl) (fun _ _ _ => Ext.trans) (Ext.refl _).drew ?_
      repeat (refine Reg.step_det ?_; apply Exists.intro; refine And.intro ?_ ?_; (focus (intro vs w' hw hf; go_wp2_with fail; exact Reg.post_at rfl (Ext.refl _) rfl)); intro A' hA'; simp only [Act.put, List.setIfInBounds_toArray, List.set_cons_zero, List.set_cons_succ] at hA'; have e := funext hA'; subst e; clear hA')
      refine Reg.step_det ?_; apply Exists.intro; refine And.intro ?_ ?_
      focus
        intro vs w' hw hf
        have hcon := rint_any r.ticks w' t1 t2
        have HCON := Lib.hid hcon; clear hcon
        go_wp2_with fail
        refine HCON.out.mono ?_
        rintro e' wn ⟨rfl, hx⟩
        have HX := Lib.hid hx; clear hx
        go_wp2_with fail
        exact Reg.post_at rfl HX.out rfl
      intro A' hA'; simp only [Act.put, List.setIfInBounds_toArray, List.set_cons_zero, List.set_cons_succ] at hA'; have e := funext hA'; subst e; clear hA'
      repeat (refine Reg.step_det ?_; apply Exists.intro; refine And.intro ?_ ?_; (focus (intro vs w' hw hf; go_wp2_with fail; exact Reg.post_at rfl (Ext.refl _) rfl)); intro A' hA'; simp only [Act.put, List.setIfInBounds_toArray, List.set_cons_zero, List.set_cons_succ] at hA'; have e := funext hA'; subst e; clear hA')
      refine Reg.step_det ?_; apply Exists.intro; refine And.intro ?_ ?_
      focus
        intro vs w' hw hf
        have hcon := rint_any r.idle w' i1 i2
        have HCON := Lib.hid hcon; clear hcon
        go_wp2_with fail
        refine HCON.out.mono ?_
        rintro e' wn ⟨rfl, hx⟩
        have HX := Lib.hid hx; clear hx
        go_wp2_with fail
        exact Reg.post_at rfl HX.out rfl
      intro A' hA'; simp only [Act.put, List.setIfInBounds_toArray, List.set_cons_zero, List.set_cons_succ] at hA'; have e := funext hA'; subst e; clear hA'
      repeat (refine Reg.step_det ?_; apply Exists.intro; refine And.intro ?_ ?_; (focus (intro vs w' hw hf; go_wp2_with fail; exact Reg.post_at rfl (Ext.refl _) rfl)); intro A' hA'; simp only [Act.put, List.setIfInBounds_toArray, List.set_cons_zero, List.set_cons_succ] at hA'; have e := funext hA'; subst e; clear hA')
      intro vs w' hw hf
      have HV := Lib.hid hw; clear hw hf
      generalize w' = wq at *
      have HB9 := Lib.hid (HBk.out.ext HV.out)
      have HW9 := Lib.hid (HWi.out.trans HV.out)
      clear HV q7 q8
      have q2 := HB9.out.cell 2 (v := .int .i64 r.r) rfl
      have q3 := HB9.out.cell 3 (v := .int .i64 r.w) rfl
      have q4 := HB9.out.cell 4 (v := .int .i64 r.s) rfl
      have q5 := HB9.out.cell 5 (v := .int .i64 r.a) rfl
      have q6 := HB9.out.cell 6 (v := .int .i64 r.f) rfl
      have hb8 := Blk.new wq #[.int .i64 r.r, .int .i64 r.w, .int .i64 r.s, .int .i64 r.a, .int .i64 r.f] 47
      have hx8 := (Ext.refl wq).alloc (.cells #[.int .i64 r.r, .int .i64 r.w, .int .i64 r.s, .int .i64 r.a, .int .i64 r.f] 47)
      have HW11 := Lib.hid (HW9.out.trans hx8)
      have HB11 := Lib.hid hb8
      clear hx8 hb8
      go_upto_region 12 with (fail)
      generalize wq.alloc (.cells #[.int .i64 r.r, .int .i64 r.w, .int .i64 r.s, .int .i64 r.a, .int .i64 r.f] 47) = w11 at *
      clear q2 q3 q4 q5 q6
      have c0 := fun w' (hw : Ext w11 w') => (HB11.out.ext hw).cell 0 (v := .int .i64 r.r) rfl
      have c1 := fun w' (hw : Ext w11 w') => (HB11.out.ext hw).cell 1 (v := .int .i64 r.w) rfl
      have c2 := fun w' (hw : Ext w11 w') => (HB11.out.ext hw).cell 2 (v := .int .i64 r.s) rfl
      have c3 := fun w' (hw : Ext w11 w') => (HB11.out.ext hw).cell 3 (v := .int .i64 r.a) rfl
      have c4 := fun w' (hw : Ext w11 w') => (HB11.out.ext hw).cell 4 (v := .int .i64 r.f) rfl
      refine Reg.wp_region_v [] Ext (by kernel_rfl) (by kernel_rfl) (fun _ _ _ => Ext.trans) (Ext.refl _).drew ?_
      repeat (refine Reg.step_det ?_; apply Exists.intro; refine And.intro ?_ ?_; (focus (intro vs w' hw hf; go_wp2_with fail; exact Reg.post_at rfl (Ext.refl _) rfl)); intro A' hA'; simp only [Act.put, List.setIfInBounds_toArray, List.set_cons_zero, List.set_cons_succ] at hA'; have e := funext hA'; subst e; clear hA')
      refine Reg.step_det ?_; apply Exists.intro; refine And.intro ?_ ?_
      focus
        intro vs w' hw hf
        have hcon := rint_any r.r w' r1 r2
        have HCON := Lib.hid hcon; clear hcon
        go_wp2_with fail
        refine HCON.out.mono ?_
        rintro e' wn ⟨rfl, hx⟩
        have HX := Lib.hid hx; clear hx
        go_wp2_with fail
        exact Reg.post_at rfl HX.out rfl
      intro A' hA'; simp only [Act.put, List.setIfInBounds_toArray, List.set_cons_zero, List.set_cons_succ] at hA'; have e := funext hA'; subst e; clear hA'
      repeat (refine Reg.step_det ?_; apply Exists.intro; refine And.intro ?_ ?_; (focus (intro vs w' hw hf; go_wp2_with fail; exact Reg.post_at rfl (Ext.refl _) rfl)); intro A' hA'; simp only [Act.put, List.setIfInBounds_toArray, List.set_cons_zero, List.set_cons_succ] at hA'; have e := funext hA'; subst e; clear hA')
      refine Reg.step_det ?_; apply Exists.intro; refine And.intro ?_ ?_
      focus
        intro vs w' hw hf
        have hcon := rint_any r.w w' w1 w2
        have HCON := Lib.hid hcon; clear hcon
        go_wp2_with fail
        refine HCON.out.mono ?_
        rintro e' wn ⟨rfl, hx⟩
        have HX := Lib.hid hx; clear hx
        go_wp2_with fail
        exact Reg.post_at rfl HX.out rfl
      intro A' hA'; simp only [Act.put, List.setIfInBounds_toArray, List.set_cons_zero, List.set_cons_succ] at hA'; have e := funext hA'; subst e; clear hA'
      repeat (refine Reg.step_det ?_; apply Exists.intro; refine And.intro ?_ ?_; (focus (intro vs w' hw hf; go_wp2_with fail; exact Reg.post_at rfl (Ext.refl _) rfl)); intro A' hA'; simp only [Act.put, List.setIfInBounds_toArray, List.set_cons_zero, List.set_cons_succ] at hA'; have e := funext hA'; subst e; clear hA')
      refine Reg.step_det ?_; apply Exists.intro; refine And.intro ?_ ?_
      focus
        intro vs w' hw hf
        have hcon := rint_any r.s w' s1 s2
        have HCON := Lib.hid hcon; clear hcon
        go_wp2_with fail
        refine HCON.out.mono ?_
        rintro e' wn ⟨rfl, hx⟩
        have HX := Lib.hid hx; clear hx
        go_wp2_with fail
        exact Reg.post_at rfl HX.out rfl
      intro A' hA'; simp only [Act.put, List.setIfInBounds_toArray, List.set_cons_zero, List.set_cons_succ] at hA'; have e := funext hA'; subst e; clear hA'
      repeat (refine Reg.step_det ?_; apply Exists.intro; refine And.intro ?_ ?_; (focus (intro vs w' hw hf; go_wp2_with fail; exact Reg.post_at rfl (Ext.refl _) rfl)); intro A' hA'; simp only [Act.put, List.setIfInBounds_toArray, List.set_cons_zero, List.set_cons_succ] at hA'; have e := funext hA'; subst e; clear hA')
      refine Reg.step_det ?_; apply Exists.intro; refine And.intro ?_ ?_
      focus
        intro vs w' hw hf
        have hcon := rint_any r.a w' a1 a2
        have HCON := Lib.hid hcon; clear hcon
        go_wp2_with fail
        refine HCON.out.mono ?_
        rintro e' wn ⟨rfl, hx⟩
        have HX := Lib.hid hx; clear hx
        go_wp2_with fail
        exact Reg.post_at rfl HX.out rfl
      intro A' hA'; simp only [Act.put, List.setIfInBounds_toArray, List.set_cons_zero, List.set_cons_succ] at hA'; have e := funext hA'; subst e; clear hA'
      repeat (refine Reg.step_det ?_; apply Exists.intro; refine And.intro ?_ ?_; (focus (intro vs w' hw hf; go_wp2_with fail; exact Reg.post_at rfl (Ext.refl _) rfl)); intro A' hA'; simp only [Act.put, List.setIfInBounds_toArray, List.set_cons_zero, List.set_cons_succ] at hA'; have e := funext hA'; subst e; clear hA')
      refine Reg.step_det ?_; apply Exists.intro; refine And.intro ?_ ?_
      focus
        intro vs w' hw hf
        have hcon := rint_any r.f w' f1 f2
        have HCON := Lib.hid hcon; clear hcon
        go_wp2_with fail
        refine HCON.out.mono ?_
        rintro e' wn ⟨rfl, hx⟩
        have HX := Lib.hid hx; clear hx
        go_wp2_with fail
        exact Reg.post_at rfl HX.out rfl
      intro A' hA'; simp only [Act.put, List.setIfInBounds_toArray, List.set_cons_zero, List.set_cons_succ] at hA'; have e := funext hA'; subst e; clear hA'
      repeat (refine Reg.step_det ?_; apply Exists.intro; refine And.intro ?_ ?_; (focus (intro vs w' hw hf; go_wp2_with fail; exact Reg.post_at rfl (Ext.refl _) rfl)); intro A' hA'; simp only [Act.put, List.setIfInBounds_toArray, List.set_cons_zero, List.set_cons_succ] at hA'; have e := funext hA'; subst e; clear hA')
      intro vs w' hw hf
      have HV := Lib.hid hw; clear hw hf
      have HW12 := Lib.hid (HX0.out.trans (HW11.out.trans HV.out))
      clear HV c0 c1 c2 c3 c4
      go_wp2_with fail
      go_ret
      refine ⟨ret_str ?_, HW12.out⟩
      rw [← HTK.out]
      unfold Tx.repT
      rw [HLL.out]
      unfold Tx.countsT Tx.ticksT
      simp

end Go.Proofs.Ytkhagpnnkfglbaa
