/-
  TextReports, walked.
-/
import Derived.Test.YtkhagpnnkfglbaaTxRRep
import Derived.Test.YtkhagpnnkfglbaaTxThree
import Derived.Test.YtkhagpnnkfglbaaOpenRep
namespace Go.Proofs.Ytkhagpnnkfglbaa
open Go.RowKit

/-- An event's lists are short. -/
def short (p : Tx.Evt × EvM) : Prop := p.1.list.length ≤ 200 ∧ p.1.key.length ≤ 200

set_option maxRecDepth 100000 in
set_option maxHeartbeats 4000000 in
theorem reports_any (cs : List Tx.Cl) (es : List (Tx.Evt × EvM)) (r : Tx.Rep) (ca : Option Addr) (cc : Nat) (ea : Option Addr) (ec : Nat) (wa : Option Addr) (wn wc : Nat) (w : World)
    (hcs : IsCls w ca cs) (hok : ∀ c ∈ cs, c.ok) (hcl : cs.length ≤ 9223372036854775807) (hes : IsEvs w ea es) (hin : ∀ p ∈ es, EvIn p.1 p.2 w) (hel : es.length ≤ 9223372036854775807) (hr : r.ok) :
    Calls Try.prog 6 #[.slice ca cs.length cc, .agg #[.slice ea es.length ec, .slice wa wn wc, .int .i64 r.r, .int .i64 r.w, .int .i64 r.s, .int .i64 r.a, .int .i64 r.f, .int .i64 r.ticks, .int .i64 r.idle]] w
      fun x w' => x = .returned (.bool true) ∧ Ext w w' := by
  have hb := Blk.new w #[.slice ea es.length ec, .slice wa wn wc, .int .i64 r.r, .int .i64 r.w, .int .i64 r.s, .int .i64 r.a, .int .i64 r.f, .int .i64 r.ticks, .int .i64 r.idle] 49
  have hx0 := (Ext.refl w).alloc (.cells #[.slice ea es.length ec, .slice wa wn wc, .int .i64 r.r, .int .i64 r.w, .int .i64 r.s, .int .i64 r.a, .int .i64 r.f, .int .i64 r.ticks, .int .i64 r.idle] 49)
  have HCS := Lib.hid (hcs.ext hx0)
  have HES := Lib.hid (hes.ext hx0)
  have HOK := Lib.hid hok
  have HIN := Lib.hid hin
  have HR := Lib.hid hr
  clear hcs hes hok hin hr
  go_enter Try.func6, Try.ntmps6
  go_upto_region 1 with (fail)
  generalize w.alloc (.cells #[.slice ea es.length ec, .slice wa wn wc, .int .i64 r.r, .int .i64 r.w, .int .i64 r.s, .int .i64 r.a, .int .i64 r.f, .int .i64 r.ticks, .int .i64 r.idle] 49) = W0 at *
  have HX0 := Lib.hid hx0; clear hx0
  have HB := Lib.hid hb; clear hb
  have hlt0 := HB.out.lt
  generalize w.heap.size = B at *
  have q0 := HB.out.cell 0 (v := .slice ea es.length ec) rfl
  by_cases h200 : es.length ≤ 200
  · have hd : decide ((200 : Int) < es.length) = false := decide_eq_false (by omega)
    go_wp2_with fail
    clear hd
    go_loopw [14] (fun k wr => ∃ i : Nat, i ≤ es.length ∧ k = .int .i64 i ∧ Hid (∀ j, j < i → short (nthD evd es j)) ∧ wr = W0) (fun k _ => es.length - (intOf k).toNat)
    case atStart => exact ⟨0, Nat.zero_le _, rfl, Lib.hid (fun j hj => by omega), rfl⟩
    case round =>
      obtain ⟨i, hi, rfl, HS, rfl⟩ := hrel
      by_cases hlt : i < es.length
      · obtain ⟨b, off, rfl, e0, e1, e2, e3, e4, e5, e6, e7⟩ := HES.out.at hlt
        obtain ⟨-, -, ⟨l1, l2, -⟩, ⟨l3, l4, -⟩⟩ := HIN.out _ (nthD_mem evd es i hlt)
        by_cases h1 : (nthD evd es i).1.list.length ≤ 200
        · by_cases h2 : (nthD evd es i).1.key.length ≤ 200
          · have HS2 : Hid (∀ j, j < i + 1 → short (nthD evd es j)) := Lib.hid (fun j hj => by
              by_cases e : j = i
              · subst e; exact ⟨h1, h2⟩
              · exact HS.out j (by omega))
            generalize nthD evd es i = p at *
            go_wp2_with fail
            go_roundw
            case rel => exact ⟨i + 1, by omega, by go_num, HS2, trivial⟩
            case measure => simp [intOf]; omega
          · generalize nthD evd es i = p at *
            go_wp2_with fail
            refine (three_any _).mono ?_
            rintro e w1 ⟨rfl, hx⟩
            have HX := Lib.hid hx; clear hx
            go_wp2_with fail
            go_ret
            exact ⟨rfl, HX0.out.trans HX.out⟩
        · generalize nthD evd es i = p at *
          go_wp2_with fail
          refine (three_any _).mono ?_
          rintro e w1 ⟨rfl, hx⟩
          have HX := Lib.hid hx; clear hx
          go_wp2_with fail
          go_ret
          exact ⟨rfl, HX0.out.trans HX.out⟩
      · obtain rfl : i = es.length := by omega
        have HM : Hid (RepAt cs es ca ea wr) := Lib.hid ⟨HCS.out, HES.out, HOK.out, fun p hp => by
            obtain ⟨k, hk, hkp⟩ := List.getElem_of_mem hp
            have h1 := HS.out k hk
            rw [nthD_getElem evd es k hk] at hkp
            rw [hkp] at h1
            exact ⟨(HIN.out p hp).ok, by have := h1.1; omega, by have := h1.2; omega⟩, fun p hp => (HIN.out p hp).at_.ext HX0.out, hcl, h200⟩
        go_upto_region 9 with (fail)
        clear q0
        have q0 := fun w' (hw : Ext wr w') => (HB.out.ext hw).cell 0 (v := .slice ea es.length ec) rfl
        have q1 := fun w' (hw : Ext wr w') => (HB.out.ext hw).cell 1 (v := .slice wa wn wc) rfl
        have q2 := fun w' (hw : Ext wr w') => (HB.out.ext hw).cell 2 (v := .int .i64 r.r) rfl
        have q3 := fun w' (hw : Ext wr w') => (HB.out.ext hw).cell 3 (v := .int .i64 r.w) rfl
        have q4 := fun w' (hw : Ext wr w') => (HB.out.ext hw).cell 4 (v := .int .i64 r.s) rfl
        have q5 := fun w' (hw : Ext wr w') => (HB.out.ext hw).cell 5 (v := .int .i64 r.a) rfl
        have q6 := fun w' (hw : Ext wr w') => (HB.out.ext hw).cell 6 (v := .int .i64 r.f) rfl
        have q7 := fun w' (hw : Ext wr w') => (HB.out.ext hw).cell 7 (v := .int .i64 r.ticks) rfl
        have q8 := fun w' (hw : Ext wr w') => (HB.out.ext hw).cell 8 (v := .int .i64 r.idle) rfl
        have ht1 := fun w' (hw : Ext wr w') => treport_any cs es r ca cc ea ec wa wn wc w' (HM.out.ext hw) HR.out
        have ht2 := fun w' (hw : Ext wr w') => rreport_any cs es r ca cc ea ec wa wn wc w' (HM.out.ext hw) HR.out
        generalize Tx.repT cs (es.map (·.1)) r = T at ht1 ht2
        obtain ⟨rr, rw, rs, ra, rf, rt, ri⟩ := r
        simp only at ht1 ht2 q2 q3 q4 q5 q6 q7 q8 ⊢
        have HT1 := Lib.hid ht1
        have HT2 := Lib.hid ht2
        clear ht1 ht2 hlt hi HS HM HES HCS
        refine Reg.wp_region_v [] Ext (by kernel_rfl) (by kernel_rfl) (fun _ _ _ => Ext.trans) (Ext.refl _).drew ?_
        repeat (refine Reg.step_det ?_; apply Exists.intro; refine And.intro ?_ ?_; (focus (intro vs w' hw hf; go_wp2_with fail; exact Reg.post_at rfl (Ext.refl _) rfl)); intro A' hA'; simp only [Act.put, List.setIfInBounds_toArray, List.set_cons_zero, List.set_cons_succ] at hA'; have e := funext hA'; subst e; clear hA')
        refine Reg.step_det ?_; apply Exists.intro; refine And.intro ?_ ?_
        focus
          intro vs w' hw hf
          have hcon := HT1.out w' hw
          have HCON := Lib.hid hcon; clear hcon
          go_wp2_with fail
          refine HCON.out.mono ?_
          rintro e' wn ⟨rfl, hx⟩
          have HX := Lib.hid hx; clear hx
          go_wp2_with fail
          exact Reg.post_at rfl HX.out rfl
        intro A' hA'; simp only [Act.put, List.setIfInBounds_toArray, List.set_cons_zero, List.set_cons_succ] at hA'; have e := funext hA'; subst e; clear hA'
        repeat (refine Reg.step_det ?_; apply Exists.intro; refine And.intro ?_ ?_; (focus (intro vs w' hw hf; go_wp2_with fail; exact Reg.post_at rfl (Ext.refl _) rfl)); intro A' hA'; simp only [Act.put, List.setIfInBounds_toArray, List.set_cons_zero, List.set_cons_succ] at hA'; have e := funext hA'; subst e; clear hA')
        refine Reg.step_det ?_; apply Exists.intro; refine And.intro ?_ ?_
        focus
          intro vs w' hw hf
          have hcon := HT2.out w' hw
          have HCON := Lib.hid hcon; clear hcon
          go_wp2_with fail
          refine HCON.out.mono ?_
          rintro e' wn ⟨rfl, hx⟩
          have HX := Lib.hid hx; clear hx
          go_wp2_with fail
          exact Reg.post_at rfl HX.out rfl
        intro A' hA'; simp only [Act.put, List.setIfInBounds_toArray, List.set_cons_zero, List.set_cons_succ] at hA'; have e := funext hA'; subst e; clear hA'
        repeat (refine Reg.step_det ?_; apply Exists.intro; refine And.intro ?_ ?_; (focus (intro vs w' hw hf; go_wp2_with fail; exact Reg.post_at rfl (Ext.refl _) rfl)); intro A' hA'; simp only [Act.put, List.setIfInBounds_toArray, List.set_cons_zero, List.set_cons_succ] at hA'; have e := funext hA'; subst e; clear hA')
        refine Reg.step_det ?_; apply Exists.intro; refine And.intro ?_ ?_
        focus
          intro vs w' hw hf
          have hcon := three_any w'
          have HCON := Lib.hid hcon; clear hcon
          go_wp2_with fail
          refine HCON.out.mono ?_
          rintro e' wn ⟨rfl, hx⟩
          have HX := Lib.hid hx; clear hx
          go_wp2_with fail
          exact Reg.post_at rfl HX.out rfl
        intro A' hA'; simp only [Act.put, List.setIfInBounds_toArray, List.set_cons_zero, List.set_cons_succ] at hA'; have e := funext hA'; subst e; clear hA'
        repeat (refine Reg.step_det ?_; apply Exists.intro; refine And.intro ?_ ?_; (focus (intro vs w' hw hf; go_wp2_with fail; exact Reg.post_at rfl (Ext.refl _) rfl)); intro A' hA'; simp only [Act.put, List.setIfInBounds_toArray, List.set_cons_zero, List.set_cons_succ] at hA'; have e := funext hA'; subst e; clear hA')
        intro vs w' hw hf
        have HV := Lib.hid hw; clear hw hf
        go_wp2_with fail
        go_ret
        exact ⟨rfl, HX0.out.trans HV.out⟩
  · go_wp2_with fail
    refine (three_any _).mono ?_
    rintro e w1 ⟨rfl, hx⟩
    have HX := Lib.hid hx; clear hx
    go_wp2_with fail
    go_ret
    exact ⟨rfl, HX0.out.trans HX.out⟩

end Go.Proofs.Ytkhagpnnkfglbaa
