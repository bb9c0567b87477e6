/-
  The law's PlanReads: which script any text is the plan of, or the first line that is wrong, and why.
-/
import Derived.Test.YtcfbcffmlinlaaaDoorJ12
import Derived.Test.YtcfbcffmlinlaaaDoorJ20
import Derived.Test.YtcfbcffmlinlaaaDoorJ14
import Derived.Test.YtcfbcffmlinlaaaDoorJ13
set_option linter.unusedVariables false
namespace Go.Proofs.YtcfbcffmlinlaaaDoor
open Go.RowKit

def rdS (x : Int × Int × Pl.St) : Scr := if x.1 = 0 then x.2.2.s else ⟨0, [], [], []⟩
theorem lies0 (w : World) : LiesAt ⟨0, [], [], []⟩ ⟨none, 0, none, 0, none, 0⟩ w := ⟨.inl rfl, .inl rfl, .inl rfl⟩

theorem RdPost.same {x : Int × Int × Pl.St} {w w' : World} {e : Ending} (h : RdPost x w e w') : Ext w w' ∧
    ∃ m : Lies, e = .returned (.tuple #[.agg #[.int .i64 (rdS x).n, .slice m.sa (rdS x).specs.length m.sc, .slice m.ca (rdS x).calls.length m.cc, .slice m.pa (rdS x).picks.length m.pc], .int .i64 x.1, .int .i64 x.2.1]) ∧ LiesAt (rdS x) m w' := by
  obtain ⟨hx, ⟨h0, -, rfl⟩ | ⟨h0, h1, m, rfl, hla, -⟩⟩ := h
  · refine ⟨hx, ⟨none, 0, none, 0, none, 0⟩, ?_, ?_⟩
    · unfold rdS; rw [if_neg h0]; rfl
    · unfold rdS; rw [if_neg h0]; exact lies0 _
  · refine ⟨hx, m, ?_, ?_⟩
    · unfold rdS; rw [if_pos h0, h0, h1]
    · unfold rdS; rw [if_pos h0]; exact hla
theorem RRdPost.same {x : Int × Int × Pl.St} {w w' : World} {e : Ending} (h : RRdPost x w e w') : Ext w w' ∧
    ∃ (m : Lies) (p : Int) (f : Bool), e = .returned (.agg #[.int .i64 (rdS x).n, .slice m.sa (rdS x).specs.length m.sc, .slice m.ca (rdS x).calls.length m.cc, .slice m.pa (rdS x).picks.length m.pc, .int .i64 p, .bool f, .int .i64 x.1, .int .i64 x.2.1]) ∧ LiesAt (rdS x) m w' := by
  obtain ⟨hx, ⟨h0, -, rfl⟩ | ⟨h0, h1, m, p, f, rfl, hla⟩⟩ := h
  · refine ⟨hx, ⟨none, 0, none, 0, none, 0⟩, 0, false, ?_, ?_⟩
    · unfold rdS; rw [if_neg h0]; rfl
    · unfold rdS; rw [if_neg h0]; exact lies0 _
  · refine ⟨hx, m, p, f, ?_, ?_⟩
    · unfold rdS; rw [if_pos h0, h0, h1]
    · unfold rdS; rw [if_pos h0]; exact hla
theorem rdS_fits (t : List UInt8) : Fits (rdS (Pl.readP t)) := by
  unfold rdS
  by_cases h0 : (Pl.readP t).1 = 0
  · rw [if_pos h0]
    obtain ⟨-, -, hok, -⟩ := Pl.read_back (e := (Pl.readP t).2.1) (r := (Pl.readP t).2.2) (t := t) (by rw [← h0])
    exact ok_fits hok
  · rw [if_neg h0]
    exact ⟨by decide, by decide, by decide, by decide⟩

set_option maxRecDepth 100000 in
set_option maxHeartbeats 4000000 in
theorem preads_any (t : List UInt8) (w : World) (hl : t.length ≤ 9223372036854775807) (hm : MaxAt w) :
    Calls Tryd.prog 4 #[.string (St t)] w fun e w' => e = .returned (.bool true) ∧ Ext w w' := by
  have HM := Lib.hid hm
  have HF := Lib.hid (four_any w hm)
  clear hm
  by_cases h4 : 4000 < t.length
  · have d4 : decide ((4000 : Int) < (t.length : Int)) = true := decide_eq_true (by omega)
    go_enter Tryd.func4, Tryd.ntmps4
    go_wp2_with fail
    refine HF.out.mono ?_
    rintro e w1 ⟨rfl, hx⟩
    have HX := Lib.hid hx; clear hx
    go_wp2_with fail
    refine bodyPost_ret (v := .bool true) (by simp [results, Tryd.results4, go_sem]) rfl ?_
    exact ⟨rfl, HX.out⟩
  · have d4 : decide ((4000 : Int) < (t.length : Int)) = false := decide_eq_false (by omega)
    have HR := Lib.hid (pread_any t w (by omega) HM.out)
    have HRR : Hid (∀ w', Calls Tryd.prog 14 #[.string (St t)] w' (RRdPost (Pl.readP t) w')) := Lib.hid (fun w' => rread_any t w' (by omega))
    have HFI := Lib.hid (rdS_fits t)
    have HR := Lib.hid (HR.out.mono fun e w' h => h.same)
    have HRR : Hid (∀ w', Calls Tryd.prog 14 #[.string (St t)] w' fun e w'' => Ext w' w'' ∧
        ∃ (m : Lies) (p : Int) (f : Bool), e = .returned (.agg #[.int .i64 (rdS (Pl.readP t)).n, .slice m.sa (rdS (Pl.readP t)).specs.length m.sc, .slice m.ca (rdS (Pl.readP t)).calls.length m.cc, .slice m.pa (rdS (Pl.readP t)).picks.length m.pc, .int .i64 p, .bool f, .int .i64 (Pl.readP t).1, .int .i64 (Pl.readP t).2.1]) ∧ LiesAt (rdS (Pl.readP t)) m w'') :=
      Lib.hid (fun w' => (HRR.out w').mono fun e w'' h => h.same)
    generalize rdS (Pl.readP t) = s at *
    generalize (Pl.readP t).1 = x1 at *
    generalize (Pl.readP t).2.1 = x2 at *
    go_enter Tryd.func4, Tryd.ntmps4
    go_wp2_with fail
    refine HR.out.mono ?_
    rintro e w1 ⟨hx, m, rfl, hla⟩
    obtain ⟨sa, sc, ca, cc, pa, pc⟩ := m
    simp only
    have hb := Blk.new w1 #[.int .i64 s.n, .slice sa s.specs.length sc, .slice ca s.calls.length cc, .slice pa s.picks.length pc] 26
    have hx2 := (Ext.refl w1).alloc (.cells #[.int .i64 s.n, .slice sa s.specs.length sc, .slice ca s.calls.length cc, .slice pa s.picks.length pc] 26)
    have HX2 := Lib.hid (hx.trans hx2)
    have HLA := Lib.hid (hla.ext hx2)
    have HB := Lib.hid hb
    clear hx hx2 hla hb HR HF
    go_wp2_with fail
    generalize w1.alloc (.cells #[.int .i64 s.n, .slice sa s.specs.length sc, .slice ca s.calls.length cc, .slice pa s.picks.length pc] 26) = W2 at *
    generalize w1.heap.size = T at *
    refine (HRR.out W2).mono ?_
    rintro e w3 ⟨hx3, ⟨sb, sd, cb, cd, pb, pd⟩, p, f, rfl, hlb⟩
    simp only
    have hb3 := Blk.new w3 #[.int .i64 s.n, .slice sb s.specs.length sd, .slice cb s.calls.length cd, .slice pb s.picks.length pd, .int .i64 p, .bool f, .int .i64 x1, .int .i64 x2] 40
    have hx4 := (Ext.refl w3).alloc (.cells #[.int .i64 s.n, .slice sb s.specs.length sd, .slice cb s.calls.length cd, .slice pb s.picks.length pd, .int .i64 p, .bool f, .int .i64 x1, .int .i64 x2] 40)
    have HX4 := Lib.hid (HX2.out.trans (hx3.trans hx4))
    have HLA4 := Lib.hid ((HLA.out.ext hx3).ext hx4)
    have HLB4 := Lib.hid (hlb.ext hx4)
    have HB4 := Lib.hid ((HB.out.ext hx3).ext hx4)
    have HB3 := Lib.hid hb3
    have HM4 := Lib.hid (HM.out.ext HX4.out)
    clear hb3 hx3 hx4 hlb HRR HLA HB HX2
    go_wp2_with fail
    generalize w3.alloc (.cells #[.int .i64 s.n, .slice sb s.specs.length sd, .slice cb s.calls.length cd, .slice pb s.picks.length pd, .int .i64 p, .bool f, .int .i64 x1, .int .i64 x2] 40) = Wb at *
    generalize w3.heap.size = U at *
    have c0 := fun w' (hw : Ext Wb w') => (HB4.out.ext hw).cell 0 (v := .int .i64 s.n) rfl
    have c1 := fun w' (hw : Ext Wb w') => (HB4.out.ext hw).cell 1 (v := .slice sa s.specs.length sc) rfl
    have c2 := fun w' (hw : Ext Wb w') => (HB4.out.ext hw).cell 2 (v := .slice ca s.calls.length cc) rfl
    have c3 := fun w' (hw : Ext Wb w') => (HB4.out.ext hw).cell 3 (v := .slice pa s.picks.length pc) rfl
    have e0 := fun w' (hw : Ext Wb w') => (HB3.out.ext hw).cell 0 (v := .int .i64 s.n) rfl
    have e1 := fun w' (hw : Ext Wb w') => (HB3.out.ext hw).cell 1 (v := .slice sb s.specs.length sd) rfl
    have e2 := fun w' (hw : Ext Wb w') => (HB3.out.ext hw).cell 2 (v := .slice cb s.calls.length cd) rfl
    have e3 := fun w' (hw : Ext Wb w') => (HB3.out.ext hw).cell 3 (v := .slice pb s.picks.length pd) rfl
    have e6 := fun w' (hw : Ext Wb w') => (HB3.out.ext hw).cell 6 (v := .int .i64 x1) rfl
    have e7 := fun w' (hw : Ext Wb w') => (HB3.out.ext hw).cell 7 (v := .int .i64 x2) rfl
    clear HB4 HB3
    refine Reg.wp_region_v [] Ext (by kernel_rfl) (by kernel_rfl) (fun _ _ _ => Ext.trans) (Ext.refl _).drew ?_
    repeat (refine Reg.step_det ?_; apply Exists.intro; refine And.intro ?_ ?_; (focus (intro vs w' hw hf; go_wp2_with fail; exact Reg.post_at rfl (Ext.refl _) rfl)); intro A' hA'; simp only [Act.put, List.setIfInBounds_toArray, List.set_cons_zero, List.set_cons_succ] at hA'; have e := funext hA'; subst e; clear hA')
    refine Reg.step_det ?_; apply Exists.intro; refine And.intro ?_ ?_
    focus
      intro vs w' hw hf
      have hcon := ref_any s ⟨sa, sc, ca, cc, pa, pc⟩ w'
      have HCON := Lib.hid hcon; clear hcon
      go_wp2_with fail
      refine HCON.out.mono ?_
      rintro e' wn ⟨rfl, hx⟩
      have HX := Lib.hid hx; clear hx
      go_wp2_with fail
      exact Reg.post_at rfl HX.out rfl
    intro A' hA'; simp only [Act.put, List.setIfInBounds_toArray, List.set_cons_zero, List.set_cons_succ] at hA'; have e := funext hA'; subst e; clear hA'
    repeat (refine Reg.step_det ?_; apply Exists.intro; refine And.intro ?_ ?_; (focus (intro vs w' hw hf; go_wp2_with fail; exact Reg.post_at rfl (Ext.refl _) rfl)); intro A' hA'; simp only [Act.put, List.setIfInBounds_toArray, List.set_cons_zero, List.set_cons_succ] at hA'; have e := funext hA'; subst e; clear hA')
    refine Reg.step_det ?_; apply Exists.intro; refine And.intro ?_ ?_
    focus
      intro vs w' hw hf
      have hcon := same_any s ⟨sa, sc, ca, cc, pa, pc⟩ ⟨sb, sd, cb, cd, pb, pd⟩ w' HFI.out (HLA4.out.ext hw) (HLB4.out.ext hw)
      have HCON := Lib.hid hcon; clear hcon
      go_wp2_with fail
      refine HCON.out.mono ?_
      rintro e' wn ⟨rfl, hx⟩
      have HX := Lib.hid hx; clear hx
      go_wp2_with fail
      exact Reg.post_at rfl HX.out rfl
    intro A' hA'; simp only [Act.put, List.setIfInBounds_toArray, List.set_cons_zero, List.set_cons_succ] at hA'; have e := funext hA'; subst e; clear hA'
    repeat (refine Reg.step_det ?_; apply Exists.intro; refine And.intro ?_ ?_; (focus (intro vs w' hw hf; go_wp2_with fail; exact Reg.post_at rfl (Ext.refl _) rfl)); intro A' hA'; simp only [Act.put, List.setIfInBounds_toArray, List.set_cons_zero, List.set_cons_succ] at hA'; have e := funext hA'; subst e; clear hA')
    refine Reg.step_det ?_; apply Exists.intro; refine And.intro ?_ ?_
    focus
      intro vs w' hw hf
      have hcon := four_any w' (HM4.out.ext hw)
      have HCON := Lib.hid hcon; clear hcon
      go_wp2_with fail
      refine HCON.out.mono ?_
      rintro e' wn ⟨rfl, hx⟩
      have HX := Lib.hid hx; clear hx
      go_wp2_with fail
      exact Reg.post_at rfl HX.out rfl
    intro A' hA'; simp only [Act.put, List.setIfInBounds_toArray, List.set_cons_zero, List.set_cons_succ] at hA'; have e := funext hA'; subst e; clear hA'
    repeat (refine Reg.step_det ?_; apply Exists.intro; refine And.intro ?_ ?_; (focus (intro vs w' hw hf; go_wp2_with fail; exact Reg.post_at rfl (Ext.refl _) rfl)); intro A' hA'; simp only [Act.put, List.setIfInBounds_toArray, List.set_cons_zero, List.set_cons_succ] at hA'; have e := funext hA'; subst e; clear hA')
    intro vs w' hw hf
    have HV := Lib.hid hw; clear hw hf
    have HW6 := Lib.hid (HX4.out.trans HV.out)
    go_wp2_with fail
    refine bodyPost_ret (v := .bool true) (by simp [results, Tryd.results4, go_sem]) rfl ?_
    exact ⟨rfl, HW6.out⟩

end Go.Proofs.YtcfbcffmlinlaaaDoor
