/-
  text's reader: the next byte; a byte that is taken, or must come.
-/
import Derived.Test.YtkhagpnnkfglbaaStr
import Derived.Test.YtkhagpnnkfglbaaTxPure
import Derived.Test.YtkhagpnnkfglbaaBlks
import Derived.Test.YtkhagpnnkfglbaaReg
import Derived.Test.YtkhagpnnkfglbaaChecked
namespace Go.Proofs.Ytkhagpnnkfglbaa
open Go.RowKit

/-- The reader at R: the line s, and how far it has come. -/
def RdAt (w : World) (R : Nat) (s : List UInt8) (r : Tx.Rd) : Prop :=
  ∃ k : Nat, k ≤ s.length ∧ r.rest = s.drop k ∧ Blk w R #[.string (St s), .int .i64 k, .bool r.bad] 61
theorem RdAt.ext {w w' : World} {R : Nat} {s : List UInt8} {r : Tx.Rd} (h : RdAt w R s r) (he : Ext w w') : RdAt w' R s r := by
  obtain ⟨k, h1, h2, h3⟩ := h
  exact ⟨k, h1, h2, h3.ext he⟩
theorem RdAt.lt {w : World} {R : Nat} {s : List UInt8} {r : Tx.Rd} (h : RdAt w R s r) : R < w.heap.size := by
  obtain ⟨k, h1, h2, h3⟩ := h
  exact h3.lt

def hdv : List UInt8 → Int
  | [] => 0
  | c :: _ => c.toNat
theorem hdv_drop (s : List UInt8) (k : Nat) (h : k < s.length) : hdv (s.drop k) = s[k].toNat := by
  rw [List.drop_eq_getElem_cons h]; rfl

set_option maxHeartbeats 400000 in
theorem next_any (w : World) (R : Nat) (s : List UInt8) (r : Tx.Rd) (h : RdAt w R s r) (hs : s.length ≤ 1000000) :
    Calls Try.prog 44 #[.pointer (some ⟨R, 0, none⟩)] w fun e w' => e = .returned (.int .u8 (hdv r.rest)) ∧ Ext w w' := by
  obtain ⟨k, hk, hr, hb⟩ := h
  have c0 := hb.cell 0 rfl
  have c1 := hb.cell 1 rfl
  clear hb
  by_cases hlt : k < s.length
  · have HV := Lib.hid (hdv_drop s k hlt)
    have HR := Lib.hid hr; clear hr
    go_enter Try.func44, Try.ntmps44
    go_wp2
    go_quiet (fail)
    go_wp2
    go_quiet (fail)
    go_wp2
    go_ret
    exact ⟨by rw [HR.out, HV.out]; rfl, ((Ext.refl _).drewN _).drewN _⟩
  · have HR : Hid (hdv r.rest = 0) := Lib.hid (by rw [hr, List.drop_eq_nil_iff.2 (by omega)]; rfl)
    clear hr
    go_enter Try.func44, Try.ntmps44
    go_wp2
    go_quiet (fail)
    go_wp2
    go_ret
    exact ⟨by rw [HR.out]; rfl, (Ext.refl _).drewN _⟩

/-- What a call of the reader's leaves. -/
def RdPost (w : World) (R : Nat) (s : List UInt8) (r' : Tx.Rd) (v : Value) (e : Ending) (w' : World) : Prop := e = .returned v ∧ RdAt w' R s r' ∧ Keep R w w'

theorem take_cases (b : UInt8) (r : Tx.Rd) : ((Tx.takeF b r).1 = true ∧ r.bad = false ∧ ∃ t, r.rest = b :: t ∧ (Tx.takeF b r).2 = ⟨t, false⟩) ∨
    (Tx.takeF b r = (false, r) ∧ (r.bad = true ∨ (r.bad = false ∧ r.rest = []) ∨ (r.bad = false ∧ ∃ c t, r.rest = c :: t ∧ c ≠ b))) := by
  cases r with
  | mk rest bad =>
    cases bad with
    | true => exact .inr ⟨rfl, .inl rfl⟩
    | false =>
      cases rest with
      | nil => exact .inr ⟨rfl, .inr (.inl ⟨rfl, rfl⟩)⟩
      | cons c t =>
        by_cases h : c = b
        · subst h
          left
          rw [Tx.takeF_yes]
          exact ⟨rfl, rfl, t, rfl, rfl⟩
        · right
          exact ⟨Tx.takeF_no (by simp [h]), .inr (.inr ⟨rfl, c, t, rfl, h⟩)⟩

theorem toNat_ne {a b : UInt8} (h : a ≠ b) : (a.toNat : Int) ≠ b.toNat := fun e => h (UInt8.toNat_inj.1 (by omega))

set_option maxRecDepth 100000 in
set_option maxHeartbeats 1000000 in
theorem take_any (c : Int) (b : UInt8) (w : World) (R : Nat) (s : List UInt8) (r : Tx.Rd) (hc : c = b.toNat) (h : RdAt w R s r) (hs : s.length ≤ 1000000) :
    Calls Try.prog 42 #[.pointer (some ⟨R, 0, none⟩), .int .u8 c] w (RdPost w R s (Tx.takeF b r).2 (.bool (Tx.takeF b r).1)) := by
  have hn := fun w' (hw : Ext w w') => next_any w' R s r (h.ext hw) hs
  have HN := Lib.hid hn; clear hn
  have hb0 := b.toNat_lt
  have hR := h.lt
  obtain ⟨k, hk, hr, hb⟩ := h
  have c0 := fun w' (hw : Ext w w') => (hb.ext hw).cell 0 (v := .string (St s)) rfl
  have c1 := fun w' (hw : Ext w w') => (hb.ext hw).cell 1 (v := .int .i64 k) rfl
  have c2 := fun w' (hw : Ext w w') => (hb.ext hw).cell 2 (v := .bool r.bad) rfl
  have HB := Lib.hid hb; clear hb
  rcases take_cases b r with ⟨h1, hbad, t, hrest, h2⟩ | ⟨h1, hcase⟩
  · have hv : hdv r.rest = c := by rw [hrest, hc]; rfl
    have hkl : k < s.length := by
      rcases Nat.lt_or_ge k s.length with h | h
      · exact h
      · rw [hrest, List.drop_eq_nil_iff.2 h] at hr; cases hr
    have HT : Hid (t = s.drop (k + 1)) := Lib.hid (by
      rw [hrest, List.drop_eq_getElem_cons hkl] at hr
      exact (List.cons.inj hr).2)
    have hne : (c != c) = false := by simp
    have H1 := Lib.hid h1
    have H2 := Lib.hid h2
    rw [hv] at HN
    rw [hbad] at c2 HB
    clear h1 h2 hr hrest hv hc hbad
    go_enter Try.func42, Try.ntmps42
    go_upto_region 1 with (fail)
    refine Reg.wp_region_v [] Ext (by kernel_rfl) (by kernel_rfl) (fun _ _ _ => Ext.trans) (Ext.refl _).drew ?_
    repeat (refine Reg.step_det ?_; apply Exists.intro; refine And.intro ?_ ?_; (focus (intro vs w' hw hf; go_wp2_with fail; exact Reg.post_at rfl (Ext.refl _) rfl)); intro A' hA'; simp only [Act.put, List.setIfInBounds_toArray, List.set_cons_zero, List.set_cons_succ] at hA'; have e := funext hA'; subst e; clear hA')
    refine Reg.step_det ?_; apply Exists.intro; refine And.intro ?_ ?_
    focus
      intro vs w' hw hf
      have hcon := HN.out w' hw
      have HCON := Lib.hid hcon; clear hcon
      go_wp2_with fail
      refine HCON.out.mono ?_
      rintro e' wn ⟨rfl, hx⟩
      have HX := Lib.hid hx; clear hx
      go_wp2_with fail
      exact Reg.post_at rfl HX.out rfl
    intro A' hA'; simp only [Act.put, List.setIfInBounds_toArray, List.set_cons_zero, List.set_cons_succ] at hA'; have e := funext hA'; subst e; clear hA'
    repeat (refine Reg.step_det ?_; apply Exists.intro; refine And.intro ?_ ?_; (focus (intro vs w' hw hf; go_wp2_with fail; exact Reg.post_at rfl (Ext.refl _) rfl)); intro A' hA'; simp only [Act.put, List.setIfInBounds_toArray, List.set_cons_zero, List.set_cons_succ] at hA'; have e := funext hA'; subst e; clear hA')
    intro vs w1 hw hf
    have d1 := c1 w1 hw
    have HB1 := Lib.hid (HB.out.ext hw)
    have f1 := HB1.out.fz 1
    have HK := Lib.hid (Keep.of_ext (R := R) hw)
    clear c0 c1 c2 hf HN hw
    go_wp2_with fail
    go_ret
    refine ⟨by rw [H1.out]; rfl, ?_, HK.out.trans (keep_set R 1 w1 _)⟩
    rw [H2.out]
    refine ⟨k + 1, by omega, HT.out, ?_⟩
    have := HB1.out.set 1 (.int .i64 ((k : Int) + 1))
    exact this
  · have H1 := Lib.hid h1
    have HR := Lib.hid hr
    have fin : ∀ w' : World, Ext w w' → RdPost w R s (Tx.takeF b r).2 (.bool (Tx.takeF b r).1) (.returned (.bool false)) w' := fun w' hx => by
      rw [H1.out]
      exact ⟨rfl, ⟨k, hk, HR.out, HB.out.ext hx⟩, Keep.of_ext hx⟩
    have FIN := Lib.hid fin; clear fin
    rcases hcase with hbad | ⟨hbad, hrest⟩ | ⟨hbad, d, t, hrest, hne⟩
    · rw [hbad] at c2
      clear h1 hr hbad hc
      go_enter Try.func42, Try.ntmps42
      go_upto_region 1 with (fail)
      refine Reg.wp_region_v [] Ext (by kernel_rfl) (by kernel_rfl) (fun _ _ _ => Ext.trans) (Ext.refl _).drew ?_
      repeat (refine Reg.step_det ?_; apply Exists.intro; refine And.intro ?_ ?_; (focus (intro vs w' hw hf; go_wp2_with fail; exact Reg.post_at rfl (Ext.refl _) rfl)); intro A' hA'; simp only [Act.put, List.setIfInBounds_toArray, List.set_cons_zero, List.set_cons_succ] at hA'; have e := funext hA'; subst e; clear hA')
      intro vs w1 hw hf
      clear c0 c1 c2 hf HN
      go_wp2_with fail
      go_ret
      exact FIN.out w1 hw
    · have hkl : ¬ k < s.length := fun h => by
        rw [hrest] at hr
        exact absurd (List.drop_eq_nil_iff.1 hr.symm) (by omega)
      rw [hrest] at HN
      rw [hbad] at c2
      have HN : Hid (∀ (w' : World), Ext w w' → Calls Try.prog 44 #[.pointer (some ⟨R, 0, none⟩)] w' fun e w'' => e = .returned (.int .u8 0) ∧ Ext w' w'') := HN
      have hge : decide ((s.length : Int) ≤ (k : Int)) = true := by simp; omega
      by_cases h0 : c = 0
      · have hne : ((0 : Int) != c) = false := by rw [h0]; rfl
        clear h1 hr hrest hbad hc h0
        go_enter Try.func42, Try.ntmps42
        go_upto_region 1 with (fail)
        refine Reg.wp_region_v [] Ext (by kernel_rfl) (by kernel_rfl) (fun _ _ _ => Ext.trans) (Ext.refl _).drew ?_
        repeat (refine Reg.step_det ?_; apply Exists.intro; refine And.intro ?_ ?_; (focus (intro vs w' hw hf; go_wp2_with fail; exact Reg.post_at rfl (Ext.refl _) rfl)); intro A' hA'; simp only [Act.put, List.setIfInBounds_toArray, List.set_cons_zero, List.set_cons_succ] at hA'; have e := funext hA'; subst e; clear hA')
        refine Reg.step_det ?_; apply Exists.intro; refine And.intro ?_ ?_
        focus
          intro vs w' hw hf
          have hcon := HN.out w' hw
          have HCON := Lib.hid hcon; clear hcon
          go_wp2_with fail
          refine HCON.out.mono ?_
          rintro e' wn ⟨rfl, hx⟩
          have HX := Lib.hid hx; clear hx
          go_wp2_with fail
          exact Reg.post_at rfl HX.out rfl
        intro A' hA'; simp only [Act.put, List.setIfInBounds_toArray, List.set_cons_zero, List.set_cons_succ] at hA'; have e := funext hA'; subst e; clear hA'
        repeat (refine Reg.step_det ?_; apply Exists.intro; refine And.intro ?_ ?_; (focus (intro vs w' hw hf; go_wp2_with fail; exact Reg.post_at rfl (Ext.refl _) rfl)); intro A' hA'; simp only [Act.put, List.setIfInBounds_toArray, List.set_cons_zero, List.set_cons_succ] at hA'; have e := funext hA'; subst e; clear hA')
        intro vs w1 hw hf
        clear c0 c1 c2 hf HN
        go_wp2_with fail
        go_ret
        exact FIN.out w1 hw
      · have hne : ((0 : Int) != c) = true := by rw [bne_iff_ne]; omega
        clear h1 hr hrest hbad hc h0
        go_enter Try.func42, Try.ntmps42
        go_upto_region 1 with (fail)
        refine Reg.wp_region_v [] Ext (by kernel_rfl) (by kernel_rfl) (fun _ _ _ => Ext.trans) (Ext.refl _).drew ?_
        repeat (refine Reg.step_det ?_; apply Exists.intro; refine And.intro ?_ ?_; (focus (intro vs w' hw hf; go_wp2_with fail; exact Reg.post_at rfl (Ext.refl _) rfl)); intro A' hA'; simp only [Act.put, List.setIfInBounds_toArray, List.set_cons_zero, List.set_cons_succ] at hA'; have e := funext hA'; subst e; clear hA')
        refine Reg.step_det ?_; apply Exists.intro; refine And.intro ?_ ?_
        focus
          intro vs w' hw hf
          have hcon := HN.out w' hw
          have HCON := Lib.hid hcon; clear hcon
          go_wp2_with fail
          refine HCON.out.mono ?_
          rintro e' wn ⟨rfl, hx⟩
          have HX := Lib.hid hx; clear hx
          go_wp2_with fail
          exact Reg.post_at rfl HX.out rfl
        intro A' hA'; simp only [Act.put, List.setIfInBounds_toArray, List.set_cons_zero, List.set_cons_succ] at hA'; have e := funext hA'; subst e; clear hA'
        repeat (refine Reg.step_det ?_; apply Exists.intro; refine And.intro ?_ ?_; (focus (intro vs w' hw hf; go_wp2_with fail; exact Reg.post_at rfl (Ext.refl _) rfl)); intro A' hA'; simp only [Act.put, List.setIfInBounds_toArray, List.set_cons_zero, List.set_cons_succ] at hA'; have e := funext hA'; subst e; clear hA')
        intro vs w1 hw hf
        clear c0 c1 c2 hf HN
        go_wp2_with fail
        go_ret
        exact FIN.out w1 hw
    · have hv : hdv r.rest = d.toNat := by rw [hrest]; rfl
      have hne' : ((d.toNat : Int) != c) = true := by rw [bne_iff_ne, hc]; exact toNat_ne hne
      rw [hv] at HN
      rw [hbad] at c2
      clear h1 hr hrest hbad hc hv hne
      generalize (d.toNat : Int) = x at *
      go_enter Try.func42, Try.ntmps42
      go_upto_region 1 with (fail)
      refine Reg.wp_region_v [] Ext (by kernel_rfl) (by kernel_rfl) (fun _ _ _ => Ext.trans) (Ext.refl _).drew ?_
      repeat (refine Reg.step_det ?_; apply Exists.intro; refine And.intro ?_ ?_; (focus (intro vs w' hw hf; go_wp2_with fail; exact Reg.post_at rfl (Ext.refl _) rfl)); intro A' hA'; simp only [Act.put, List.setIfInBounds_toArray, List.set_cons_zero, List.set_cons_succ] at hA'; have e := funext hA'; subst e; clear hA')
      refine Reg.step_det ?_; apply Exists.intro; refine And.intro ?_ ?_
      focus
        intro vs w' hw hf
        have hcon := HN.out w' hw
        have HCON := Lib.hid hcon; clear hcon
        go_wp2_with fail
        refine HCON.out.mono ?_
        rintro e' wn ⟨rfl, hx⟩
        have HX := Lib.hid hx; clear hx
        go_wp2_with fail
        exact Reg.post_at rfl HX.out rfl
      intro A' hA'; simp only [Act.put, List.setIfInBounds_toArray, List.set_cons_zero, List.set_cons_succ] at hA'; have e := funext hA'; subst e; clear hA'
      repeat (refine Reg.step_det ?_; apply Exists.intro; refine And.intro ?_ ?_; (focus (intro vs w' hw hf; go_wp2_with fail; exact Reg.post_at rfl (Ext.refl _) rfl)); intro A' hA'; simp only [Act.put, List.setIfInBounds_toArray, List.set_cons_zero, List.set_cons_succ] at hA'; have e := funext hA'; subst e; clear hA')
      intro vs w1 hw hf
      clear c0 c1 c2 hf HN
      go_wp2_with fail
      go_ret
      exact FIN.out w1 hw

set_option maxHeartbeats 400000 in
theorem must_any (c : Int) (b : UInt8) (w : World) (R : Nat) (s : List UInt8) (r : Tx.Rd) (hc : c = b.toNat) (h : RdAt w R s r) (hs : s.length ≤ 1000000) :
    Calls Try.prog 28 #[.pointer (some ⟨R, 0, none⟩), .int .u8 c] w (RdPost w R s (Tx.mustF b r) (.tuple #[])) := by
  have ht := take_any c b w R s r hc h hs
  have HT := Lib.hid ht
  clear ht h hc
  have HM := Lib.hid (show Tx.mustF b r = if (Tx.takeF b r).1 then (Tx.takeF b r).2 else ⟨r.rest, true⟩ from rfl)
  have HF := Lib.hid (fun h => @Tx.takeF_false b r (Tx.takeF b r).2 h)
  generalize hp : Tx.takeF b r = p at *
  obtain ⟨p1, p2⟩ := p
  simp only at HT HM HF
  go_enter Try.func28, Try.ntmps28
  go_wp2_with fail
  refine HT.out.mono ?_
  rintro e w1 ⟨rfl, hr1, hk1⟩
  have HK1 := Lib.hid hk1
  clear hk1
  cases p1 with
  | true =>
    have HR1 := Lib.hid hr1; clear hr1
    clear hp
    go_wp2_with fail
    first | go_end0 | refine bodyPost_ret (results_none rfl _ _ _) rfl ?_
    rw [HM.out]
    exact ⟨rfl, HR1.out, HK1.out⟩
  | false =>
    obtain ⟨k, hk, hr, hb⟩ := hr1
    have e2 : p2 = r := HF.out rfl
    have f2 := hb.fz 2
    have g2 := hb.cell 2 rfl
    have hlt := hb.lt
    have HB := Lib.hid hb
    have HR := Lib.hid hr
    have HE := Lib.hid e2
    clear hb hr e2 hp
    go_wp2_with fail
    first | go_end0 | refine bodyPost_ret (results_none rfl _ _ _) rfl ?_
    rw [HM.out]
    refine ⟨rfl, ⟨k, hk, ?_, ?_⟩, HK1.out.trans (keep_set R 2 w1 _)⟩
    · rw [← HR.out, HE.out]; rfl
    · exact HB.out.set 2 (.bool true)

end Go.Proofs.Ytkhagpnnkfglbaa
