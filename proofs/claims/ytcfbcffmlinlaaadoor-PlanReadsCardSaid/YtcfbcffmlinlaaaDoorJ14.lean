/-
  The reference's plan of a script that may be written.
  The reference's Wrong: why a script may not be written.
  The reference's Same: two scripts with one content are alike; and the law's ref.
-/
import Derived.Test.YtcfbcffmlinlaaaDoorJ12
import Derived.Test.YtcfbcffmlinlaaaDoorJ08
import Derived.Test.YtcfbcffmlinlaaaDoorJ13
import Derived.Test.YtcfbcffmlinlaaaDoorJ04
import Derived.Test.YtcfbcffmlinlaaaDoorJ05
set_option linter.unusedVariables false
namespace Go.Proofs.YtcfbcffmlinlaaaDoor
open Go.RowKit

theorem numT_len (x : Int) : (Tx.numT x).length ≤ 22 := by
  unfold Tx.numT
  split
  · have := digs_len 20 (-x).toNat; simp; omega
  · have := digs_len 20 x.toNat; omega

theorem rnum_u64 (x : Int) (w : World) (h0 : 0 ≤ x) (h1 : x ≤ 18446744073709551615) :
    Calls Tryd.prog 45 #[.int .u64 x] w fun e w' => e = .returned (.string (St (Tx.numT x))) ∧ Ext w w' := by
  rw [Tx.numT_pos h0]; exact rdigits_any x w h0 h1

set_option maxRecDepth 100000 in
set_option maxHeartbeats 2000000 in
theorem rcall_any (t o k a b c : Int) (w : World) (ht : Tx.i64 t) (ho : Tx.i64 o) (hk : Tx.i64 k) (ha : Tx.u64 a) (hb : Tx.u64 b) (hc : Tx.u64 c) :
    Calls Tryd.prog 26 #[.agg #[.int .i64 t, .int .i64 o, .int .i64 k, .int .u64 a, .int .u64 b, .int .u64 c]] w fun x w' => x = .returned (.string (St (Tx.callT t o k a b c))) ∧ Ext w w' := by
  obtain ⟨t1, t2⟩ := ht
  obtain ⟨o1, o2⟩ := ho
  obtain ⟨k1, k2⟩ := hk
  obtain ⟨a1, a2⟩ := ha
  obtain ⟨b1, b2⟩ := hb
  obtain ⟨c1, c2⟩ := hc
  have hbl := Blk.new w #[.int .i64 t, .int .i64 o, .int .i64 k, .int .u64 a, .int .u64 b, .int .u64 c] 49
  have hx0 := (Ext.refl w).alloc (.cells #[.int .i64 t, .int .i64 o, .int .i64 k, .int .u64 a, .int .u64 b, .int .u64 c] 49)
  go_enter Tryd.func26, Tryd.ntmps26
  go_upto_region 1 with (fail)
  generalize w.alloc (.cells #[.int .i64 t, .int .i64 o, .int .i64 k, .int .u64 a, .int .u64 b, .int .u64 c] 49) = W0 at *
  have HX0 := Lib.hid hx0; clear hx0
  have HB := Lib.hid hbl; clear hbl
  generalize w.heap.size = B at *
  have q0 := fun w' (hw : Ext W0 w') => (HB.out.ext hw).cell 0 (v := .int .i64 t) rfl
  have q1 := fun w' (hw : Ext W0 w') => (HB.out.ext hw).cell 1 (v := .int .i64 o) rfl
  have q2 := fun w' (hw : Ext W0 w') => (HB.out.ext hw).cell 2 (v := .int .i64 k) rfl
  have q3 := fun w' (hw : Ext W0 w') => (HB.out.ext hw).cell 3 (v := .int .u64 a) rfl
  have q4 := fun w' (hw : Ext W0 w') => (HB.out.ext hw).cell 4 (v := .int .u64 b) rfl
  have q5 := fun w' (hw : Ext W0 w') => (HB.out.ext hw).cell 5 (v := .int .u64 c) rfl
  have nt := numT_len t
  have no := numT_len o
  have nk := numT_len k
  have na := numT_len a
  have nb := numT_len b
  have nc := numT_len c
  refine Reg.wp_region_v [] Ext (by kernel_rfl) (by kernel_rfl) (fun _ _ _ => Ext.trans) (Ext.refl _).drew ?_
  repeat (refine Reg.step_det ?_; apply Exists.intro; refine And.intro ?_ ?_; (focus (intro vs w' hw hf; go_wp2_with fail; exact Reg.post_at rfl (Ext.refl _) rfl)); intro A' hA'; simp only [Act.put, List.setIfInBounds_toArray, List.set_cons_zero, List.set_cons_succ] at hA'; have e := funext hA'; subst e; clear hA')
  refine Reg.step_det ?_; apply Exists.intro; refine And.intro ?_ ?_
  focus
    intro vs w' hw hf
    have hcon := rint_any t w' t1 t2
    have HCON := Lib.hid hcon; clear hcon
    go_wp2_with fail
    refine HCON.out.mono ?_
    rintro e' wn ⟨rfl, hx⟩
    have HX := Lib.hid hx; clear hx
    go_wp2_with fail
    exact Reg.post_at rfl HX.out rfl
  intro A' hA'; simp only [Act.put, List.setIfInBounds_toArray, List.set_cons_zero, List.set_cons_succ] at hA'; have e := funext hA'; subst e; clear hA'
  repeat (refine Reg.step_det ?_; apply Exists.intro; refine And.intro ?_ ?_; (focus (intro vs w' hw hf; go_wp2_with fail; exact Reg.post_at rfl (Ext.refl _) rfl)); intro A' hA'; simp only [Act.put, List.setIfInBounds_toArray, List.set_cons_zero, List.set_cons_succ] at hA'; have e := funext hA'; subst e; clear hA')
  refine Reg.step_det ?_; apply Exists.intro; refine And.intro ?_ ?_
  focus
    intro vs w' hw hf
    have hcon := rint_any o w' o1 o2
    have HCON := Lib.hid hcon; clear hcon
    go_wp2_with fail
    refine HCON.out.mono ?_
    rintro e' wn ⟨rfl, hx⟩
    have HX := Lib.hid hx; clear hx
    go_wp2_with fail
    exact Reg.post_at rfl HX.out rfl
  intro A' hA'; simp only [Act.put, List.setIfInBounds_toArray, List.set_cons_zero, List.set_cons_succ] at hA'; have e := funext hA'; subst e; clear hA'
  repeat (refine Reg.step_det ?_; apply Exists.intro; refine And.intro ?_ ?_; (focus (intro vs w' hw hf; go_wp2_with fail; exact Reg.post_at rfl (Ext.refl _) rfl)); intro A' hA'; simp only [Act.put, List.setIfInBounds_toArray, List.set_cons_zero, List.set_cons_succ] at hA'; have e := funext hA'; subst e; clear hA')
  refine Reg.step_det ?_; apply Exists.intro; refine And.intro ?_ ?_
  focus
    intro vs w' hw hf
    have hcon := rint_any k w' k1 k2
    have HCON := Lib.hid hcon; clear hcon
    go_wp2_with fail
    refine HCON.out.mono ?_
    rintro e' wn ⟨rfl, hx⟩
    have HX := Lib.hid hx; clear hx
    go_wp2_with fail
    exact Reg.post_at rfl HX.out rfl
  intro A' hA'; simp only [Act.put, List.setIfInBounds_toArray, List.set_cons_zero, List.set_cons_succ] at hA'; have e := funext hA'; subst e; clear hA'
  repeat (refine Reg.step_det ?_; apply Exists.intro; refine And.intro ?_ ?_; (focus (intro vs w' hw hf; go_wp2_with fail; exact Reg.post_at rfl (Ext.refl _) rfl)); intro A' hA'; simp only [Act.put, List.setIfInBounds_toArray, List.set_cons_zero, List.set_cons_succ] at hA'; have e := funext hA'; subst e; clear hA')
  refine Reg.step_det ?_; apply Exists.intro; refine And.intro ?_ ?_
  focus
    intro vs w' hw hf
    have hcon := rnum_u64 a w' a1 a2
    have HCON := Lib.hid hcon; clear hcon
    go_wp2_with fail
    refine HCON.out.mono ?_
    rintro e' wn ⟨rfl, hx⟩
    have HX := Lib.hid hx; clear hx
    go_wp2_with fail
    exact Reg.post_at rfl HX.out rfl
  intro A' hA'; simp only [Act.put, List.setIfInBounds_toArray, List.set_cons_zero, List.set_cons_succ] at hA'; have e := funext hA'; subst e; clear hA'
  repeat (refine Reg.step_det ?_; apply Exists.intro; refine And.intro ?_ ?_; (focus (intro vs w' hw hf; go_wp2_with fail; exact Reg.post_at rfl (Ext.refl _) rfl)); intro A' hA'; simp only [Act.put, List.setIfInBounds_toArray, List.set_cons_zero, List.set_cons_succ] at hA'; have e := funext hA'; subst e; clear hA')
  refine Reg.step_det ?_; apply Exists.intro; refine And.intro ?_ ?_
  focus
    intro vs w' hw hf
    have hcon := rnum_u64 b w' b1 b2
    have HCON := Lib.hid hcon; clear hcon
    go_wp2_with fail
    refine HCON.out.mono ?_
    rintro e' wn ⟨rfl, hx⟩
    have HX := Lib.hid hx; clear hx
    go_wp2_with fail
    exact Reg.post_at rfl HX.out rfl
  intro A' hA'; simp only [Act.put, List.setIfInBounds_toArray, List.set_cons_zero, List.set_cons_succ] at hA'; have e := funext hA'; subst e; clear hA'
  repeat (refine Reg.step_det ?_; apply Exists.intro; refine And.intro ?_ ?_; (focus (intro vs w' hw hf; go_wp2_with fail; exact Reg.post_at rfl (Ext.refl _) rfl)); intro A' hA'; simp only [Act.put, List.setIfInBounds_toArray, List.set_cons_zero, List.set_cons_succ] at hA'; have e := funext hA'; subst e; clear hA')
  refine Reg.step_det ?_; apply Exists.intro; refine And.intro ?_ ?_
  focus
    intro vs w' hw hf
    have hcon := rnum_u64 c w' c1 c2
    have HCON := Lib.hid hcon; clear hcon
    go_wp2_with fail
    refine HCON.out.mono ?_
    rintro e' wn ⟨rfl, hx⟩
    have HX := Lib.hid hx; clear hx
    go_wp2_with fail
    exact Reg.post_at rfl HX.out rfl
  intro A' hA'; simp only [Act.put, List.setIfInBounds_toArray, List.set_cons_zero, List.set_cons_succ] at hA'; have e := funext hA'; subst e; clear hA'
  repeat (refine Reg.step_det ?_; apply Exists.intro; refine And.intro ?_ ?_; (focus (intro vs w' hw hf; go_wp2_with fail; exact Reg.post_at rfl (Ext.refl _) rfl)); intro A' hA'; simp only [Act.put, List.setIfInBounds_toArray, List.set_cons_zero, List.set_cons_succ] at hA'; have e := funext hA'; subst e; clear hA')
  intro vs w' hw hf
  have HV := Lib.hid hw; clear hw hf
  go_wp2_with fail
  go_ret
  exact ⟨ret_str (by simp [Tx.callT, Tx.jn]), HX0.out.trans HV.out⟩



/-! The picks of a plan, one by one -/
def tailP (F : Nat) (l : List Int) (i k : Nat) : List UInt8 := Pl.numsT ((l.drop i).take k) ++ ([10] ++ Pl.picksT F (l.drop (i + k)))
def restP (F : Nat) (l : List Int) (i : Nat) : List UInt8 := if i % 16 = 0 ∨ l.length ≤ i then Pl.picksT F (l.drop i) else tailP F l i (16 - i % 16)

theorem numsT_head (l : List Int) (i k : Nat) (h : i < l.length) : Pl.numsT ((l.drop i).take (k + 1)) = 32 :: Pl.dg (nth l i) ++ Pl.numsT ((l.drop (i + 1)).take k) := by
  rw [drop_cons l i h, List.take_succ_cons, Pl.numsT_cons]; rfl
theorem restP_start {F : Nat} {l : List Int} {i : Nat} (h : i < l.length) (hF : l.length ≤ F) (h0 : i % 16 = 0) : restP F l i = Pl.wP ++ (32 :: Pl.dg (nth l i) ++ tailP F l (i + 1) 15) := by
  have hne : l.drop i ≠ [] := fun e => by have := List.drop_eq_nil_iff.1 e; omega
  unfold restP tailP
  rw [if_pos (.inl h0), picksT_step hne (by rw [List.length_drop]; omega), numsT_head l i 15 h |> fun e => (by unfold Pl.lineT; rw [e] : Pl.lineT Pl.wP ((l.drop i).take 16) = Pl.wP ++ ((32 :: Pl.dg (nth l i) ++ Pl.numsT ((l.drop (i + 1)).take 15)) ++ [10]))]
  rw [List.drop_drop, show i + 1 + 15 = i + 16 by omega]
  simp
theorem restP_on {F : Nat} {l : List Int} {i : Nat} (h : i < l.length) (h0 : i % 16 ≠ 0) : restP F l i = 32 :: Pl.dg (nth l i) ++ tailP F l (i + 1) (15 - i % 16) := by
  have hm := Nat.mod_lt i (show 0 < 16 by decide)
  unfold restP tailP
  rw [if_neg (by omega)]
  rw [show 16 - i % 16 = (15 - i % 16) + 1 by omega, numsT_head l i _ h, show i + (15 - i % 16 + 1) = i + 1 + (15 - i % 16) by omega]
  simp
theorem tailP_end {F : Nat} {l : List Int} {i : Nat} (h : i < l.length) (h0 : i % 16 = 15 ∨ i + 1 = l.length) : tailP F l (i + 1) (15 - i % 16) = [10] ++ restP F l (i + 1) := by
  by_cases h1 : i % 16 = 15
  · unfold tailP restP
    rw [if_pos (.inl (by omega)), h1, Nat.sub_self, List.take_zero]
    rfl
  · have e : i + 1 = l.length := h0.resolve_left h1
    unfold tailP restP
    rw [if_pos (.inr (by omega)), List.drop_of_length_le (show l.length ≤ i + 1 by omega), List.drop_of_length_le (show l.length ≤ i + 1 + (15 - i % 16) by omega), List.take_nil]
    rfl
theorem tailP_on {F : Nat} {l : List Int} {i : Nat} (h0 : i % 16 ≠ 15) (h1 : i + 1 < l.length) : tailP F l (i + 1) (15 - i % 16) = restP F l (i + 1) := by
  have hm := Nat.mod_lt i (show 0 < 16 by decide)
  unfold restP
  rw [if_neg (by omega), show 16 - (i + 1) % 16 = 15 - i % 16 by omega]
theorem restP_zero (F : Nat) (l : List Int) : restP F l 0 = Pl.picksT F l := by unfold restP; rw [if_pos (.inl rfl)]; rfl
theorem restP_end (F : Nat) (l : List Int) : restP F l l.length = [] := by unfold restP; rw [if_pos (.inr (Nat.le_refl _)), List.drop_length, Pl.picksT_nil]

theorem dg_num {x : Int} (h : 0 ≤ x) : Pl.dg x = Tx.numT x := by rw [Tx.numT_pos h]; rfl
theorem specT_num {x : Spc} (h0 : 0 ≤ x.kind) (h1 : 0 ≤ x.p) (h2 : 0 ≤ x.q) : Pl.specT x = [111, 98, 106, 101, 99, 116, 32] ++ Tx.numT x.kind ++ [32] ++ Tx.numT x.p ++ [32] ++ Tx.numT x.q ++ [10] := by
  unfold Pl.specT Pl.lineT Pl.wO
  rw [Pl.numsT_cons, Pl.numsT_cons, Pl.numsT_cons, dg_num h0, dg_num h1, dg_num h2]
  simp [Pl.numsT]
theorem callT_num {c : Cll} (h0 : 0 ≤ c.thread) (h1 : 0 ≤ c.obj) (h2 : 0 ≤ c.kind) (h3 : 0 ≤ c.a) (h4 : 0 ≤ c.b) (h5 : 0 ≤ c.c) : Pl.callT c = [99, 97, 108, 108, 32] ++ Tx.callT c.thread c.obj c.kind c.a c.b c.c ++ [10] := by
  unfold Pl.callT Pl.lineT Pl.wC
  rw [Pl.numsT_cons, Pl.numsT_cons, Pl.numsT_cons, Pl.numsT_cons, Pl.numsT_cons, Pl.numsT_cons, dg_num h0, dg_num h1, dg_num h2, dg_num h3, dg_num h4, dg_num h5]
  simp [Pl.numsT, Tx.callT, Tx.jn]

set_option maxRecDepth 100000 in
set_option maxHeartbeats 4000000 in
theorem rtext_any (s : Scr) (m : Lies) (w : World) (hok : s.ok) (hwd : s.wide) (hm : LiesAt s m w) :
    Calls Tryd.prog 12 #[.agg #[.int .i64 s.n, .slice m.sa s.specs.length m.sc, .slice m.ca s.calls.length m.cc, .slice m.pa s.picks.length m.pc]] w fun e w' => e = .returned (.string (St (Pl.planT s))) ∧ Ext w w' := by
  have hx0 := (Ext.refl w).alloc (.cells #[.int .i64 s.n, .slice m.sa s.specs.length m.sc, .slice m.ca s.calls.length m.cc, .slice m.pa s.picks.length m.pc] 32)
  have hb0 := Blk.new w #[.int .i64 s.n, .slice m.sa s.specs.length m.sc, .slice m.ca s.calls.length m.cc, .slice m.pa s.picks.length m.pc] 32
  have HM := Lib.hid (hm.ext hx0)
  have HTL := Lib.hid (planT_len hok)
  have HOK := Lib.hid hok
  have HWD := Lib.hid hwd
  obtain ⟨⟨n1, n2⟩, k1, k2, k3, -, -, -⟩ := hok
  have HT0 : Hid (Pl.planT s = ([116, 104, 114, 101, 97, 100, 115, 32] ++ Tx.numT s.n ++ [10]) ++ (s.specs.flatMap Pl.specT ++ (s.calls.flatMap Pl.callT ++ Pl.picksT s.picks.length s.picks))) := Lib.hid (by
    unfold Pl.planT Pl.lineT Pl.wT
    rw [Pl.numsT_cons, dg_num (by omega)]
    simp [Pl.numsT])
  clear hm hwd
  obtain ⟨sa, sc, ca, cc, pa, pc⟩ := m
  simp only at hx0 hb0
  go_enter Tryd.func12, Tryd.ntmps12
  go_upto_region 1 with (fail)
  generalize w.alloc (.cells #[.int .i64 s.n, .slice sa s.specs.length sc, .slice ca s.calls.length cc, .slice pa s.picks.length pc] 32) = W0 at *
  have q0 := hb0.cell 0 (v := .int .i64 s.n) rfl
  have HB0 := Lib.hid hb0
  have HX0 := Lib.hid hx0
  clear hb0 hx0
  have nn := numT_len s.n
  go_wp2_with fail
  refine (rint_any s.n _ (by omega) (by omega)).mono ?_
  rintro e w1 ⟨rfl, hx1⟩
  have HX1 := Lib.hid hx1
  clear hx1 q0
  have q1 := (HB0.out.ext HX1.out).cell 1 (v := .slice sa s.specs.length sc) rfl
  go_wp2_with fail
  simp only [lit_St]
  go_loopw [3, 16] (fun u v wr => ∃ (i : Nat) (T : List UInt8), i ≤ s.specs.length ∧ v = .int .i64 (i : Int) ∧ u = .string (St T) ∧ Hid (Ext W0 wr) ∧ Hid (Pl.planT s = T ++ ((s.specs.drop i).flatMap Pl.specT ++ (s.calls.flatMap Pl.callT ++ Pl.picksT s.picks.length s.picks)))) (fun _ v _ => s.specs.length - (intOf v).toNat)
  case atStart => exact ⟨0, _, Nat.zero_le _, rfl, vs (by simp), HX1, HT0⟩
  case round =>
    clear HX1 HT0 q1 nn
    obtain ⟨i, T, hi, rfl, rfl, HX, HT⟩ := hrel
    have hT1 := text_le HT.out HTL.out
    by_cases hlt : i < s.specs.length
    · obtain ⟨b, off, rfl, e0, e1, e2⟩ := (HM.out.specs.ext HX.out).at hlt
      have q1 := (HB0.out.ext HX.out).cell 1 (v := .slice (some ⟨b, off, none⟩) s.specs.length sc) rfl
      have HD := Lib.hid (drop_spec s.specs i hlt (s.calls.flatMap Pl.callT ++ Pl.picksT s.picks.length s.picks))
      have hxok := HOK.out.2.2.2.2.1 _ (nthD_mem spc0 s.specs i hlt)
      generalize nthD spc0 s.specs i = x at *
      obtain ⟨x0, x1, x2⟩ := x
      obtain ⟨⟨g0, g1⟩, ⟨g2, g3⟩, ⟨g4, g5⟩⟩ := hxok
      simp only at e0 e1 e2 g0 g1 g2 g3 g4 g5
      have HT2 : Hid (Pl.planT s = (T ++ Pl.specT ⟨x0, x1, x2⟩) ++ ((s.specs.drop (i + 1)).flatMap Pl.specT ++ (s.calls.flatMap Pl.callT ++ Pl.picksT s.picks.length s.picks))) := Lib.hid (by rw [HT.out, HD.out, List.append_assoc])
      have HSN := Lib.hid (specT_num (x := ⟨x0, x1, x2⟩) g0 g2 g4)
      simp only at HSN
      have l0 := numT_len x0
      have l1 := numT_len x1
      have l2 := numT_len x2
      clear HD HT
      go_upto_region 6 with (fail)
      have HB5 := Lib.hid (Blk.new wr #[.int .i64 x0, .int .i64 x1, .int .i64 x2] 59)
      have HX5 := Lib.hid (HX.out.alloc (.cells #[.int .i64 x0, .int .i64 x1, .int .i64 x2] 59))
      clear HX e0 e1 e2 q1
      generalize wr.alloc (.cells #[.int .i64 x0, .int .i64 x1, .int .i64 x2] 59) = W5 at *
      generalize wr.heap.size = S5 at *
      have p0 := fun w' (hw : Ext W5 w') => (HB5.out.ext hw).cell 0 (v := .int .i64 x0) rfl
      have p1 := fun w' (hw : Ext W5 w') => (HB5.out.ext hw).cell 1 (v := .int .i64 x1) rfl
      have p2 := fun w' (hw : Ext W5 w') => (HB5.out.ext hw).cell 2 (v := .int .i64 x2) rfl
      refine Reg.wp_region_v [] Ext (by kernel_rfl) (by kernel_rfl) (fun _ _ _ => Ext.trans) (Ext.refl _).drew ?_
      repeat (refine Reg.step_det ?_; apply Exists.intro; refine And.intro ?_ ?_; (focus (intro vs w' hw hf; go_wp2_with fail; exact Reg.post_at rfl (Ext.refl _) rfl)); intro A' hA'; simp only [Act.put, List.setIfInBounds_toArray, List.set_cons_zero, List.set_cons_succ] at hA'; have e := funext hA'; subst e; clear hA')
      refine Reg.step_det ?_; apply Exists.intro; refine And.intro ?_ ?_
      focus
        intro vs w' hw hf
        have hcon := rint_any x0 w' (by omega) (by omega)
        have HCON := Lib.hid hcon; clear hcon
        go_wp2_with fail
        refine HCON.out.mono ?_
        rintro e' wn ⟨rfl, hx⟩
        have HX := Lib.hid hx; clear hx
        go_wp2_with fail
        exact Reg.post_at rfl HX.out rfl
      intro A' hA'; simp only [Act.put, List.setIfInBounds_toArray, List.set_cons_zero, List.set_cons_succ] at hA'; have e := funext hA'; subst e; clear hA'
      repeat (refine Reg.step_det ?_; apply Exists.intro; refine And.intro ?_ ?_; (focus (intro vs w' hw hf; go_wp2_with fail; exact Reg.post_at rfl (Ext.refl _) rfl)); intro A' hA'; simp only [Act.put, List.setIfInBounds_toArray, List.set_cons_zero, List.set_cons_succ] at hA'; have e := funext hA'; subst e; clear hA')
      refine Reg.step_det ?_; apply Exists.intro; refine And.intro ?_ ?_
      focus
        intro vs w' hw hf
        have hcon := rint_any x1 w' (by omega) (by omega)
        have HCON := Lib.hid hcon; clear hcon
        go_wp2_with fail
        refine HCON.out.mono ?_
        rintro e' wn ⟨rfl, hx⟩
        have HX := Lib.hid hx; clear hx
        go_wp2_with fail
        exact Reg.post_at rfl HX.out rfl
      intro A' hA'; simp only [Act.put, List.setIfInBounds_toArray, List.set_cons_zero, List.set_cons_succ] at hA'; have e := funext hA'; subst e; clear hA'
      repeat (refine Reg.step_det ?_; apply Exists.intro; refine And.intro ?_ ?_; (focus (intro vs w' hw hf; go_wp2_with fail; exact Reg.post_at rfl (Ext.refl _) rfl)); intro A' hA'; simp only [Act.put, List.setIfInBounds_toArray, List.set_cons_zero, List.set_cons_succ] at hA'; have e := funext hA'; subst e; clear hA')
      refine Reg.step_det ?_; apply Exists.intro; refine And.intro ?_ ?_
      focus
        intro vs w' hw hf
        have hcon := rint_any x2 w' (by omega) (by omega)
        have HCON := Lib.hid hcon; clear hcon
        go_wp2_with fail
        refine HCON.out.mono ?_
        rintro e' wn ⟨rfl, hx⟩
        have HX := Lib.hid hx; clear hx
        go_wp2_with fail
        exact Reg.post_at rfl HX.out rfl
      intro A' hA'; simp only [Act.put, List.setIfInBounds_toArray, List.set_cons_zero, List.set_cons_succ] at hA'; have e := funext hA'; subst e; clear hA'
      repeat (refine Reg.step_det ?_; apply Exists.intro; refine And.intro ?_ ?_; (focus (intro vs w' hw hf; go_wp2_with fail; exact Reg.post_at rfl (Ext.refl _) rfl)); intro A' hA'; simp only [Act.put, List.setIfInBounds_toArray, List.set_cons_zero, List.set_cons_succ] at hA'; have e := funext hA'; subst e; clear hA')
      intro vs w' hw hf
      have HV := Lib.hid hw; clear hw hf
      go_wp2_with fail
      go_roundw
      case rel => exact ⟨i + 1, _, by omega, by go_num, rfl, Lib.hid (HX5.out.trans HV.out), Lib.hid (by rw [HT2.out, HSN.out]; simp)⟩
      case measure => simp [intOf]; omega
    · obtain rfl : i = s.specs.length := by omega
      rw [List.drop_length, List.flatMap_nil, List.nil_append] at HT
      have q2 := (HB0.out.ext HX.out).cell 2 (v := .slice ca s.calls.length cc) rfl
      go_wp2_with fail
      obtain ⟨wo, rfl⟩ : ∃ wo : World, wo = wr := ⟨_, rfl⟩
      go_loopw [3, 45] (fun u v wr => ∃ (i : Nat) (T : List UInt8), i ≤ s.calls.length ∧ v = .int .i64 (i : Int) ∧ u = .string (St T) ∧ Hid (Ext W0 wr) ∧ Hid (Pl.planT s = T ++ ((s.calls.drop i).flatMap Pl.callT ++ Pl.picksT s.picks.length s.picks))) (fun _ v _ => s.calls.length - (intOf v).toNat)
      case atStart => exact ⟨0, T, Nat.zero_le _, rfl, rfl, HX, HT⟩
      case round =>
        clear HX HT q2 hi hT1
        obtain ⟨i, T, hi, rfl, rfl, HX, HT⟩ := hrel
        have hT1 := text_le HT.out HTL.out
        by_cases hlt : i < s.calls.length
        · obtain ⟨b, off, rfl, e0, e1, e2, e3, e4, e5⟩ := (HM.out.calls.ext HX.out).at hlt
          have q2 := (HB0.out.ext HX.out).cell 2 (v := .slice (some ⟨b, off, none⟩) s.calls.length cc) rfl
          have HD := Lib.hid (drop_call s.calls i hlt (Pl.picksT s.picks.length s.picks))
          have hxok := HOK.out.2.2.2.2.2.1 _ (nthD_mem cll0 s.calls i hlt)
          have hxw := HWD.out _ (nthD_mem cll0 s.calls i hlt)
          generalize nthD cll0 s.calls i = x at *
          obtain ⟨x0, x1, x2, x3, x4, x5⟩ := x
          obtain ⟨⟨g0, g1⟩, ⟨g2, g3⟩, ⟨g4, g5⟩⟩ := hxok
          obtain ⟨⟨g6, g7⟩, ⟨g8, g9⟩, ⟨g10, g11⟩⟩ := hxw
          simp only at e0 e1 e2 e3 e4 e5 g0 g1 g2 g3 g4 g5 g6 g7 g8 g9 g10 g11
          have HT2 : Hid (Pl.planT s = (T ++ Pl.callT ⟨x0, x1, x2, x3, x4, x5⟩) ++ ((s.calls.drop (i + 1)).flatMap Pl.callT ++ Pl.picksT s.picks.length s.picks)) := Lib.hid (by rw [HT.out, HD.out, List.append_assoc])
          have HSN := Lib.hid (callT_num (c := ⟨x0, x1, x2, x3, x4, x5⟩) g0 g2 g4 g6 g8 g10)
          simp only at HSN
          have hT2 := text_le HT2.out HTL.out
          rw [HSN.out] at hT2
          simp only [List.length_append, List.length_cons, List.length_nil] at hT2
          have hcl : (Tx.callT x0 x1 x2 x3 x4 x5).length ≤ 10000000 := by omega
          have HCL := Lib.hid (fun w => rcall_any x0 x1 x2 x3 x4 x5 w ⟨by omega, by omega⟩ ⟨by omega, by omega⟩ ⟨by omega, by omega⟩ ⟨by omega, by omega⟩ ⟨by omega, by omega⟩ ⟨by omega, by omega⟩)
          clear HD HT hT2
          generalize Tx.callT x0 x1 x2 x3 x4 x5 = CT at *
          go_wp2_with fail
          refine (HCL.out _).mono ?_
          rintro e w5 ⟨rfl, hx5⟩
          have HX5 := Lib.hid (HX.out.trans hx5)
          clear hx5 HX e0 e1 e2 e3 e4 e5 q2 HCL
          go_wp2_with fail
          go_roundw
          case rel => exact ⟨i + 1, _, by omega, by go_num, rfl, HX5, Lib.hid (by rw [HT2.out, HSN.out]; simp)⟩
          case measure => simp [intOf]; omega
        · obtain rfl : i = s.calls.length := by omega
          rw [List.drop_length, List.flatMap_nil, List.nil_append, ← restP_zero] at HT
          have q3 := (HB0.out.ext HX.out).cell 3 (v := .slice pa s.picks.length pc) rfl
          go_wp2_with fail
          obtain ⟨wo, rfl⟩ : ∃ wo : World, wo = wr := ⟨_, rfl⟩
          go_loopw [3, 62] (fun u v wr => ∃ (i : Nat) (T : List UInt8), i ≤ s.picks.length ∧ v = .int .i64 (i : Int) ∧ u = .string (St T) ∧ Hid (Ext W0 wr) ∧ Hid (Pl.planT s = T ++ restP s.picks.length s.picks i)) (fun _ v _ => s.picks.length - (intOf v).toNat)
          case atStart => exact ⟨0, T, Nat.zero_le _, rfl, rfl, HX, HT⟩
          case round =>
            clear HX HT q3 hi hT1
            obtain ⟨i, T, hi, rfl, rfl, HX, HT⟩ := hrel
            have hT1 := text_le HT.out HTL.out
            have q3 := fun w' (hw : Ext W0 w') => (HB0.out.ext hw).cell 3 (v := .slice pa s.picks.length pc) rfl
            have Q3 := Lib.hid q3
            clear q3
            by_cases hlt : i < s.picks.length
            · obtain ⟨b, off, rfl, e0⟩ := (HM.out.picks.ext HX.out).at hlt
              have q3 := Q3.out wr HX.out
              have hxok := HOK.out.2.2.2.2.2.2 _ (nth_mem s.picks i hlt)
              obtain ⟨g0, g1⟩ := hxok
              have HDN := Lib.hid (dg_num g0)
              have HR0 := fun h => Lib.hid (restP_start (F := s.picks.length) hlt (Nat.le_refl _) h)
              have HR1 := fun h => Lib.hid (restP_on (F := s.picks.length) hlt h)
              have HR2 := fun h => Lib.hid (tailP_end (F := s.picks.length) hlt h)
              have HR3 := fun h h' => Lib.hid (tailP_on (F := s.picks.length) (l := s.picks) (i := i) h h')
              generalize nth s.picks i = x at *
              have lx := numT_len x
              have hm := Nat.mod_lt i (show 0 < 16 by decide)
              clear HM HB0
              by_cases h0 : i % 16 = 0
              · have h15 : i % 16 ≠ 15 := by omega
                by_cases he : i + 1 = s.picks.length
                · have HR := HR0 h0
                  have HZ := HR2 (.inr he)
                  rw [h0] at HZ
                  have HT2 : Hid (Pl.planT s = (T ++ [112, 105, 99, 107, 115] ++ [32] ++ Tx.numT x ++ [10]) ++ restP s.picks.length s.picks (i + 1)) := Lib.hid (by rw [HT.out, HR.out, HZ.out, HDN.out]; simp [Pl.wP])
                  have m0 : ((i : Int) % 16 == 0) = true := beq_iff_eq.2 (by omega)
                  have m15 : ((i : Int) % 16 == 15) = false := beq_eq_false_iff_ne.2 (by omega)
                  have me : ((i : Int) + 1 == (s.picks.length : Int)) = true := beq_iff_eq.2 (by omega)
                  have HB := Lib.hid hlt
                  have HFI := Lib.hid hm
                  clear HR0 HR1 HR2 HR3 HR HZ HT HDN h0 h15 hm he
                  go_wp2_with fail
                  refine (rint_any x _ (by omega) (by omega)).mono ?_
                  rintro e w5 ⟨rfl, hx5⟩
                  have HX5 := Lib.hid (HX.out.trans hx5)
                  have q3' := Q3.out _ HX5.out
                  clear hx5 HX q3 e0
                  go_wp2_with fail
                  go_roundw
                  case rel => exact ⟨i + 1, (T ++ [112, 105, 99, 107, 115] ++ [32] ++ Tx.numT x ++ [10]), by omega, by go_num, vs (by simp), HX5, HT2⟩
                  case measure => simp [intOf]; omega
                · have HR := HR0 h0
                  have HZ := HR3 h15 (by omega)
                  rw [h0] at HZ
                  have HT2 : Hid (Pl.planT s = (T ++ [112, 105, 99, 107, 115] ++ [32] ++ Tx.numT x) ++ restP s.picks.length s.picks (i + 1)) := Lib.hid (by rw [HT.out, HR.out, HZ.out, HDN.out]; simp [Pl.wP])
                  have m0 : ((i : Int) % 16 == 0) = true := beq_iff_eq.2 (by omega)
                  have m15 : ((i : Int) % 16 == 15) = false := beq_eq_false_iff_ne.2 (by omega)
                  have me : ((i : Int) + 1 == (s.picks.length : Int)) = false := beq_eq_false_iff_ne.2 (by omega)
                  have HB := Lib.hid hlt
                  have HFI := Lib.hid hm
                  clear HR0 HR1 HR2 HR3 HR HZ HT HDN h0 h15 hm he
                  go_wp2_with fail
                  refine (rint_any x _ (by omega) (by omega)).mono ?_
                  rintro e w5 ⟨rfl, hx5⟩
                  have HX5 := Lib.hid (HX.out.trans hx5)
                  have q3' := Q3.out _ HX5.out
                  clear hx5 HX q3 e0
                  go_wp2_with fail
                  go_roundw
                  case rel => exact ⟨i + 1, (T ++ [112, 105, 99, 107, 115] ++ [32] ++ Tx.numT x), by omega, by go_num, vs (by simp), HX5, HT2⟩
                  case measure => simp [intOf]; omega
              · by_cases h15 : i % 16 = 15
                · have HR := HR1 h0
                  have HZ := HR2 (.inl h15)
                  have HT2 : Hid (Pl.planT s = (T ++ [32] ++ Tx.numT x ++ [10]) ++ restP s.picks.length s.picks (i + 1)) := Lib.hid (by rw [HT.out, HR.out, HZ.out, HDN.out]; simp)
                  have m0 : ((i : Int) % 16 == 0) = false := beq_eq_false_iff_ne.2 (by omega)
                  have m15 : ((i : Int) % 16 == 15) = true := beq_iff_eq.2 (by omega)
                  have HB := Lib.hid hlt
                  have HFI := Lib.hid hm
                  clear HR0 HR1 HR2 HR3 HR HZ HT HDN h0 h15 hm
                  go_wp2_with fail
                  refine (rint_any x _ (by omega) (by omega)).mono ?_
                  rintro e w5 ⟨rfl, hx5⟩
                  have HX5 := Lib.hid (HX.out.trans hx5)
                  have q3' := Q3.out _ HX5.out
                  clear hx5 HX q3 e0
                  go_wp2_with fail
                  go_roundw
                  case rel => exact ⟨i + 1, (T ++ [32] ++ Tx.numT x ++ [10]), by omega, by go_num, vs (by simp), HX5, HT2⟩
                  case measure => simp [intOf]; omega
                · by_cases he : i + 1 = s.picks.length
                  · have HR := HR1 h0
                    have HZ := HR2 (.inr he)
                    have HT2 : Hid (Pl.planT s = (T ++ [32] ++ Tx.numT x ++ [10]) ++ restP s.picks.length s.picks (i + 1)) := Lib.hid (by rw [HT.out, HR.out, HZ.out, HDN.out]; simp)
                    have m0 : ((i : Int) % 16 == 0) = false := beq_eq_false_iff_ne.2 (by omega)
                    have m15 : ((i : Int) % 16 == 15) = false := beq_eq_false_iff_ne.2 (by omega)
                    have me : ((i : Int) + 1 == (s.picks.length : Int)) = true := beq_iff_eq.2 (by omega)
                    have HB := Lib.hid hlt
                    have HFI := Lib.hid hm
                    clear HR0 HR1 HR2 HR3 HR HZ HT HDN h0 h15 hm he
                    go_wp2_with fail
                    refine (rint_any x _ (by omega) (by omega)).mono ?_
                    rintro e w5 ⟨rfl, hx5⟩
                    have HX5 := Lib.hid (HX.out.trans hx5)
                    have q3' := Q3.out _ HX5.out
                    clear hx5 HX q3 e0
                    go_wp2_with fail
                    go_roundw
                    case rel => exact ⟨i + 1, (T ++ [32] ++ Tx.numT x ++ [10]), by omega, by go_num, vs (by simp), HX5, HT2⟩
                    case measure => simp [intOf]; omega
                  · have HR := HR1 h0
                    have HZ := HR3 h15 (by omega)
                    have HT2 : Hid (Pl.planT s = (T ++ [32] ++ Tx.numT x) ++ restP s.picks.length s.picks (i + 1)) := Lib.hid (by rw [HT.out, HR.out, HZ.out, HDN.out]; simp)
                    have m0 : ((i : Int) % 16 == 0) = false := beq_eq_false_iff_ne.2 (by omega)
                    have m15 : ((i : Int) % 16 == 15) = false := beq_eq_false_iff_ne.2 (by omega)
                    have me : ((i : Int) + 1 == (s.picks.length : Int)) = false := beq_eq_false_iff_ne.2 (by omega)
                    have HB := Lib.hid hlt
                    have HFI := Lib.hid hm
                    clear HR0 HR1 HR2 HR3 HR HZ HT HDN h0 h15 hm he
                    go_wp2_with fail
                    refine (rint_any x _ (by omega) (by omega)).mono ?_
                    rintro e w5 ⟨rfl, hx5⟩
                    have HX5 := Lib.hid (HX.out.trans hx5)
                    have q3' := Q3.out _ HX5.out
                    clear hx5 HX q3 e0
                    go_wp2_with fail
                    go_roundw
                    case rel => exact ⟨i + 1, (T ++ [32] ++ Tx.numT x), by omega, by go_num, vs (by simp), HX5, HT2⟩
                    case measure => simp [intOf]; omega
            · obtain rfl : i = s.picks.length := by omega
              have HE : Hid (Pl.planT s = T) := Lib.hid (by rw [HT.out, restP_end, List.append_nil])
              go_wp2_with fail
              go_ret
              exact ⟨ret_str HE.out.symm, HX0.out.trans HX.out⟩

end Go.Proofs.YtcfbcffmlinlaaaDoor

namespace Go.Proofs.YtcfbcffmlinlaaaDoor
open Go.RowKit

set_option maxHeartbeats 400000 in
theorem byteful_any (n : Int) (w : World) : Calls Tryd.prog 20 #[.int .i64 n] w fun e w' => e = .returned (.bool (upTo 255 n)) ∧ w' = w := by
  by_cases h1 : 0 ≤ n
  · by_cases h2 : n ≤ 255
    · have H : Hid (upTo 255 n = true) := Lib.hid ((upTo_iff 255 n).2 ⟨h1, h2⟩)
      go_enter Tryd.func20, Tryd.ntmps20
      go_wp2
      go_ret
      exact ⟨by rw [H.out]; rfl, rfl⟩
    · have H : Hid (upTo 255 n = false) := Lib.hid (by unfold upTo; rw [decide_eq_false h2, Bool.and_false])
      go_enter Tryd.func20, Tryd.ntmps20
      go_wp2
      go_ret
      exact ⟨by rw [H.out]; rfl, rfl⟩
  · have H : Hid (upTo 255 n = false) := Lib.hid (by unfold upTo; rw [decide_eq_false h1]; rfl)
    go_enter Tryd.func20, Tryd.ntmps20
    go_wp2
    go_ret
    exact ⟨by rw [H.out]; rfl, rfl⟩

theorem specB_no {x : Spc} (h : upTo 255 x.kind = false ∨ x.p < 0 ∨ 65535 < x.p ∨ x.q < 0 ∨ 65535 < x.q) : specB x = false := by
  unfold specB
  rcases h with h | h | h | h | h
  · rw [h]; rfl
  · have : upTo 65535 x.p = false := by unfold upTo; rw [decide_eq_false (by omega)]; rfl
    rw [this]; simp
  · have : upTo 65535 x.p = false := by unfold upTo; rw [decide_eq_false (by omega : ¬ x.p ≤ 65535), Bool.and_false]
    rw [this]; simp
  · have : upTo 65535 x.q = false := by unfold upTo; rw [decide_eq_false (by omega)]; rfl
    rw [this]; simp
  · have : upTo 65535 x.q = false := by unfold upTo; rw [decide_eq_false (by omega : ¬ x.q ≤ 65535), Bool.and_false]
    rw [this]; simp

theorem callB_no {n : Int} {x : Cll} (h : x.thread < 0 ∨ n ≤ x.thread ∨ upTo 255 x.obj = false ∨ upTo 255 x.kind = false) : callB n x = false := by
  unfold callB
  rcases h with h | h | h | h
  · have : upTo (n - 1) x.thread = false := by unfold upTo; rw [decide_eq_false (by omega)]; rfl
    rw [this]; rfl
  · have : upTo (n - 1) x.thread = false := by unfold upTo; rw [decide_eq_false (by omega : ¬ x.thread ≤ n - 1), Bool.and_false]
    rw [this]; rfl
  · rw [h]; simp
  · rw [h]; simp

set_option maxRecDepth 100000 in
set_option maxHeartbeats 2000000 in
theorem wrong_any (s : Scr) (m : Lies) (w : World) (hf : Fits s) (hm : LiesAt s m w) :
    Calls Tryd.prog 9 #[.agg #[.int .i64 s.n, .slice m.sa s.specs.length m.sc, .slice m.ca s.calls.length m.cc, .slice m.pa s.picks.length m.pc]] w fun e w' => e = .returned (.int .i64 (errF s)) ∧ Ext w w' := by
  obtain ⟨sa, sc, ca, cc, pa, pc⟩ := m
  simp only
  have HM1 := Lib.hid hm.specs
  have HM2 := Lib.hid hm.calls
  have HM3 := Lib.hid hm.picks
  clear hm
  simp only at HM1 HM2 HM3
  obtain ⟨⟨f1, f2⟩, f3, f4, f5⟩ := hf
  by_cases hn : s.n < 1 ∨ 16 < s.n
  · have HE := Lib.hid (errF_n s hn)
    rcases hn with hn | hn
    · go_enter Tryd.func9, Tryd.ntmps9
      go_wp2
      go_ret
      exact ⟨by rw [HE.out]; rfl, (Ext.refl _).alloc _⟩
    · have hn1 : ¬ s.n < 1 := by omega
      go_enter Tryd.func9, Tryd.ntmps9
      go_wp2
      go_ret
      exact ⟨by rw [HE.out]; rfl, (Ext.refl _).alloc _⟩
  · have hn1 : 1 ≤ s.n := by omega
    have hn2 : s.n ≤ 16 := by omega
    by_cases hl : 8 < s.specs.length ∨ 1000 < s.calls.length ∨ 65536 < s.picks.length
    · have HE := Lib.hid (errF_long s hn hl)
      clear hn
      by_cases l1 : 8 < s.specs.length
      · go_enter Tryd.func9, Tryd.ntmps9
        go_wp2
        go_ret
        exact ⟨by rw [HE.out]; rfl, (Ext.refl _).alloc _⟩
      · by_cases l2 : 1000 < s.calls.length
        · clear hl
          go_enter Tryd.func9, Tryd.ntmps9
          go_wp2
          go_ret
          exact ⟨by rw [HE.out]; rfl, (Ext.refl _).alloc _⟩
        · have l3 : 65536 < s.picks.length := by omega
          clear hl
          go_enter Tryd.func9, Tryd.ntmps9
          go_wp2
          go_ret
          exact ⟨by rw [HE.out]; rfl, (Ext.refl _).alloc _⟩
    · have HR := Lib.hid (errF_range s hn hl)
      have HK := Lib.hid (errF_ok s hn hl)
      have l1 : s.specs.length ≤ 8 := by omega
      have l2 : s.calls.length ≤ 1000 := by omega
      have l3 : s.picks.length ≤ 65536 := by omega
      clear hn hl
      go_enter Tryd.func9, Tryd.ntmps9
      go_wp2_with fail
      go_loopw [35] (fun k wr => ∃ j : Nat, j ≤ s.specs.length ∧ k = .int .i64 j ∧ Hid ((s.specs.take j).all specB = true) ∧
        Ext (w.alloc (.cells #[.int .i64 s.n, .slice sa s.specs.length sc, .slice ca s.calls.length cc, .slice pa s.picks.length pc] 32)) wr) (fun k _ => s.specs.length - (intOf k).toNat)
      case atStart => exact ⟨0, Nat.zero_le _, rfl, Lib.hid (by simp), Ext.refl _⟩
      case round =>
        obtain ⟨j, hj, rfl, HJ, hx⟩ := hrel
        have cS : wr.cell? ⟨w.heap.size, 1, none⟩ = some (.slice sa s.specs.length sc) := hx.cell (by simp)
        have cC : wr.cell? ⟨w.heap.size, 2, none⟩ = some (.slice ca s.calls.length cc) := hx.cell (by simp)
        have hw : Ext w wr := ((Ext.refl w).alloc _).trans hx
        by_cases hlt : j < s.specs.length
        · have H1 := Lib.hid (all_take_succ spc0 specB s.specs j hlt)
          have H2 := Lib.hid (fun hp => all_no spc0 specB s.specs j hlt hp)
          obtain ⟨b, off, rfl, c0, c1, c2⟩ := (HM1.out.ext hw).at hlt
          clear cC
          generalize nthD spc0 s.specs j = x at *
          have HX := Lib.hid hx; clear hx
          clear hw
          by_cases hno : upTo 255 x.kind = false ∨ x.p < 0 ∨ 65535 < x.p ∨ x.q < 0 ∨ 65535 < x.q
          · have HF : Hid (errF s = 10) := Lib.hid (HR.out (by unfold okB; rw [H2.out (specB_no hno)]; simp))
            cases hk : upTo 255 x.kind
            · have HB := Lib.hid (fun w => byteful_any x.kind w)
              rw [hk] at HB; clear hk hno
              go_wp2_with (go_at_call 20; refine (HB.out _).mono ?_; rintro e w' ⟨rfl, rfl⟩)
              go_ret
              exact ⟨by rw [HF.out]; rfl, ((Ext.refl _).alloc _).trans (HX.out.alloc _)⟩
            · have HB := Lib.hid (fun w => byteful_any x.kind w)
              rw [hk] at HB
              have hno2 : x.p < 0 ∨ (0 ≤ x.p ∧ 65535 < x.p) ∨ (0 ≤ x.p ∧ x.p ≤ 65535 ∧ x.q < 0) ∨ (0 ≤ x.p ∧ x.p ≤ 65535 ∧ 0 ≤ x.q ∧ 65535 < x.q) := by
                rcases hno with h | h | h | h | h
                · rw [hk] at h; cases h
                all_goals omega
              clear hk hno
              rcases hno2 with g1 | ⟨g1, g2⟩ | ⟨g1, g2, g3⟩ | ⟨g1, g2, g3, g4⟩
              all_goals
                go_wp2_with (go_at_call 20; refine (HB.out _).mono ?_; rintro e w' ⟨rfl, rfl⟩)
                go_ret
                exact ⟨by rw [HF.out]; rfl, ((Ext.refl _).alloc _).trans (HX.out.alloc _)⟩
          · have hk : upTo 255 x.kind = true := by
              cases h : upTo 255 x.kind
              · exact absurd (.inl h) hno
              · rfl
            obtain ⟨g1, g2, g3, g4⟩ : 0 ≤ x.p ∧ x.p ≤ 65535 ∧ 0 ≤ x.q ∧ x.q ≤ 65535 := by omega
            have HT : Hid ((s.specs.take (j + 1)).all specB = true) := Lib.hid (by
              rw [H1.out, HJ.out]; unfold specB; rw [hk, (upTo_iff 65535 x.p).2 ⟨g1, g2⟩, (upTo_iff 65535 x.q).2 ⟨g3, g4⟩]; rfl)
            have HB := Lib.hid (fun w => byteful_any x.kind w)
            rw [hk] at HB; clear hk hno
            go_wp2_with (go_at_call 20; refine (HB.out _).mono ?_; rintro e w' ⟨rfl, rfl⟩)
            go_roundw
            case rel => exact ⟨j + 1, by omega, by go_num, HT, HX.out.alloc _⟩
            case measure => simp [intOf]; omega
        · have hje : j = s.specs.length := by omega
          have HSP : Hid (s.specs.all specB = true) := Lib.hid (by have := HJ.out; rw [hje, List.take_length] at this; exact this)
          clear HJ cS
          go_wp2_with fail
          go_loopw [71] (fun k wr => ∃ j : Nat, j ≤ s.calls.length ∧ k = .int .i64 j ∧ Hid ((s.calls.take j).all (callB s.n) = true) ∧
            Ext (w.alloc (.cells #[.int .i64 s.n, .slice sa s.specs.length sc, .slice ca s.calls.length cc, .slice pa s.picks.length pc] 32)) wr) (fun k _ => s.calls.length - (intOf k).toNat)
          case atStart => exact ⟨0, Nat.zero_le _, rfl, Lib.hid (by simp), hx⟩
          case round =>
            clear hj hlt hje hw hx cC
            obtain ⟨j, hj, rfl, HJ, hx⟩ := hrel
            have cN : wr.cell? ⟨w.heap.size, 0, none⟩ = some (.int .i64 s.n) := hx.cell (by simp)
            have cC : wr.cell? ⟨w.heap.size, 2, none⟩ = some (.slice ca s.calls.length cc) := hx.cell (by simp)
            have cP : wr.cell? ⟨w.heap.size, 3, none⟩ = some (.slice pa s.picks.length pc) := hx.cell (by simp)
            have hw : Ext w wr := ((Ext.refl w).alloc _).trans hx
            have hbs : w.heap.size < wr.heap.size := World.block_lt_of_cell? _ _ cN
            by_cases hlt : j < s.calls.length
            · have H1 := Lib.hid (all_take_succ cll0 (callB s.n) s.calls j hlt)
              have H2 := Lib.hid (fun hp => all_no cll0 (callB s.n) s.calls j hlt hp)
              obtain ⟨b, off, rfl, c0, c1, c2, c3, c4, c5⟩ := (HM2.out.ext hw).at hlt
              generalize nthD cll0 s.calls j = x at *
              have HX := Lib.hid hx; clear hx
              clear hw cP
              have HB1 := Lib.hid (fun w => byteful_any x.obj w)
              have HB2 := Lib.hid (fun w => byteful_any x.kind w)
              by_cases hno : x.thread < 0 ∨ s.n ≤ x.thread ∨ upTo 255 x.obj = false ∨ upTo 255 x.kind = false
              · have HF : Hid (errF s = 10) := Lib.hid (HR.out (by unfold okB; rw [H2.out (callB_no hno)]; simp))
                have hno2 : x.thread < 0 ∨ (0 ≤ x.thread ∧ s.n ≤ x.thread) ∨ ((0 ≤ x.thread ∧ x.thread < s.n) ∧ upTo 255 x.obj = false) ∨ ((0 ≤ x.thread ∧ x.thread < s.n) ∧ upTo 255 x.obj = true ∧ upTo 255 x.kind = false) := by
                  cases h1 : upTo 255 x.obj <;> cases h2 : upTo 255 x.kind <;> simp [h1, h2] at hno ⊢ <;> omega
                clear hno
                rcases hno2 with g1 | ⟨g1, g2⟩ | ⟨⟨g1, g2⟩, g3⟩ | ⟨⟨g1, g2⟩, g3, g4⟩
                · go_wp2
                  go_ret
                  exact ⟨by rw [HF.out]; rfl, ((Ext.refl _).alloc _).trans (HX.out.alloc _)⟩
                · go_wp2
                  go_ret
                  exact ⟨by rw [HF.out]; rfl, ((Ext.refl _).alloc _).trans (HX.out.alloc _)⟩
                · rw [g3] at HB1; clear g3
                  go_wp2_with fail
                  refine (HB1.out _).mono ?_
                  rintro e w' ⟨rfl, rfl⟩
                  go_wp2
                  go_ret
                  exact ⟨by rw [HF.out]; rfl, ((Ext.refl _).alloc _).trans (HX.out.alloc _)⟩
                · rw [g3] at HB1; clear g3
                  rw [g4] at HB2; clear g4
                  go_wp2_with fail
                  refine (HB1.out _).mono ?_
                  rintro e w' ⟨rfl, rfl⟩
                  go_wp2_with fail
                  refine (HB2.out _).mono ?_
                  rintro e w' ⟨rfl, rfl⟩
                  go_wp2
                  go_ret
                  exact ⟨by rw [HF.out]; rfl, ((Ext.refl _).alloc _).trans (HX.out.alloc _)⟩
              · obtain ⟨g1, g2, g3, g4⟩ : 0 ≤ x.thread ∧ x.thread < s.n ∧ upTo 255 x.obj = true ∧ upTo 255 x.kind = true := by
                  cases h1 : upTo 255 x.obj <;> cases h2 : upTo 255 x.kind <;> simp [h1, h2] at hno ⊢ <;> omega
                have HT : Hid ((s.calls.take (j + 1)).all (callB s.n) = true) := Lib.hid (by
                  rw [H1.out, HJ.out]; unfold callB; rw [g3, g4, (upTo_iff (s.n - 1) x.thread).2 ⟨g1, by omega⟩]; rfl)
                rw [g3] at HB1; clear g3
                rw [g4] at HB2; clear g4 hno
                go_wp2_with fail
                refine (HB1.out _).mono ?_
                rintro e w' ⟨rfl, rfl⟩
                go_wp2_with fail
                refine (HB2.out _).mono ?_
                rintro e w' ⟨rfl, rfl⟩
                go_wp2
                go_roundw
                case rel => exact ⟨j + 1, by omega, by go_num, HT, HX.out.alloc _⟩
                case measure => simp [intOf]; omega
            · have hje : j = s.calls.length := by omega
              have HCP : Hid (s.calls.all (callB s.n) = true) := Lib.hid (by have := HJ.out; rw [hje, List.take_length] at this; exact this)
              clear HJ cC cN
              have HPI := Lib.hid (HM3.out.ext hw)
              have HW := Lib.hid hw; clear hw
              clear hx
              go_wp2_with fail
              go_loop [105] (fun k => ∃ j : Nat, j ≤ s.picks.length ∧ k = .int .i64 j ∧ Hid ((s.picks.take j).all (upTo 255) = true)) (fun k => s.picks.length - (intOf k).toNat)
              case atStart => exact ⟨0, Nat.zero_le _, rfl, Lib.hid (by simp)⟩
              case round =>
                clear hj hlt hje
                obtain ⟨j, hj, rfl, HJ⟩ := hrel
                by_cases hlt : j < s.picks.length
                · have H1 := Lib.hid (all_take_succ 0 (upTo 255) s.picks j hlt)
                  have H2 := Lib.hid (fun hp => all_no 0 (upTo 255) s.picks j hlt hp)
                  rw [nth_nthD] at H1 H2
                  obtain ⟨b, off, rfl, c0⟩ := HPI.out.at hlt
                  generalize nth s.picks j = x at *
                  have HB := Lib.hid (fun w => byteful_any x w)
                  cases hk : upTo 255 x
                  · have HF : Hid (errF s = 10) := Lib.hid (HR.out (by unfold okB; rw [H2.out hk]; rfl))
                    rw [hk] at HB; clear hk
                    go_wp2_with (go_at_call 20; refine (HB.out _).mono ?_; rintro e w' ⟨rfl, rfl⟩)
                    go_ret
                    exact ⟨by rw [HF.out]; rfl, HW.out⟩
                  · have HT : Hid ((s.picks.take (j + 1)).all (upTo 255) = true) := Lib.hid (by rw [H1.out, HJ.out, hk]; rfl)
                    rw [hk] at HB; clear hk
                    go_wp2_with (go_at_call 20; refine (HB.out _).mono ?_; rintro e w' ⟨rfl, rfl⟩)
                    go_round
                    case rel => exact ⟨j + 1, by omega, by go_num, HT⟩
                    case measure => simp [intOf]; omega
                · have hje : j = s.picks.length := by omega
                  have HP : Hid (s.picks.all (upTo 255) = true) := Lib.hid (by have := HJ.out; rw [hje, List.take_length] at this; exact this)
                  have HF : Hid (errF s = 0) := Lib.hid (HK.out (by unfold okB; rw [HP.out, HSP.out, HCP.out]; rfl))
                  go_wp2
                  go_ret
                  exact ⟨by rw [HF.out]; rfl, HW.out⟩

end Go.Proofs.YtcfbcffmlinlaaaDoor

namespace Go.Proofs.YtcfbcffmlinlaaaDoor
open Go.RowKit

set_option maxRecDepth 100000 in
set_option maxHeartbeats 1000000 in
theorem same_any (s : Scr) (m1 m2 : Lies) (w : World) (hf : Fits s) (h1 : LiesAt s m1 w) (h2 : LiesAt s m2 w) :
    Calls Tryd.prog 13 #[.agg #[.int .i64 s.n, .slice m1.sa s.specs.length m1.sc, .slice m1.ca s.calls.length m1.cc, .slice m1.pa s.picks.length m1.pc],
      .agg #[.int .i64 s.n, .slice m2.sa s.specs.length m2.sc, .slice m2.ca s.calls.length m2.cc, .slice m2.pa s.picks.length m2.pc]] w
      fun e w' => e = .returned (.bool true) ∧ Ext w w' := by
  obtain ⟨sa, sc, ca, cc, pa, pc⟩ := m1
  obtain ⟨ta, tc, da, dc, qa, qc⟩ := m2
  simp only
  have HM1 := Lib.hid h1.specs
  have HM2 := Lib.hid h1.calls
  have HM3 := Lib.hid h1.picks
  have HN1 := Lib.hid h2.specs
  have HN2 := Lib.hid h2.calls
  have HN3 := Lib.hid h2.picks
  clear h1 h2
  simp only at HM1 HM2 HM3 HN1 HN2 HN3
  obtain ⟨⟨f1, f2⟩, f3, f4, f5⟩ := hf
  go_enter Tryd.func13, Tryd.ntmps13
  go_wp2_with fail
  have hw : Ext w ((w.alloc (.cells #[.int .i64 s.n, .slice sa s.specs.length sc, .slice ca s.calls.length cc, .slice pa s.picks.length pc] 32)).alloc (.cells #[.int .i64 s.n, .slice ta s.specs.length tc, .slice da s.calls.length dc, .slice qa s.picks.length qc] 32)) :=
    ((Ext.refl w).alloc _).alloc _
  have hc : ∀ W : World, W = ((w.alloc (.cells #[.int .i64 s.n, .slice sa s.specs.length sc, .slice ca s.calls.length cc, .slice pa s.picks.length pc] 32)).alloc (.cells #[.int .i64 s.n, .slice ta s.specs.length tc, .slice da s.calls.length dc, .slice qa s.picks.length qc] 32)) →
      W.cell? ⟨w.heap.size, 1, none⟩ = some (.slice sa s.specs.length sc) ∧ W.cell? ⟨w.heap.size, 2, none⟩ = some (.slice ca s.calls.length cc) ∧ W.cell? ⟨w.heap.size, 3, none⟩ = some (.slice pa s.picks.length pc) ∧
      W.cell? ⟨w.heap.size + 1, 1, none⟩ = some (.slice ta s.specs.length tc) ∧ W.cell? ⟨w.heap.size + 1, 2, none⟩ = some (.slice da s.calls.length dc) ∧ W.cell? ⟨w.heap.size + 1, 3, none⟩ = some (.slice qa s.picks.length qc) := by
    rintro W rfl
    have e : w.heap.size + 1 = (w.alloc (.cells #[.int .i64 s.n, .slice sa s.specs.length sc, .slice ca s.calls.length cc, .slice pa s.picks.length pc] 32)).heap.size := by simp
    refine ⟨?_, ?_, ?_, ?_, ?_, ?_⟩ <;> first | simp | (rw [World.cell?_alloc_at _ _ _ _ e]; rfl)
  obtain ⟨b1, b2, b3, c1, c2, c3⟩ := hc _ rfl
  clear hc
  generalize ((w.alloc (.cells #[.int .i64 s.n, .slice sa s.specs.length sc, .slice ca s.calls.length cc, .slice pa s.picks.length pc] 32)).alloc (.cells #[.int .i64 s.n, .slice ta s.specs.length tc, .slice da s.calls.length dc, .slice qa s.picks.length qc] 32)) = W0 at *
  have HW := Lib.hid hw; clear hw
  go_loopw [43] (fun k wr => ∃ j : Nat, j ≤ s.specs.length ∧ k = .int .i64 j ∧ ∃ q, wr = W0.drewN q) (fun k _ => s.specs.length - (intOf k).toNat)
  case atStart => exact ⟨0, Nat.zero_le _, rfl, 0, rfl⟩
  case round =>
    obtain ⟨j, hj, rfl, q, rfl⟩ := hrel
    by_cases hlt : j < s.specs.length
    · obtain ⟨b, off, rfl, e0, e1, e2⟩ := (HM1.out.ext HW.out).at hlt
      obtain ⟨d, of2, rfl, g0, g1, g2⟩ := (HN1.out.ext HW.out).at hlt
      generalize nthD spc0 s.specs j = x at *
      go_wp2
      go_quiet (fail)
      go_wp2
      go_roundw
      case rel => exact ⟨j + 1, by omega, by go_num, _, rfl⟩
      case measure => simp [intOf]; omega
    · skip
      go_wp2
      go_loopw [61] (fun k wr => ∃ j : Nat, j ≤ s.calls.length ∧ k = .int .i64 j ∧ ∃ q, wr = W0.drewN q) (fun k _ => s.calls.length - (intOf k).toNat)
      case atStart => exact ⟨0, Nat.zero_le _, rfl, _, rfl⟩
      case round =>
        clear hlt hj
        obtain ⟨j, hj, rfl, q, rfl⟩ := hrel
        by_cases hlt : j < s.calls.length
        · obtain ⟨b, off, rfl, e0, e1, e2, e3, e4, e5⟩ := (HM2.out.ext HW.out).at hlt
          obtain ⟨d, of2, rfl, g0, g1, g2, g3, g4, g5⟩ := (HN2.out.ext HW.out).at hlt
          generalize nthD cll0 s.calls j = x at *
          go_wp2
          go_quiet (fail)
          go_wp2
          go_roundw
          case rel => exact ⟨j + 1, by omega, by go_num, _, rfl⟩
          case measure => simp [intOf]; omega
        · skip
          go_wp2
          go_loopw [79] (fun k wr => ∃ j : Nat, j ≤ s.picks.length ∧ k = .int .i64 j ∧ ∃ q, wr = W0.drewN q) (fun k _ => s.picks.length - (intOf k).toNat)
          case atStart => exact ⟨0, Nat.zero_le _, rfl, _, rfl⟩
          case round =>
            clear hlt hj
            obtain ⟨j, hj, rfl, q, rfl⟩ := hrel
            by_cases hlt : j < s.picks.length
            · obtain ⟨b, off, rfl, e0⟩ := (HM3.out.ext HW.out).at hlt
              obtain ⟨d, of2, rfl, g0⟩ := (HN3.out.ext HW.out).at hlt
              generalize nth s.picks j = x at *
              go_wp2
              go_quiet (fail)
              go_wp2
              go_roundw
              case rel => exact ⟨j + 1, by omega, by go_num, _, rfl⟩
              case measure => simp [intOf]; omega
            · skip
              go_wp2
              go_ret
              exact ⟨rfl, HW.out.drewN _⟩

end Go.Proofs.YtcfbcffmlinlaaaDoor
