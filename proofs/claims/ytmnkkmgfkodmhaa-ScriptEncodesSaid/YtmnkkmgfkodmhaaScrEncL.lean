/-
  The law's ScriptEncodes: the bytes of any script, or why it has none; what is written is read as it was.
-/
import Derived.Test.YtmnkkmgfkodmhaaScrThree
import Derived.Test.YtmnkkmgfkodmhaaScrWrong
import Derived.Test.YtmnkkmgfkodmhaaScrBytes
import Derived.Test.YtmnkkmgfkodmhaaScrSame
import Derived.Test.YtmnkkmgfkodmhaaScrRef
import Derived.Test.YtmnkkmgfkodmhaaReg
namespace Go.Proofs.Ytmnkkmgfkodmhaa
open Go.RowKit

theorem encRuns_bytes (f : Nat) : ∀ l : List Int, (∀ p ∈ l, byteOk p) → ∀ b ∈ encRuns f l, byteOk b := by
  induction f with
  | zero => intro l _ b hb; cases l <;> cases hb
  | succ f ih =>
    intro l hl b hb
    cases l with
    | nil => cases hb
    | cons x r =>
      simp only [encRuns, List.mem_cons] at hb
      rcases hb with rfl | rfl | hb
      · exact hl _ List.mem_cons_self
      · have := (lead_le x r 254).1
        unfold byteOk; omega
      · exact ih _ (fun p hp => hl p (List.mem_cons_of_mem _ (List.mem_of_mem_drop hp))) b hb

theorem encTwo_bytes (n : Int) (h : wordOk n) : ∀ b ∈ encTwo n, byteOk b := by
  intro b hb
  unfold wordOk at h
  simp only [encTwo, List.mem_cons, List.not_mem_nil, or_false] at hb
  unfold byteOk
  rcases hb with rfl | rfl <;> omega

theorem numB_ok (x : Int) (h : u64Ok x) : ∀ b ∈ numB 10 x, byteOk b :=
  numB_bytes 10 0 x (by omega) h.1 (by rw [weight_zero]; have := h.2; omega)

theorem encS_bytes (s : Scr) (h : s.ok) (hw : s.wide) : ∀ b ∈ encS s, byteOk b := by
  obtain ⟨h1, h2, h3, h4, h5, h6, h7⟩ := h
  intro b hb
  simp only [encS, List.mem_cons, List.mem_append, List.mem_flatMap] at hb
  rcases hb with rfl | rfl | ⟨x, hx, hb⟩ | hb | ⟨c, hc, hb⟩ | hb
  · unfold byteOk; omega
  · unfold byteOk; omega
  · obtain ⟨k1, k2, k3⟩ := h5 x hx
    simp only [encSpec, List.mem_cons, List.mem_append] at hb
    rcases hb with rfl | hb | hb
    · exact k1
    · exact encTwo_bytes _ k2 b hb
    · exact encTwo_bytes _ k3 b hb
  · exact encTwo_bytes _ (by unfold wordOk; omega) b hb
  · obtain ⟨k1, k2, k3⟩ := h6 c hc
    obtain ⟨w1, w2, w3⟩ := hw c hc
    simp only [encCall, List.mem_cons, List.mem_append] at hb
    rcases hb with rfl | rfl | rfl | hb | hb | hb
    · unfold byteOk; omega
    · exact k2
    · exact k3
    · exact numB_ok _ w1 b hb
    · exact numB_ok _ w2 b hb
    · exact numB_ok _ w3 b hb
  · exact encRuns_bytes _ _ h7 b hb

theorem encRuns_len (f : Nat) : ∀ l : List Int, (encRuns f l).length ≤ 2 * f := by
  induction f with
  | zero => intro l; cases l <;> simp [encRuns]
  | succ f ih =>
    intro l
    cases l with
    | nil => simp [encRuns]
    | cons x r =>
      have := ih (r.drop (lead x r 254))
      simp only [encRuns, List.length_cons]
      omega

theorem flatMap_le {α : Type} (f : α → List Int) (n : Nat) (h : ∀ x, (f x).length ≤ n) : ∀ l : List α, (l.flatMap f).length ≤ l.length * n
  | [] => by simp
  | x :: r => by
    have h1 := flatMap_le f n h r
    have h2 := h x
    rw [List.flatMap_cons, List.length_append, List.length_cons, Nat.succ_mul]
    omega

theorem encS_len (s : Scr) (h : s.ok) : (encS s).length ≤ 200000 := by
  obtain ⟨-, h2, h3, h4, -⟩ := h
  have a := flatMap_le encSpec 5 (fun x => Nat.le_of_eq (encSpec_len x)) s.specs
  have b := flatMap_le encCall 36 encCall_len s.calls
  have c := encRuns_len s.picks.length s.picks
  simp only [encS, List.length_cons, List.length_append, encTwo_len]
  omega

set_option maxRecDepth 100000 in
set_option maxHeartbeats 2000000 in
theorem encodes_any (s : Scr) (m : Lies) (w : World) (hf : Fits s) (hwd : s.wide) (hm : LiesAt s m w) :
    Calls Try.prog 3 #[.agg #[.int .i64 s.n, .slice m.sa s.specs.length m.sc, .slice m.ca s.calls.length m.cc, .slice m.pa s.picks.length m.pc]] w fun e w' => e = .returned (.bool true) ∧ Ext w w' := by
  have hm0 := hm.ext ((Ext.refl w).alloc (.cells #[.int .i64 s.n, .slice m.sa s.specs.length m.sc, .slice m.ca s.calls.length m.cc, .slice m.pa s.picks.length m.pc] 26))
  have hb := Blk.new w #[.int .i64 s.n, .slice m.sa s.specs.length m.sc, .slice m.ca s.calls.length m.cc, .slice m.pa s.picks.length m.pc] 26
  have hx0 := (Ext.refl w).alloc (.cells #[.int .i64 s.n, .slice m.sa s.specs.length m.sc, .slice m.ca s.calls.length m.cc, .slice m.pa s.picks.length m.pc] 26)
  have HM := Lib.hid hm0
  have HF := Lib.hid hf
  have HWD := Lib.hid hwd
  obtain ⟨⟨f1, f2⟩, f3, f4, f5⟩ := hf
  clear hm hm0 hwd
  obtain ⟨sa, sc, ca, cc, pa, pc⟩ := m
  simp only at HM hb hx0 ⊢
  go_enter Try.func3, Try.ntmps3
  go_upto_region 1 with (fail)
  generalize w.alloc (.cells #[.int .i64 s.n, .slice sa s.specs.length sc, .slice ca s.calls.length cc, .slice pa s.picks.length pc] 26) = W0 at *
  have HX0 := Lib.hid hx0; clear hx0
  have b0 := hb.cell 0 (v := .int .i64 s.n) rfl
  have b1 := hb.cell 1 (v := .slice sa s.specs.length sc) rfl
  have b2 := hb.cell 2 (v := .slice ca s.calls.length cc) rfl
  have b3 := hb.cell 3 (v := .slice pa s.picks.length pc) rfl
  have bl := hb.lt
  by_cases hbig : 1100 < s.calls.length ∨ 70000 < s.picks.length
  · by_cases hb1 : 1100 < s.calls.length
    · go_wp2_with fail
      refine (three_any _).mono ?_
      rintro e w1 ⟨rfl, hx⟩
      have HX := Lib.hid (HX0.out.trans hx); clear hx
      go_wp2
      go_ret
      exact ⟨rfl, HX.out⟩
    · have hb2 : 70000 < s.picks.length := by omega
      clear hbig
      go_wp2_with fail
      refine (three_any _).mono ?_
      rintro e w1 ⟨rfl, hx⟩
      have HX := Lib.hid (HX0.out.trans hx); clear hx
      go_wp2
      go_ret
      exact ⟨rfl, HX.out⟩
  · have hb1 : s.calls.length ≤ 1100 := by omega
    have hb2 : s.picks.length ≤ 70000 := by omega
    clear hbig
    go_wp2_with fail
    refine (encode_any s ⟨sa, sc, ca, cc, pa, pc⟩ W0 HF.out HWD.out HM.out).mono ?_
    rintro e w1 ⟨hx1, ⟨he, rfl⟩ | ⟨he, a, cap, rfl, hnil, hi⟩⟩
    · have hwr := wrong_any s ⟨sa, sc, ca, cc, pa, pc⟩
      have HE := Lib.hid he
      have hne : (errF s != 0) = true := by simpa using he
      have HW1 := Lib.hid (HX0.out.trans hx1)
      have HM1 := Lib.hid (HM.out.ext hx1)
      have c0 := hx1.cell b0
      have c1 := hx1.cell b1
      have c2 := hx1.cell b2
      have c3 := hx1.cell b3
      have cl : w.heap.size < w1.heap.size := World.block_lt_of_cell? _ _ c0
      clear b0 b1 b2 b3 bl hx1 he hb
      go_wp2_with fail
      refine (ref_any s ⟨sa, sc, ca, cc, pa, pc⟩ _).mono ?_
      rintro e w2 ⟨rfl, hx2⟩
      have HW2 := Lib.hid (HW1.out.trans hx2)
      have HM2 := Lib.hid (HM1.out.ext hx2)
      clear c0 c1 c2 c3 cl hx2
      go_wp2_with fail
      refine (wrong_any s ⟨sa, sc, ca, cc, pa, pc⟩ _ HF.out HM2.out).mono ?_
      rintro e w3 ⟨rfl, hx3⟩
      have HW3 := Lib.hid (HW2.out.trans hx3); clear hx3
      generalize errF s = E at *
      go_wp2_with fail
      refine (three_any _).mono ?_
      rintro e w4 ⟨rfl, hx4⟩
      have HW4 := Lib.hid (HW3.out.trans hx4); clear hx4
      go_wp2
      go_ret
      exact ⟨rfl, HW4.out⟩
    · have hok := (errF_zero s).1 he
      have HE := Lib.hid he
      have HOK := Lib.hid hok
      have HW1 := Lib.hid (HX0.out.trans hx1)
      have HM1 := Lib.hid (HM.out.ext hx1)
      have c0 := hx1.cell b0
      have c1 := hx1.cell b1
      have c2 := hx1.cell b2
      have c3 := hx1.cell b3
      have cl : w.heap.size < w1.heap.size := World.block_lt_of_cell? _ _ c0
      have HB1 := Lib.hid (hb.ext hx1)
      have HI := Lib.hid hi
      clear b0 b1 b2 b3 bl hx1 he hb hok hi hnil
      go_wp2_with fail
      refine (ref_any s ⟨sa, sc, ca, cc, pa, pc⟩ _).mono ?_
      rintro e w2 ⟨rfl, hx2⟩
      have HW2 := Lib.hid (HW1.out.trans hx2)
      have HM2 := Lib.hid (HM1.out.ext hx2)
      have HB2 := Lib.hid (HB1.out.ext hx2)
      have HI2 := Lib.hid (HI.out.ext hx2)
      clear c0 c1 c2 c3 cl hx2 HB1 HI HM1 HW1 HM HX0
      go_wp2_with fail
      refine (wrong_any s ⟨sa, sc, ca, cc, pa, pc⟩ _ HF.out HM2.out).mono ?_
      rintro e w3 ⟨rfl, hx3⟩
      have HW3 := Lib.hid (HW2.out.trans hx3)
      have HM3 := Lib.hid (HM2.out.ext hx3)
      have HB3 := Lib.hid (HB2.out.ext hx3)
      have HI3 := Lib.hid (HI2.out.ext hx3)
      clear hx3 HW2 HM2 HB2 HI2
      rw [HE.out]
      go_wp2_with fail
      refine (decode_any (encS s) a cap w3 HI3.out (encS_bytes s HOK.out HWD.out) ?_).mono ?_
      · exact Nat.le_trans (encS_len s HOK.out) (by decide)
      rintro e w4 ⟨hx4, ⟨hn, -⟩ | ⟨s', m', hs, rfl, hm'⟩⟩
      · rw [pS_enc s HOK.out HWD.out] at hn; cases hn
      · rw [pS_enc s HOK.out HWD.out] at hs
        cases hs
        obtain ⟨sa', sc', ca', cc', pa', pc'⟩ := m'
        simp only
        have HW4 := Lib.hid (HW3.out.trans hx4)
        have HM4 := Lib.hid (HM3.out.ext hx4)
        have HB4 := Lib.hid (HB3.out.ext hx4)
        have HI4 := Lib.hid (HI3.out.ext hx4)
        have HN4 := Lib.hid hm'
        clear hx4 hm' HW3 HM3 HB3 HI3
        have HBx := Lib.hid (Blk.new w4 #[.int .i64 s.n, .slice sa' s.specs.length sc', .slice ca' s.calls.length cc', .slice pa' s.picks.length pc'] 26)
        have HX5 := Lib.hid ((Ext.refl w4).alloc (.cells #[.int .i64 s.n, .slice sa' s.specs.length sc', .slice ca' s.calls.length cc', .slice pa' s.picks.length pc'] 26))
        go_wp2_with fail
        generalize w4.alloc (.cells #[.int .i64 s.n, .slice sa' s.specs.length sc', .slice ca' s.calls.length cc', .slice pa' s.picks.length pc'] 26) = Wb at *
        generalize w4.heap.size = T at *
        have HB5 := Lib.hid (HB4.out.ext HX5.out)
        have HM5 := Lib.hid (HM4.out.ext HX5.out)
        have HN5 := Lib.hid (HN4.out.ext HX5.out)
        have HI5 := Lib.hid (HI4.out.ext HX5.out)
        have HW5 := Lib.hid (HW4.out.trans HX5.out)
        have c0 := fun w' (hw : Ext Wb w') => (HB5.out.ext hw).cell 0 (v := .int .i64 s.n) rfl
        have c1 := fun w' (hw : Ext Wb w') => (HB5.out.ext hw).cell 1 (v := .slice sa s.specs.length sc) rfl
        have c2 := fun w' (hw : Ext Wb w') => (HB5.out.ext hw).cell 2 (v := .slice ca s.calls.length cc) rfl
        have c3 := fun w' (hw : Ext Wb w') => (HB5.out.ext hw).cell 3 (v := .slice pa s.picks.length pc) rfl
        have d0 := fun w' (hw : Ext Wb w') => (HBx.out.ext hw).cell 0 (v := .int .i64 s.n) rfl
        have d1 := fun w' (hw : Ext Wb w') => (HBx.out.ext hw).cell 1 (v := .slice sa' s.specs.length sc') rfl
        have d2 := fun w' (hw : Ext Wb w') => (HBx.out.ext hw).cell 2 (v := .slice ca' s.calls.length cc') rfl
        have d3 := fun w' (hw : Ext Wb w') => (HBx.out.ext hw).cell 3 (v := .slice pa' s.picks.length pc') rfl
        have h1 := fun w' (hw : Ext Wb w') => str_run w' a cap (encS s) (HI5.out.ext hw)
        generalize hS : strOfNums (encS s) = S at *
        have HS := Lib.hid hS; clear hS
        refine Reg.wp_region_v [(8, 7)] Ext (by kernel_rfl) (by kernel_rfl) (fun _ _ _ => Ext.trans) (Ext.refl _).drew ?_
        repeat (refine Reg.step_det ?_; apply Exists.intro; refine And.intro ?_ ?_; (focus (intro vs w' hw hf; go_wp2_with fail; exact Reg.post_at rfl (Ext.refl _) rfl)); intro A' hA'; simp only [Act.put, List.setIfInBounds_toArray, List.set_cons_zero, List.set_cons_succ] at hA'; have e := funext hA'; subst e; clear hA')
        refine Reg.step_det ?_; apply Exists.intro; refine And.intro ?_ ?_
        focus
          intro vs w' hw hf
          go_wp2_with fail
          refine (ref_any s ⟨sa, sc, ca, cc, pa, pc⟩ _).mono ?_
          rintro e' wn ⟨rfl, hx⟩
          have HX := Lib.hid hx; clear hx
          go_wp2_with fail
          exact Reg.post_at rfl HX.out rfl
        intro A' hA'; simp only [Act.put, List.setIfInBounds_toArray, List.set_cons_zero, List.set_cons_succ] at hA'; have e := funext hA'; subst e; clear hA'
        refine Reg.step_rel (fun v w' => ∃ a2 cap2, v = .slice a2 (encS s).length cap2 ∧ IsInts .u8 w' a2 (encS s)) (by decide) (fun v w1 w2 h hx => ?_) ?_ ?_
        · obtain ⟨a2, cap2, rfl, h⟩ := h
          exact ⟨a2, cap2, rfl, h.ext hx⟩
        · intro vs w' hw hf
          have hr := rbytes_any s ⟨sa, sc, ca, cc, pa, pc⟩ w' HOK.out HWD.out (HM5.out.ext hw)
          have HR := Lib.hid hr; clear hr
          go_wp2_with fail
          refine HR.out.mono ?_
          rintro e' wn ⟨hx, a2, cap2, rfl, -, hi2⟩
          have HX := Lib.hid hx; clear hx
          have HI2 := Lib.hid hi2; clear hi2
          go_wp2_with fail
          exact Reg.post_rel_at _ rfl HX.out rfl ⟨a2, cap2, rfl, HI2.out⟩
        intro A' hA'; simp only [Act.put, List.setIfInBounds_toArray, List.set_cons_zero, List.set_cons_succ] at hA'; have e := funext hA'; subst e; clear hA'
        refine Reg.step_det ?_; apply Exists.intro; refine And.intro ?_ ?_
        focus
          intro vs w' hw hf
          obtain ⟨a2, cap2, h7, hi2⟩ := hf _ (List.mem_cons_self ..) (by simp)
          have h2 := str_run w' a2 cap2 (encS s) hi2
          rw [HS.out] at h2
          simp only at h7
          have H7 := Lib.hid h7; clear h7
          have HI2 := Lib.hid hi2; clear hi2
          clear hf
          simp only [H7.out]
          go_wp2_with fail
          exact Reg.post_at rfl (Ext.refl _) rfl
        intro A' hA'; simp only [Act.put, List.setIfInBounds_toArray, List.set_cons_zero, List.set_cons_succ] at hA'; have e := funext hA'; subst e; clear hA'
        repeat (refine Reg.step_det ?_; apply Exists.intro; refine And.intro ?_ ?_; (focus (intro vs w' hw hf; go_wp2_with fail; exact Reg.post_at rfl (Ext.refl _) rfl)); intro A' hA'; simp only [Act.put, List.setIfInBounds_toArray, List.set_cons_zero, List.set_cons_succ] at hA'; have e := funext hA'; subst e; clear hA')
        refine Reg.step_det ?_; apply Exists.intro; refine And.intro ?_ ?_
        focus
          intro vs w' hw hf
          go_wp2_with fail
          refine (ref_any s ⟨sa', sc', ca', cc', pa', pc'⟩ _).mono ?_
          rintro e' wn ⟨rfl, hx⟩
          have HX := Lib.hid hx; clear hx
          go_wp2_with fail
          exact Reg.post_at rfl HX.out rfl
        intro A' hA'; simp only [Act.put, List.setIfInBounds_toArray, List.set_cons_zero, List.set_cons_succ] at hA'; have e := funext hA'; subst e; clear hA'
        repeat (refine Reg.step_det ?_; apply Exists.intro; refine And.intro ?_ ?_; (focus (intro vs w' hw hf; go_wp2_with fail; exact Reg.post_at rfl (Ext.refl _) rfl)); intro A' hA'; simp only [Act.put, List.setIfInBounds_toArray, List.set_cons_zero, List.set_cons_succ] at hA'; have e := funext hA'; subst e; clear hA')
        refine Reg.step_det ?_; apply Exists.intro; refine And.intro ?_ ?_
        focus
          intro vs w' hw hf
          go_wp2_with fail
          refine (ref_any s ⟨sa, sc, ca, cc, pa, pc⟩ _).mono ?_
          rintro e' wn ⟨rfl, hx⟩
          have HX := Lib.hid hx; clear hx
          go_wp2_with fail
          exact Reg.post_at rfl HX.out rfl
        intro A' hA'; simp only [Act.put, List.setIfInBounds_toArray, List.set_cons_zero, List.set_cons_succ] at hA'; have e := funext hA'; subst e; clear hA'
        refine Reg.step_det ?_; apply Exists.intro; refine And.intro ?_ ?_
        focus
          intro vs w' hw hf
          go_wp2_with fail
          refine (same_any s ⟨sa', sc', ca', cc', pa', pc'⟩ ⟨sa, sc, ca, cc, pa, pc⟩ _ HF.out (HN5.out.ext hw) (HM5.out.ext hw)).mono ?_
          rintro e' wn ⟨rfl, hx⟩
          have HX := Lib.hid hx; clear hx
          go_wp2_with fail
          exact Reg.post_at rfl HX.out rfl
        intro A' hA'; simp only [Act.put, List.setIfInBounds_toArray, List.set_cons_zero, List.set_cons_succ] at hA'; have e := funext hA'; subst e; clear hA'
        repeat (refine Reg.step_det ?_; apply Exists.intro; refine And.intro ?_ ?_; (focus (intro vs w' hw hf; go_wp2_with fail; exact Reg.post_at rfl (Ext.refl _) rfl)); intro A' hA'; simp only [Act.put, List.setIfInBounds_toArray, List.set_cons_zero, List.set_cons_succ] at hA'; have e := funext hA'; subst e; clear hA')
        refine Reg.step_det ?_; apply Exists.intro; refine And.intro ?_ ?_
        focus
          intro vs w' hw hf
          go_wp2_with fail
          refine (three_any _).mono ?_
          rintro e' wn ⟨rfl, hx⟩
          have HX := Lib.hid hx; clear hx
          go_wp2_with fail
          exact Reg.post_at rfl HX.out rfl
        intro A' hA'; simp only [Act.put, List.setIfInBounds_toArray, List.set_cons_zero, List.set_cons_succ] at hA'; have e := funext hA'; subst e; clear hA'
        repeat (refine Reg.step_det ?_; apply Exists.intro; refine And.intro ?_ ?_; (focus (intro vs w' hw hf; go_wp2_with fail; exact Reg.post_at rfl (Ext.refl _) rfl)); intro A' hA'; simp only [Act.put, List.setIfInBounds_toArray, List.set_cons_zero, List.set_cons_succ] at hA'; have e := funext hA'; subst e; clear hA')
        intro vs w' hw hf
        have HW6 := Lib.hid (HW5.out.trans hw)
        clear hw hf
        go_wp2_with fail
        go_ret
        exact ⟨rfl, HW6.out⟩

end Go.Proofs.Ytmnkkmgfkodmhaa
