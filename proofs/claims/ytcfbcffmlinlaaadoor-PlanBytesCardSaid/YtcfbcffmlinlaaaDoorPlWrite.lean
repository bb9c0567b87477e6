/-
  plan.Write, walked.
-/
import Derived.Test.YtcfbcffmlinlaaaDoorPlBd
import Derived.Test.YtcfbcffmlinlaaaDoorPlForm
import Derived.Test.YtcfbcffmlinlaaaDoorPlPure4
namespace Go.Proofs.YtcfbcffmlinlaaaDoor
open Go.RowKit

theorem numsT_len' (l : List Int) : (Pl.numsT l).length ≤ 22 * l.length := numsT_len l
theorem lineT_len' (wd : List UInt8) (l : List Int) : (Pl.lineT wd l).length ≤ wd.length + 22 * l.length + 1 := by
  have := numsT_len l
  unfold Pl.lineT
  simp only [List.length_append, List.length_cons, List.length_nil]; omega
theorem flat_le {α : Type} (g : α → List UInt8) (k : Nat) (hg : ∀ x, (g x).length ≤ k) : ∀ l : List α, (l.flatMap g).length ≤ k * l.length
  | [] => by simp
  | x :: r => by
    have := flat_le g k hg r
    have := hg x
    rw [List.flatMap_cons, List.length_append, List.length_cons, Nat.mul_succ]; omega
theorem picksT_le (f : Nat) : ∀ l : List Int, (Pl.picksT f l).length ≤ 28 * l.length := by
  induction f with
  | zero => intro l; simp [Pl.picksT]
  | succ f ih =>
    intro l
    unfold Pl.picksT
    split
    · simp
    · rename_i h
      have h1 := ih (l.drop 16)
      have h2 := lineT_len' Pl.wP (l.take 16)
      have h3 : Pl.wP.length = 5 := rfl
      have h4 : 0 < l.length := List.length_pos_iff.2 h
      rw [List.length_append]
      rw [List.length_drop] at h1
      rw [List.length_take] at h2
      omega
theorem planT_len {s : Scr} (h : s.ok) : (Pl.planT s).length ≤ 10000000 := by
  obtain ⟨-, h1, h2, h3, -⟩ := h
  have e0 := lineT_len' Pl.wT [s.n]
  have e1 := flat_le Pl.specT 100 (fun x => by have := lineT_len' Pl.wO [x.kind, x.p, x.q]; have h6 : Pl.wO.length = 6 := rfl; unfold Pl.specT; simp at this; omega) s.specs
  have e2 := flat_le Pl.callT 200 (fun x => by have := lineT_len' Pl.wC [x.thread, x.obj, x.kind, x.a, x.b, x.c]; have h6 : Pl.wC.length = 4 := rfl; unfold Pl.callT; simp at this; omega) s.calls
  have e3 := picksT_le s.picks.length s.picks
  have h7 : Pl.wT.length = 7 := rfl
  unfold Pl.planT
  simp only [List.length_append]
  simp at e0
  omega

theorem picksT_step {f : Nat} {l : List Int} (h : l ≠ []) (hf : l.length ≤ f) : Pl.picksT f l = Pl.lineT Pl.wP (l.take 16) ++ Pl.picksT f (l.drop 16) := by
  have hp : 0 < l.length := List.length_pos_iff.2 h
  obtain ⟨g, rfl⟩ : ∃ g, f = g + 1 := ⟨f - 1, by omega⟩
  show (if l = [] then [] else Pl.lineT Pl.wP (l.take 16) ++ Pl.picksT g (l.drop 16)) = _
  rw [if_neg h, Pl.picksT_fuel g (g + 1) (l.drop 16) (by simp; omega) (by simp; omega)]

/-- What plan.Write answers. -/
def WrPost (s : Scr) (w : World) (e : Ending) (w' : World) : Prop :=
  Ext w w' ∧ ((errF s ≠ 0 ∧ e = .returned (.tuple #[.string (St []), .int .i64 (errF s)])) ∨ (errF s = 0 ∧ e = .returned (.tuple #[.string (St (Pl.planT s)), .int .i64 0])))

theorem drop_spec (l : List Spc) (i : Nat) (h : i < l.length) (R : List UInt8) : (l.drop i).flatMap Pl.specT ++ R = Pl.specT (nthD spc0 l i) ++ ((l.drop (i + 1)).flatMap Pl.specT ++ R) := by
  rw [dropD_cons spc0 l i h, List.flatMap_cons, List.append_assoc]
theorem drop_call (l : List Cll) (i : Nat) (h : i < l.length) (R : List UInt8) : (l.drop i).flatMap Pl.callT ++ R = Pl.callT (nthD cll0 l i) ++ ((l.drop (i + 1)).flatMap Pl.callT ++ R) := by
  rw [dropD_cons cll0 l i h, List.flatMap_cons, List.append_assoc]
theorem text_le {P T R : List UInt8} (h : P = T ++ R) (hp : P.length ≤ 10000000) : T.length ≤ 10000000 := by
  have := congrArg List.length h
  rw [List.length_append] at this; omega

set_option maxRecDepth 100000 in
set_option maxHeartbeats 4000000 in
theorem pwrite_any (s : Scr) (m : Lies) (w : World) (hf : Fits s) (hwd : s.wide) (hm : LiesAt s m w) (hpc : s.picks.length ≤ m.pc) :
    Calls Tryd.prog 8 #[.agg #[.int .i64 s.n, .slice m.sa s.specs.length m.sc, .slice m.ca s.calls.length m.cc, .slice m.pa s.picks.length m.pc]] w (WrPost s w) := by
  have hx0 := (Ext.refl w).alloc (.cells #[.int .i64 s.n, .slice m.sa s.specs.length m.sc, .slice m.ca s.calls.length m.cc, .slice m.pa s.picks.length m.pc] 26)
  have hb0 := Blk.new w #[.int .i64 s.n, .slice m.sa s.specs.length m.sc, .slice m.ca s.calls.length m.cc, .slice m.pa s.picks.length m.pc] 26
  have HENC := Lib.hid (encode_any s m (w.alloc (.cells #[.int .i64 s.n, .slice m.sa s.specs.length m.sc, .slice m.ca s.calls.length m.cc, .slice m.pa s.picks.length m.pc] 26)) hf hwd (hm.ext hx0))
  have HM := Lib.hid (hm.ext hx0)
  obtain ⟨⟨fn1, fn2⟩, fsl, fcl, fpl⟩ := hf
  have HWD := Lib.hid hwd
  clear hm hwd
  obtain ⟨sa, sc, ca, cc, pa, pc⟩ := m
  simp only at hx0 hb0 HENC hpc
  go_enter Tryd.func8, Tryd.ntmps8
  go_upto_region 1 with (fail)
  generalize w.alloc (.cells #[.int .i64 s.n, .slice sa s.specs.length sc, .slice ca s.calls.length cc, .slice pa s.picks.length pc] 26) = W0 at *
  have q0 := hb0.cell 0 (v := .int .i64 s.n) rfl
  have q1 := hb0.cell 1 (v := .slice sa s.specs.length sc) rfl
  have q2 := hb0.cell 2 (v := .slice ca s.calls.length cc) rfl
  have q3 := hb0.cell 3 (v := .slice pa s.picks.length pc) rfl
  have HB0 := Lib.hid hb0
  have HX0 := Lib.hid hx0
  clear hb0 hx0
  go_wp2_with fail
  refine HENC.out.mono ?_
  rintro e w1 ⟨hx1, ⟨he, rfl⟩ | ⟨he, a, cap, rfl, -, -⟩⟩
  · have HX1 := Lib.hid (HX0.out.trans hx1)
    have HE := Lib.hid he
    have he1 : (errF s != 0) = true := by simpa using he
    clear he hx1 HENC q0 q1 q2 q3
    go_wp2_with fail
    go_ret2
    exact ⟨HX1.out, .inl ⟨HE.out, rfl⟩⟩
  · have hok := (errF_zero s).1 he
    have HE := Lib.hid he
    have HOK := Lib.hid hok
    have HX1 := Lib.hid (HX0.out.trans hx1)
    have HM1 := Lib.hid (HM.out.ext hx1)
    have HB1 := Lib.hid (HB0.out.ext hx1)
    have HTL := Lib.hid (planT_len hok)
    obtain ⟨⟨n1, n2⟩, k1, k2, k3, -, -, -⟩ := hok
    have HT0 : Hid (Pl.planT s = Pl.lineT Pl.wT [s.n] ++ (s.specs.flatMap Pl.specT ++ (s.calls.flatMap Pl.callT ++ Pl.picksT s.picks.length s.picks))) := Lib.hid rfl
    have hs1 : w.heap.size < w1.heap.size := HB1.out.lt
    clear he hx1 HENC q0 q1 q2 q3 HB0 HX0 HM fsl fcl fpl fn1 fn2
    have q0 := HB1.out.cell 0 (v := .int .i64 s.n) rfl
    go_wp2_with fail
    have hbd := Bd.new w1.heap.size w1 (Nat.le_refl _)
    have hbw : Below w1.heap.size w1 (w1.alloc (.cells #[.pointer none, .slice none 0 0] 52)) := (Ext.refl _).alloc _
    have HBD := Lib.hid hbd
    have HBW := Lib.hid hbw
    clear hbd hbw
    have hin := ints_fresh .u64 (w1.alloc (.cells #[.pointer none, .slice none 0 0] 52)) [s.n] #[.int .u64 s.n] rfl 47 (w1.heap.size + 1) (by simp)
    have HIN := Lib.hid hin
    clear hin
    refine (line_any Pl.wT [s.n] _ _ _ HIN.out (by intro x hx; simp only [List.mem_singleton] at hx; omega) (by simp) (by decide)).mono ?_
    rintro e w2 ⟨rfl, rfl⟩
    clear HIN
    have HBD2 := Lib.hid (HBD.out.ext ((Ext.refl _).alloc (.cells #[.int .u64 s.n] 47)))
    have HBW2 : Hid (Below w1.heap.size w1 ((w1.alloc (.cells #[.pointer none, .slice none 0 0] 52)).alloc (.cells #[.int .u64 s.n] 47))) := Lib.hid (Ext.alloc HBW.out _)
    clear HBD HBW
    generalize (w1.alloc (.cells #[.pointer none, .slice none 0 0] 52)).alloc (.cells #[.int .u64 s.n] 47) = w2 at *
    have ht0 := text_le HT0.out HTL.out
    generalize Pl.lineT Pl.wT [s.n] = T0 at *
    have hsz2 := HBW2.out.size
    go_wp2_with fail
    refine (write_any w1.heap.size w1.heap.size [] T0 _ HBD2.out (by simp) (by omega) hsz2).mono ?_
    rintro e w3 ⟨rfl, hbd, hbw, -⟩
    rw [List.nil_append] at hbd
    have HBD3 := Lib.hid hbd
    have HBW3 := Lib.hid (Below.trans HBW2.out hbw)
    clear hbd hbw HBD2 HBW2 hsz2 ht0 q0
    have hB1 : Hid (w.heap.size < w1.heap.size) := Lib.hid hs1
    clear hs1
    generalize hBe : w1.heap.size = B1 at *
    have HBE := Lib.hid hBe
    clear hBe
    have q1 := (HB1.out.below HBW3.out hB1.out).cell 1 (v := .slice sa s.specs.length sc) rfl
    go_wp2_with fail
    go_loopw [32] (fun v wr => ∃ (i : Nat) (T : List UInt8), i ≤ s.specs.length ∧ v = .int .i64 (i : Int) ∧ Hid (Bd B1 B1 T wr) ∧ Hid (Below B1 w1 wr) ∧ Hid (Pl.planT s = T ++ ((s.specs.drop i).flatMap Pl.specT ++ (s.calls.flatMap Pl.callT ++ Pl.picksT s.picks.length s.picks)))) (fun v _ => s.specs.length - (intOf v).toNat)
    case atStart => exact ⟨0, T0, Nat.zero_le _, rfl, HBD3, HBW3, HT0⟩
    case round =>
      clear HBD3 HBW3 HT0 q1
      obtain ⟨i, T, hi, rfl, HBD, HBW, HT⟩ := hrel
      by_cases hlt : i < s.specs.length
      · have hxi : Ext w1 wr := by unfold Ext; rw [HBE.out]; exact HBW.out
        obtain ⟨b, off, rfl, e0, e1, e2⟩ := (HM1.out.specs.ext hxi).at hlt
        have q1 := (HB1.out.below HBW.out hB1.out).cell 1 (v := .slice (some ⟨b, off, none⟩) s.specs.length sc) rfl
        have HD := Lib.hid (drop_spec s.specs i hlt (s.calls.flatMap Pl.callT ++ Pl.picksT s.picks.length s.picks))
        have hxok := HOK.out.2.2.2.2.1 _ (nthD_mem spc0 s.specs i hlt)
        generalize nthD spc0 s.specs i = x at *
        obtain ⟨x0, x1, x2⟩ := x
        obtain ⟨⟨g0, g1⟩, ⟨g2, g3⟩, ⟨g4, g5⟩⟩ := hxok
        simp only at e0 e1 e2 g0 g1 g2 g3 g4 g5
        have HT2 : Hid (Pl.planT s = (T ++ Pl.specT ⟨x0, x1, x2⟩) ++ ((s.specs.drop (i + 1)).flatMap Pl.specT ++ (s.calls.flatMap Pl.callT ++ Pl.picksT s.picks.length s.picks))) := Lib.hid (by rw [HT.out, HD.out, List.append_assoc])
        have hT1 := text_le HT.out HTL.out
        have hT2 := text_le HT2.out HTL.out
        rw [List.length_append] at hT2
        have hsz := HBW.out.size
        have HX := Lib.hid hxi
        clear hxi HD HT
        go_wp2_with fail
        have HIN := Lib.hid (ints_fresh .u64 (wr.alloc (.cells #[.int .i64 x0, .int .i64 x1, .int .i64 x2] 59)) [x0, x1, x2] #[.int .u64 x0, .int .u64 x1, .int .u64 x2] rfl 47 (wr.heap.size + 1) (by simp))
        refine (line_any Pl.wO [x0, x1, x2] _ _ _ HIN.out (by intro y hy; simp only [List.mem_cons, List.mem_nil_iff, or_false] at hy; rcases hy with rfl | rfl | rfl <;> omega) (by simp) (by decide)).mono ?_
        rintro e w4 ⟨rfl, rfl⟩
        clear HIN
        have HBD4 := Lib.hid ((HBD.out.ext ((Ext.refl _).alloc (.cells #[.int .i64 x0, .int .i64 x1, .int .i64 x2] 59))).ext ((Ext.refl _).alloc (.cells #[.int .u64 x0, .int .u64 x1, .int .u64 x2] 47)))
        have HBW4 : Hid (Below B1 w1 ((wr.alloc (.cells #[.int .i64 x0, .int .i64 x1, .int .i64 x2] 59)).alloc (.cells #[.int .u64 x0, .int .u64 x1, .int .u64 x2] 47))) := Lib.hid (by have := (HX.out.alloc (.cells #[.int .i64 x0, .int .i64 x1, .int .i64 x2] 59)).alloc (.cells #[.int .u64 x0, .int .u64 x1, .int .u64 x2] 47); unfold Ext at this; rw [HBE.out] at this; exact this)
        have hsz4 : B1 ≤ ((wr.alloc (.cells #[.int .i64 x0, .int .i64 x1, .int .i64 x2] 59)).alloc (.cells #[.int .u64 x0, .int .u64 x1, .int .u64 x2] 47)).heap.size := by have := HBE.out; simp; omega
        clear HBD HBW HX e0 e1 e2 q1
        generalize (wr.alloc (.cells #[.int .i64 x0, .int .i64 x1, .int .i64 x2] 59)).alloc (.cells #[.int .u64 x0, .int .u64 x1, .int .u64 x2] 47) = w4 at *
        have HSP : Hid (Pl.specT ⟨x0, x1, x2⟩ = Pl.lineT Pl.wO [x0, x1, x2]) := Lib.hid rfl
        rw [HSP.out] at HT2 hT2
        generalize Pl.lineT Pl.wO [x0, x1, x2] = L at *
        clear HSP
        go_wp2_with fail
        refine (write_any B1 B1 T L _ HBD4.out (by omega) (by omega) hsz4).mono ?_
        rintro e w5 ⟨rfl, hbd, hbw, -⟩
        have HBD5 := Lib.hid hbd
        have HBW5 := Lib.hid (Below.trans HBW4.out hbw)
        clear hbd hbw HBD4 HBW4 hsz4
        go_wp2_with fail
        go_roundw
        case rel => exact ⟨i + 1, T ++ L, by omega, by go_num, HBD5, HBW5, HT2⟩
        case measure => simp [intOf]; omega
      · obtain rfl : i = s.specs.length := by omega
        rw [List.drop_length, List.flatMap_nil, List.nil_append] at HT
        have q2 := (HB1.out.below HBW.out hB1.out).cell 2 (v := .slice ca s.calls.length cc) rfl
        go_wp2_with fail
        obtain ⟨wo, rfl⟩ : ∃ wo : World, wo = wr := ⟨_, rfl⟩
        go_loopw [52] (fun v wr => ∃ (i : Nat) (T : List UInt8), i ≤ s.calls.length ∧ v = .int .i64 (i : Int) ∧ Hid (Bd B1 B1 T wr) ∧ Hid (Below B1 w1 wr) ∧ Hid (Pl.planT s = T ++ ((s.calls.drop i).flatMap Pl.callT ++ Pl.picksT s.picks.length s.picks))) (fun v _ => s.calls.length - (intOf v).toNat)
        case atStart => exact ⟨0, T, Nat.zero_le _, rfl, HBD, HBW, HT⟩
        case round =>
          clear HBD HBW HT q2 hi
          obtain ⟨i, T, hi, rfl, HBD, HBW, HT⟩ := hrel
          by_cases hlt : i < s.calls.length
          · have hxi : Ext w1 wr := by unfold Ext; rw [HBE.out]; exact HBW.out
            obtain ⟨b, off, rfl, e0, e1, e2, e3, e4, e5⟩ := (HM1.out.calls.ext hxi).at hlt
            have q1 := (HB1.out.below HBW.out hB1.out).cell 2 (v := .slice (some ⟨b, off, none⟩) s.calls.length cc) rfl
            have HD := Lib.hid (drop_call s.calls i hlt (Pl.picksT s.picks.length s.picks))
            have hxok := HOK.out.2.2.2.2.2.1 _ (nthD_mem cll0 s.calls i hlt)
            have hxw := HWD.out _ (nthD_mem cll0 s.calls i hlt)
            generalize nthD cll0 s.calls i = x at *
            obtain ⟨x0, x1, x2, x3, x4, x5⟩ := x
            obtain ⟨⟨g0, g1⟩, ⟨g2, g3⟩, ⟨g4, g5⟩⟩ := hxok
            obtain ⟨⟨g6, g7⟩, ⟨g8, g9⟩, ⟨g10, g11⟩⟩ := hxw
            simp only at e0 e1 e2 e3 e4 e5 g0 g1 g2 g3 g4 g5 g6 g7 g8 g9 g10 g11
            have HT2 : Hid (Pl.planT s = (T ++ Pl.callT ⟨x0, x1, x2, x3, x4, x5⟩) ++ ((s.calls.drop (i + 1)).flatMap Pl.callT ++ Pl.picksT s.picks.length s.picks)) := Lib.hid (by rw [HT.out, HD.out, List.append_assoc])
            have hT1 := text_le HT.out HTL.out
            have hT2 := text_le HT2.out HTL.out
            rw [List.length_append] at hT2
            have hsz := HBW.out.size
            have HX := Lib.hid hxi
            clear hxi HD HT
            go_wp2_with fail
            have HIN := Lib.hid (ints_fresh .u64 (wr.alloc (.cells #[.int .i64 x0, .int .i64 x1, .int .i64 x2, .int .u64 x3, .int .u64 x4, .int .u64 x5] 49)) [x0, x1, x2, x3, x4, x5] #[.int .u64 x0, .int .u64 x1, .int .u64 x2, .int .u64 x3, .int .u64 x4, .int .u64 x5] rfl 47 (wr.heap.size + 1) (by simp))
            refine (line_any Pl.wC [x0, x1, x2, x3, x4, x5] _ _ _ HIN.out (by intro y hy; simp only [List.mem_cons, List.mem_nil_iff, or_false] at hy; rcases hy with rfl | rfl | rfl | rfl | rfl | rfl <;> omega) (by simp) (by decide)).mono ?_
            rintro e w4 ⟨rfl, rfl⟩
            clear HIN
            have HBD4 := Lib.hid ((HBD.out.ext ((Ext.refl _).alloc (.cells #[.int .i64 x0, .int .i64 x1, .int .i64 x2, .int .u64 x3, .int .u64 x4, .int .u64 x5] 49))).ext ((Ext.refl _).alloc (.cells #[.int .u64 x0, .int .u64 x1, .int .u64 x2, .int .u64 x3, .int .u64 x4, .int .u64 x5] 47)))
            have HBW4 : Hid (Below B1 w1 ((wr.alloc (.cells #[.int .i64 x0, .int .i64 x1, .int .i64 x2, .int .u64 x3, .int .u64 x4, .int .u64 x5] 49)).alloc (.cells #[.int .u64 x0, .int .u64 x1, .int .u64 x2, .int .u64 x3, .int .u64 x4, .int .u64 x5] 47))) := Lib.hid (by have := (HX.out.alloc (.cells #[.int .i64 x0, .int .i64 x1, .int .i64 x2, .int .u64 x3, .int .u64 x4, .int .u64 x5] 49)).alloc (.cells #[.int .u64 x0, .int .u64 x1, .int .u64 x2, .int .u64 x3, .int .u64 x4, .int .u64 x5] 47); unfold Ext at this; rw [HBE.out] at this; exact this)
            have hsz4 : B1 ≤ ((wr.alloc (.cells #[.int .i64 x0, .int .i64 x1, .int .i64 x2, .int .u64 x3, .int .u64 x4, .int .u64 x5] 49)).alloc (.cells #[.int .u64 x0, .int .u64 x1, .int .u64 x2, .int .u64 x3, .int .u64 x4, .int .u64 x5] 47)).heap.size := by have := HBE.out; simp; omega
            clear HBD HBW HX e0 e1 e2 e3 e4 e5 q1
            generalize (wr.alloc (.cells #[.int .i64 x0, .int .i64 x1, .int .i64 x2, .int .u64 x3, .int .u64 x4, .int .u64 x5] 49)).alloc (.cells #[.int .u64 x0, .int .u64 x1, .int .u64 x2, .int .u64 x3, .int .u64 x4, .int .u64 x5] 47) = w4 at *
            have HSP : Hid (Pl.callT ⟨x0, x1, x2, x3, x4, x5⟩ = Pl.lineT Pl.wC [x0, x1, x2, x3, x4, x5]) := Lib.hid rfl
            rw [HSP.out] at HT2 hT2
            generalize Pl.lineT Pl.wC [x0, x1, x2, x3, x4, x5] = L at *
            clear HSP
            go_wp2_with fail
            refine (write_any B1 B1 T L _ HBD4.out (by omega) (by omega) hsz4).mono ?_
            rintro e w5 ⟨rfl, hbd, hbw, -⟩
            have HBD5 := Lib.hid hbd
            have HBW5 := Lib.hid (Below.trans HBW4.out hbw)
            clear hbd hbw HBD4 HBW4 hsz4
            go_wp2_with fail
            go_roundw
            case rel => exact ⟨i + 1, T ++ L, by omega, by go_num, HBD5, HBW5, HT2⟩
            case measure => simp [intOf]; omega
          · obtain rfl : i = s.calls.length := by omega
            rw [List.drop_length, List.flatMap_nil, List.nil_append] at HT
            go_wp2_with fail
            obtain ⟨wo, rfl⟩ : ∃ wo : World, wo = wr := ⟨_, rfl⟩
            go_loopw [11] (fun v wr => ∃ (fr : Nat) (T : List UInt8), fr ≤ s.picks.length + 16 ∧ v = .int .i64 (fr : Int) ∧ Hid (Bd B1 B1 T wr) ∧ Hid (Below B1 w1 wr) ∧ Hid (Pl.planT s = T ++ Pl.picksT s.picks.length (s.picks.drop fr))) (fun v _ => s.picks.length + 16 - (intOf v).toNat)
            case atStart => exact ⟨0, T, Nat.zero_le _, rfl, HBD, HBW, HT⟩
            case round =>
              clear HBD HBW HT hi
              obtain ⟨fr, T, hfr, rfl, HBD, HBW, HT⟩ := hrel
              have q3 := (HB1.out.below HBW.out hB1.out).cell 3 (v := .slice pa s.picks.length pc) rfl
              by_cases hlt : fr < s.picks.length
              · have hxi : Ext w1 wr := by unfold Ext; rw [HBE.out]; exact HBW.out
                obtain ⟨b, off, rfl, -⟩ := (HM1.out.picks.ext hxi).at hlt
                have HX := Lib.hid hxi
                clear hxi
                have hne : s.picks.drop fr ≠ [] := fun h => by have := List.drop_eq_nil_iff.1 h; omega
                have HPS := Lib.hid (picksT_step (f := s.picks.length) hne (by rw [List.length_drop]; omega))
                clear hne
                obtain ⟨K, hK, hK1, hK2⟩ : ∃ K : Nat, ((min ((fr : Int) + 16) (s.picks.length : Int)).toNat - fr) = K ∧ K ≤ 16 ∧ fr + K ≤ s.picks.length := ⟨_, rfl, by omega, by omega⟩
                have HKE : Hid ((s.picks.drop fr).take 16 = (s.picks.drop fr).take K) := Lib.hid (by
                  by_cases h16 : fr + 16 ≤ s.picks.length
                  · rw [show K = 16 by omega]
                  · rw [List.take_of_length_le (by rw [List.length_drop]; omega), List.take_of_length_le (by rw [List.length_drop]; omega)])
                have HK := Lib.hid hK
                clear hK
                go_wp2_with fail
                simp only [HK.out]
                have hpc : ∀ k, k < K → wr.cell? ⟨b, off + fr + k, none⟩ = some (.int .i64 (nth (s.picks.drop fr) k)) := fun k hk => by
                  obtain ⟨b', off', e1, e2⟩ := (HM1.out.picks.ext HX.out).at (i := fr + k) (by omega)
                  simp only [Option.some.injEq, Addr.mk.injEq, and_true] at e1
                  obtain ⟨rfl, rfl⟩ := e1
                  rw [Nat.add_assoc, e2]
                  simp [nth, List.getElem?_drop]
                have hpb : ∀ k, k < K → 0 ≤ nth (s.picks.drop fr) k ∧ nth (s.picks.drop fr) k ≤ 255 := fun k hk =>
                  HOK.out.2.2.2.2.2.2 _ (List.mem_of_mem_drop (nth_mem (s.picks.drop fr) k (by rw [List.length_drop]; omega)))
                have HPC := Lib.hid hpc
                have HPB := Lib.hid hpb
                have HDL : Hid (fr + K ≤ s.picks.length ∧ (s.picks.drop fr).length = s.picks.length - fr) := Lib.hid ⟨hK2, by rw [List.length_drop]⟩
                clear hpc hpb q3
                obtain ⟨wo, rfl⟩ : ∃ wo : World, wo = wr := ⟨_, rfl⟩
                go_loopw [12, 93] (fun u v wr => ∃ k : Nat, k ≤ K ∧ v = .int .i64 (k : Int) ∧ Hid (Ext wo wr) ∧ Hid (wr.ownsRow wo.heap.size 47 1 u k (((s.picks.drop fr).take k).map (Value.int .u64)))) (fun _ v _ => K - (intOf v).toNat)
                case atStart => exact ⟨0, Nat.zero_le _, rfl, Lib.hid (Ext.refl _), Lib.hid (World.ownsRow_nil _ _ _ _)⟩
                case round =>
                  obtain ⟨k, hk, rfl, HXK, HO⟩ := hrel
                  obtain ⟨va, vc, rfl, -⟩ := own_slice HO.out
                  by_cases hkl : k < K
                  · have e1 := HXK.out.cell (HPC.out k hkl)
                    obtain ⟨x0, x1⟩ := HPB.out k hkl
                    have HS := Lib.hid (take_snoc (s.picks.drop fr) k (by have := HDL.out; omega))
                    generalize nth (s.picks.drop fr) k = x at *
                    go_wp2_with (at_builtin; refine wpList_app1 rfl (.tmp 97) (.tmp 100) 60 rfl wo.heap.size 47 _ 8 Tryd.underlying60 Tryd.infoU64 rfl _ _ _ (.int .u64 x) _ rfl (own_ext HO.out ((Ext.refl _).alloc _)) rfl ?_ rfl ?_ ?_ ?_ ?_; rotate_right; intro v' w3 ho3 hg3 hb3)
                    any_goals (first | (rw [World.cell?_alloc_at _ _ _ _ (by simp)]; rfl) | (unfold maxLen; omega) | omega | (have := HXK.out.size; simp; omega))
                    go_roundw
                    case rel => exact ⟨k + 1, by omega, by go_num, Lib.hid (Below.trans (HXK.out.alloc _) hb3), Lib.hid (by rw [HS.out, List.map_append]; exact ho3)⟩
                    case measure => simp [intOf]; omega
                  · obtain rfl : k = K := by omega
                    have htl : ((s.picks.drop fr).take k).length = k := by have := HDL.out; rw [List.length_take]; omega
                    obtain ⟨a', c', e1, -, -, hin, -⟩ := IsInts.ownK (xs := (s.picks.drop fr).take k) HO.out
                    simp only [Value.slice.injEq] at e1
                    obtain ⟨rfl, -, rfl⟩ := e1
                    have hgl : ∀ x ∈ (s.picks.drop fr).take k, 0 ≤ x ∧ x ≤ 18446744073709551615 := fun x hx => by
                      have := HOK.out.2.2.2.2.2.2 _ (List.mem_of_mem_drop (List.mem_of_mem_take hx))
                      unfold byteOk at this; omega
                    have HLN := Lib.hid (line_any Pl.wP ((s.picks.drop fr).take k) va vc wr hin hgl (by rw [htl]; omega) (by decide))
                    rw [htl] at HLN
                    have HT2 : Hid (Pl.planT s = (T ++ Pl.lineT Pl.wP ((s.picks.drop fr).take k)) ++ Pl.picksT s.picks.length (s.picks.drop (fr + 16))) := Lib.hid (by rw [HT.out, HPS.out, HKE.out, List.drop_drop, List.append_assoc])
                    have hT1 := text_le HT.out HTL.out
                    have hT2 := text_le HT2.out HTL.out
                    rw [List.length_append] at hT2
                    have HBDk := Lib.hid (HBD.out.ext HXK.out)
                    have HBWk : Hid (Below B1 w1 wr) := Lib.hid (Below.trans HBW.out (HXK.out.mono (by have := HBE.out; have := HBW.out.size; omega)))
                    have hszk : B1 ≤ wr.heap.size := by have := HBE.out; have := HBWk.out.size; omega
                    clear htl hin hgl HPC HPB HXK HO HT HPS HKE
                    generalize Pl.lineT Pl.wP ((s.picks.drop fr).take k) = L at *
                    go_wp2_with fail
                    refine HLN.out.mono ?_
                    rintro e w4 ⟨rfl, rfl⟩
                    go_wp2_with fail
                    refine (write_any B1 B1 T L _ HBDk.out (by omega) (by omega) hszk).mono ?_
                    rintro e w5 ⟨rfl, hbd, hbw, -⟩
                    have HBD5 := Lib.hid hbd
                    have HBW5 := Lib.hid (Below.trans HBWk.out hbw)
                    clear hbd hbw HBDk HBWk hszk HLN
                    go_wp2_with fail
                    go_roundw
                    case rel => exact ⟨fr + 16, T ++ L, by omega, by go_num, HBD5, HBW5, HT2⟩
                    case measure => simp [intOf]; omega
              · have HE2 : Hid (Pl.planT s = T) := Lib.hid (by rw [HT.out, List.drop_of_length_le (by omega), Pl.picksT_nil, List.append_nil])
                go_wp2_with fail
                have hsz := HBW.out.size
                refine (told_any B1 B1 T _ HBD.out (by have := HBE.out; omega)).mono ?_
                rintro e w5 ⟨rfl, hbw⟩
                have HBW5 := Lib.hid (Below.trans HBW.out hbw)
                have HX5 : Hid (Ext w w5) := Lib.hid (HX1.out.trans (by unfold Ext; rw [HBE.out]; exact HBW5.out))
                go_wp2_with fail
                go_ret2
                exact ⟨HX5.out, .inr ⟨HE.out, by rw [HE2.out]; rfl⟩⟩

end Go.Proofs.YtcfbcffmlinlaaaDoor
