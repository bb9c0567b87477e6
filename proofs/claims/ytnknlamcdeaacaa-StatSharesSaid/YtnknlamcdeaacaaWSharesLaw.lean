/-
  The law StatShares.
-/
import Derived.Test.YtnknlamcdeaacaaWShares
import Derived.Deep.RegionWith
namespace Go.Proofs.Ytnknlamcdeaacaa
open Go.RowKit

def quoR (W : World) (x y : Nat) : Nat := match Ieee.double.div x y with
  | some r => r
  | none => (Question.nanBits .f64 x y).cut (W.tape W.drawn (.nanBits .f64 x y))
def quoM (x y : Nat) : Nat := match Ieee.double.div x y with
  | some _ => 0
  | none => 1

theorem run_quoR (P : Program) (t : TypeId) (x y : Nat) (W : World) : (binOp .quo t (.float .f64 x) (.float .f64 y)).run P W = .ok (.float .f64 (quoR W x y)) (W.drewN (quoM x y)) := by
  unfold quoR quoM
  cases h : Ieee.double.div x y with
  | some r => exact run_float_arith W .quo t .f64 x y r h
  | none =>
    have h' : FloatKind.f64.format.div x y = none := h
    simp [binOp, Op.floatArith, h', Question.forced]; rfl

theorem quoR_is (W : World) (x y : Nat) : IsQuo x y (quoR W x y) := by
  unfold quoR
  cases h : Ieee.double.div x y with
  | some r => exact ⟨some_lt h, .inl h⟩
  | none => exact ⟨cut_lt _, .inr ⟨h, nan_cut _⟩⟩

theorem same_quo (x y r s : Nat) (h1 : IsQuo x y r) (h2 : IsQuo x y s) (w : World) : Calls Try.prog 9 #[.float .f64 r, .float .f64 s] w fun e w' => e = .returned (.bool true) ∧ w' = w := by
  have := same_any r s w h1.1 h2.1
  rw [quo_same h1 h2] at this
  exact this

set_option maxRecDepth 20000 in
set_option maxHeartbeats 1000000 in
theorem shares_walk (a b : Option Addr) (c d : Nat) (ms : List Int) (es : List Ev) (w : World) (hm : IsInts .i64 w a ms) (he : IsEvs w b es) (hml : ms.length ≤ 9223372036854775807) :
    Calls Try.prog 6 #[.slice a ms.length c, .slice b es.length d] w fun e w' => e = .returned (.bool true) ∧ Ext w w' := by
  by_cases hbig : 1000 < es.length
  · go_enter Try.func6, Try.ntmps6
    go_wp2_with (go_at_call 7; refine (known_any _).mono ?_; rintro e w' ⟨rfl, hext⟩)
    go_ret
    exact ⟨rfl, hext⟩
  · have hsh := Lib.hid (shares_any a b c d ms es w hm he hml (by omega))
    have HM := Lib.hid hm; clear hm
    have HE := Lib.hid he; clear he
    go_enter Try.func6, Try.ntmps6
    go_wp2_with fail
    refine hsh.out.mono ?_
    rintro e w1 ⟨rs, ar, cr, rfl, hrl, hrs, hshd, hext⟩
    have HRL := Lib.hid hrl; clear hrl
    have HRS := Lib.hid hrs; clear hrs
    have HSD := Lib.hid hshd; clear hshd
    clear hsh
    go_wp2_with fail
    go_loopw [22] (fun k wr => ∃ j : Nat, j ≤ es.length ∧ k = .int .i64 j ∧ Ext w1 wr) (fun k _ => es.length - (intOf k).toNat)
    case atStart => exact ⟨0, Nat.zero_le _, rfl, Ext.refl _⟩
    case round =>
      obtain ⟨j, hj, rfl, hx1⟩ := hrel
      have hx := hext.trans hx1
      by_cases hlt : j < es.length
      · have HX1 := Lib.hid hx1; clear hx1
        rcases HE.out with h0 | ⟨bb, off, rfl, hc⟩
        · rw [h0] at hlt; simp at hlt
        obtain ⟨c0, _, _, c3, _, _, _, _⟩ := hc j hlt
        clear hc
        have d0 := hx.cell c0
        have d3 := hx.cell c3
        clear c0 c3
        obtain ⟨br, orr, rfl, hcr⟩ := (HRS.out.ext HX1.out).at (i := j) (by rw [HRL.out]; exact hlt)
        have hq := HSD.out j (by rw [HRL.out]; exact hlt)
        generalize nthD ev0 es j = e at *
        generalize nthD 0 rs j = r at *
        have HX := Lib.hid hx; clear hx
        have HQ := Lib.hid hq; clear hq
        by_cases hin : 0 ≤ e.call ∧ e.call < ms.length
        all_goals
          first
          | (have HMO : Hid (mOf ms e.call = nth ms e.call.toNat) := Lib.hid (by unfold mOf; rw [if_pos hin])
             obtain ⟨h1, h2⟩ := hin
             obtain ⟨bm, om, rfl, hcm⟩ := (HM.out.ext HX.out).at (i := e.call.toNat) (by omega))
          | (have HMO : Hid (mOf ms e.call = 0) := Lib.hid (by unfold mOf; rw [if_neg hin])
             have hin2 : e.call < 0 ∨ (ms.length : Int) ≤ e.call := by omega
             clear hin)
        · have hq2 := HQ.out
          rw [HMO.out] at hq2
          have HC := Lib.hid (fun W => same_quo _ _ r _ hq2 (quoR_is W _ _)); clear hq2
          have hrun := fun W => run_quoR Try.prog 27 (floatOfInt .f64 e.steps) (floatOfInt .f64 (nth ms e.call.toNat)) W
          go_wp2
          go_region_with (first | (go_at_call 9; refine (HC.out _ _).mono ?_; rintro e' w' ⟨rfl, rfl⟩))
          go_wp2_with (go_at_call 9; refine (HC.out _ _).mono ?_; rintro e' w' ⟨rfl, rfl⟩)
          all_goals
            all_goals
              go_roundw
              case rel => exact ⟨j + 1, by omega, by go_num, HX1.out.drewN _⟩
              case measure => simp [intOf]; omega
        · have hq2 := HQ.out
          rw [HMO.out] at hq2
          have HC := Lib.hid (fun W => same_quo _ _ r _ hq2 (quoR_is W _ _)); clear hq2
          have hrun := fun W => run_quoR Try.prog 27 (floatOfInt .f64 e.steps) (floatOfInt .f64 0) W
          rcases hin2 with hin2 | hin2
          all_goals
            go_wp2
            go_region_with (first | (go_at_call 9; refine (HC.out _ _).mono ?_; rintro e' w' ⟨rfl, rfl⟩))
            go_wp2_with (go_at_call 9; refine (HC.out _ _).mono ?_; rintro e' w' ⟨rfl, rfl⟩)
            all_goals
              go_roundw
              case rel => exact ⟨j + 1, by omega, by go_num, HX1.out.drewN _⟩
              case measure => simp [intOf]; omega
      · go_wp2_with (go_at_call 7; refine (known_any _).mono ?_; rintro e w' ⟨rfl, hext3⟩)
        go_ret
        exact ⟨rfl, hx.trans hext3⟩

end Go.Proofs.Ytnknlamcdeaacaa
