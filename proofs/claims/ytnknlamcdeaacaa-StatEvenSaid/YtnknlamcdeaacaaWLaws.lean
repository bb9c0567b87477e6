/-
  The laws StatRatios and StatEven.
-/
import Derived.Test.YtnknlamcdeaacaaWKnown
namespace Go.Proofs.Ytnknlamcdeaacaa
open Go.RowKit

set_option maxHeartbeats 400000 in
theorem ratios_walk (a : Option Addr) (cap : Nat) (zs : List Int) (x y : Int) (w : World) (hs : IsInts .i64 w a zs) :
    Calls Try.prog 3 #[.int .i64 x, .int .i64 y, .slice a zs.length cap] w fun e w' => e = .returned (.bool true) ∧ Ext w w' := by
  by_cases hbig : 100000 < zs.length
  · go_enter Try.func3, Try.ntmps3
    go_wp2_with (go_at_call 7; refine (known_any _).mono ?_; rintro e w' ⟨rfl, hext⟩)
    go_ret
    exact ⟨rfl, hext⟩
  · have hsum := fun w hs => Lib.hid (sum_ratio a cap zs w hs (by omega))
    have hmean := fun w hs => Lib.hid (mean_any a cap zs w hs (by omega))
    have HS := Lib.hid hs; clear hs
    go_enter Try.func3, Try.ntmps3
    go_wp2_with fail
    refine ((hsum _ HS.out).out).mono ?_
    rintro e w1 ⟨q, rfl, rfl⟩
    go_wp2_with fail
    refine (ratio_any _ _ _).mono ?_
    rintro e w2 ⟨r1, m1, rfl, rfl, h1⟩
    obtain ⟨r2, m2, hr2, h2⟩ := run_quo Try.prog (w1.drewN m1) 27 (floatOfInt .f64 x) (floatOfInt .f64 y)
    have H2 := Lib.hid h2; clear h2
    have H1 := Lib.hid h1; clear h1
    go_wp2_with fail
    clear hr2
    refine (same_any _ _ _ H1.out.1 H2.out.1).mono ?_
    rintro e w3 ⟨rfl, rfl⟩
    rw [quo_same H1.out H2.out]
    clear H1 H2
    go_wp2_with fail
    refine ((hmean _ (HS.out.ext ((Ext.refl _).drewN _))).out).mono ?_
    rintro e w4 ⟨r3, m3, rfl, rfl, h3⟩
    have H3 := Lib.hid h3; clear h3
    obtain ⟨r4, m4, hr4, h4⟩ := run_quo Try.prog ((w1.drewN (m1 + m2)).drewN m3) 27 (floatOfInt .f64 (sumC (-1073741824) 1073741824 zs)) (floatOfInt .f64 zs.length)
    have H4 := Lib.hid h4; clear h4
    simp only [World.drewN_drewN] at hr4
    go_wp2_with fail
    clear hr4
    refine (same_any _ _ _ H3.out.1 H4.out.1).mono ?_
    rintro e w5 ⟨rfl, rfl⟩
    rw [quo_same H3.out H4.out]
    go_wp2_with (go_at_call 7; refine (known_any _).mono ?_; rintro e w' ⟨rfl, hext⟩)
    go_ret
    exact ⟨rfl, ((Ext.refl _).drewN _).trans hext⟩

theorem nan_of_none {x y r : Nat} (h : IsQuo x y r) (hn : Ieee.double.div x y = none) : nan r = true := by
  rcases h.2 with a | ⟨_, b⟩
  · rw [hn] at a; cases a
  · exact b

theorem le_one_facts (r : Nat) (h : r ≤ ONE) : nan r = false ∧ (FloatKind.f64.format.order r 4607182418800017408 = some .lt ∨ FloatKind.f64.format.order r 4607182418800017408 = some .eq) := by
  have hO : ONE < INF := by decide
  have hi := infl
  obtain ⟨e1, e2⟩ := rung_small r (by omega)
  obtain ⟨f1, f2⟩ := rung_small ONE (by omega)
  have hn : nan r = false := by unfold nan; rw [e1]; exact decide_eq_false (by omega)
  have hn1 : nan ONE = false := by decide
  have k1 : key r = r := by unfold key; rw [e2, e1]; rfl
  have k2 : key ONE = ONE := by unfold key; rw [f2, f1]; rfl
  refine ⟨hn, ?_⟩
  by_cases he : r = ONE
  · exact .inr (fo_same r ONE hn hn1 (by rw [k1, k2, he]))
  · exact .inl (fo_lt r ONE hn hn1 (by rw [k1, k2]; omega))

set_option maxRecDepth 20000 in
set_option maxHeartbeats 1000000 in
theorem evens_walk (a : Option Addr) (cap : Nat) (zs : List Int) (w : World) (hs : IsInts .i64 w a zs) (hcap : zs.length ≤ cap) (hlen : cap ≤ 9223372036854775807) (hnil : a = none → cap = 0) :
    Calls Try.prog 4 #[.slice a zs.length cap] w fun e w' => e = .returned (.bool true) ∧ Ext w w' := by
  obtain ⟨e1, e2, e3, e4, e5, e6⟩ := even_facts zs
  have hsum := fun w hs => Lib.hid (sum_even a cap zs w hs (by omega))
  have heven := Lib.hid (even_any a cap zs w hs hcap hlen hnil)
  have HS := Lib.hid hs; clear hs
  have E1 := Lib.hid e1; clear e1
  have E2 := Lib.hid e2; clear e2
  have k3 := fun w => run_mul Try.prog 27 _ _ _ e3 w; clear e3
  have k4 := fun w => run_mul Try.prog 27 _ _ _ e4 w; clear e4
  have K3 := Lib.hid k3
  have K4 := Lib.hid k4
  clear k3 k4
  have E5 := Lib.hid e5; clear e5
  have E6 := Lib.hid e6; clear e6
  go_enter Try.func4, Try.ntmps4
  go_wp2_with fail
  refine heven.out.mono ?_
  rintro e w1 ⟨r1, m1, rfl, rfl, h1⟩
  have H1 := Lib.hid h1; clear h1
  go_wp2_with fail
  refine ((hsum _ (HS.out.ext ((Ext.refl _).drewN _))).out).mono ?_
  rintro e w2 ⟨rfl, rfl⟩
  rw [E1.out, E2.out]
  obtain ⟨r2, m2, hr2, h2⟩ := run_quo Try.prog (w.drewN m1) 27 (eTop zs) (eBelow zs)
  have H2 := Lib.hid h2; clear h2
  have k3 := K3.out
  have k4 := K4.out
  have k5 := fl_flN
  clear hsum heven
  go_wp2_with fail
  clear hr2 k3 k4
  refine (same_any _ _ _ H1.out.1 H2.out.1).mono ?_
  rintro e w3 ⟨rfl, rfl⟩
  rw [quo_same H1.out H2.out]
  by_cases hq : eSq zs = 0
  · have hn := nan_of_none H1.out (E5.out hq)
    have f1 := fo_nan r1 hn
    have f2 : FloatKind.f64.format.order r1 4607182418800017408 = none := order_nan_left r1 _ hn
    clear hn
    rw [hq]
    go_wp2_with (go_at_call 7; refine (known_any _).mono ?_; rintro e w' ⟨rfl, hext⟩)
    go_ret
    exact ⟨rfl, ((Ext.refl _).drewN _).trans hext⟩
  · obtain ⟨r, hr, hle⟩ := E6.out hq
    have e := quo_some H1.out hr
    subst e
    obtain ⟨hn, f2⟩ := le_one_facts r1 hle
    have f1 := fo_self r1 hn
    have hz : (((eSq zs : Nat) : Int) == 0) = false := by simpa using hq
    have hnn : ¬ (((eSq zs : Nat) : Int) = 0) := by omega
    clear hn hle hr hq
    rcases f2 with f2 | f2
    all_goals
      go_wp2_with (go_at_call 7; refine (known_any _).mono ?_; rintro e w' ⟨rfl, hext⟩)
      go_ret
      exact ⟨rfl, ((Ext.refl _).drewN _).trans hext⟩

end Go.Proofs.Ytnknlamcdeaacaa
