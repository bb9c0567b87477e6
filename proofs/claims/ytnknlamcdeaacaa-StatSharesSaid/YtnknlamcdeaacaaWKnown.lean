/-
  The law's own examples.
-/
import Derived.Test.YtnknlamcdeaacaaWEven
namespace Go.Proofs.Ytnknlamcdeaacaa
open Go.RowKit

theorem quo_some {x y r s : Nat} (h : IsQuo x y r) (hs : Ieee.double.div x y = some s) : r = s := by
  rcases h.2 with a | ⟨a, _⟩
  · rw [hs] at a; exact (Option.some.inj a).symm
  · rw [hs] at a; cases a

set_option maxRecDepth 20000 in
set_option maxHeartbeats 1000000 in
theorem known_any (w : World) : Calls Try.prog 7 #[] w fun e w' => e = .returned (.bool true) ∧ Ext w w' := by
  have q1 : ∀ w, (binOp .quo 27 (.float .f64 4607182418800017408) (.float .f64 0)).run Try.prog w = .ok (.float .f64 INF) w := fun w => run_float_arith w .quo 27 .f64 4607182418800017408 0 INF (by decide)
  have n1 : ∀ w, (Op.unary .neg (.float .f64 0)).run Try.prog w = .ok (.float .f64 B63) w := fun w => by kernel_rfl
  have g1 : greatest [B63, 0] NINF = 0 := by decide
  have g2 : greatest [0, INF] NINF = INF := by decide
  have o1 : FloatKind.f64.format.order 4598175219545276416 4598175219545276416 = some .eq := by decide
  have o2 : FloatKind.f64.format.order 4609434218613702656 4609434218613702656 = some .eq := by decide
  have o3 : FloatKind.f64.format.order INF 9094988921128908188 = some .gt := by decide
  have s1 : sameF 4606181618882823964 4606181618882823964 = true := by decide
  have s2 : sameF 0 0 = true := by decide
  have d1 : Ieee.double.div (fl 1) (fl 4) = some 4598175219545276416 := by decide
  have d2 : Ieee.double.div (eTop [1, 1, 2]) (eBelow [1, 1, 2]) = some 4606181618882823964 := by decide
  have d3 : Ieee.double.div (fl (sumC (-1073741824) 1073741824 [1, 2])) (fl 2) = some 4609434218613702656 := by decide
  have G1 := Lib.hid g1
  have G2 := Lib.hid g2
  have D1 := Lib.hid d1
  have D2 := Lib.hid d2
  have D3 := Lib.hid d3
  have S1 := Lib.hid s1
  have S2 := Lib.hid s2
  clear g1 g2 d1 d2 d3 s1 s2
  go_enter Try.func7, Try.ntmps7
  go_wp2_with fail
  refine (greatest_any _ _ [B63, 0] _ (.inr ⟨w.heap.size, 0, rfl, fun i hi => ?_⟩) (fun i hi => ?_) (by decide)).mono ?_
  · match i, hi with
    | 0, _ => simp [nthD]
    | 1, _ => simp [nthD]
  · match i, hi with
    | 0, _ => decide
    | 1, _ => decide
  rintro e w1 ⟨rfl, rfl⟩
  rw [G1.out]
  go_wp2_with fail
  refine (greatest_any _ _ [0, INF] _ (.inr ⟨w.heap.size + 1, 0, rfl, fun i hi => ?_⟩) (fun i hi => ?_) (by decide)).mono ?_
  · match i, hi with
    | 0, _ => simp [nthD]
    | 1, _ => simp [nthD]
  · match i, hi with
    | 0, _ => decide
    | 1, _ => decide
  rintro e w2 ⟨rfl, rfl⟩
  rw [G2.out]
  go_wp2_with fail
  refine (ratio_any _ _ _).mono ?_
  rintro e w3 ⟨r1, m1, rfl, rfl, hq⟩
  have hr := quo_some hq D1.out
  subst hr
  clear hq
  go_wp2_with fail
  refine (even_any _ _ [1, 1, 2] _ (ints_fresh _ _ _ _ rfl _ _ (by simp)) (by decide) (by decide) (fun h => by cases h)).mono ?_
  rintro e w4 ⟨r2, m2, rfl, rfl, hq⟩
  have hr := quo_some hq D2.out
  subst hr
  clear hq
  go_wp2_with fail
  refine (same_any _ _ _ (by decide) (by decide)).mono ?_
  rintro e w5 ⟨rfl, rfl⟩
  rw [S1.out]
  go_wp2_with fail
  refine (mean_any _ _ [1, 2] _ (ints_fresh _ _ _ _ rfl _ _ (by simp)) (by decide)).mono ?_
  rintro e w6 ⟨r3, m3, rfl, rfl, hq⟩
  have hr := quo_some hq D3.out
  subst hr
  clear hq
  go_wp2_with fail
  refine (same_any _ _ _ (by decide) (by decide)).mono ?_
  rintro e w7 ⟨rfl, rfl⟩
  rw [S2.out]
  go_wp2
  go_ret
  exact ⟨rfl, (((((((Ext.refl w).alloc _).alloc _).drewN _).alloc _).drewN _).alloc _).drewN _⟩

end Go.Proofs.Ytnknlamcdeaacaa
