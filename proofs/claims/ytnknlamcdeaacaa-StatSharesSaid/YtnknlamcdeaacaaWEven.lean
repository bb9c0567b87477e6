/-
  stat.Even, and the law's own examples.
-/
import Derived.Test.YtnknlamcdeaacaaWSums
import Derived.Test.YtnknlamcdeaacaaEven
namespace Go.Proofs.Ytnknlamcdeaacaa
open Go.RowKit

theorem vi {a b : Int} (h : a = b) : Value.int .i64 a = Value.int .i64 b := by rw [h]

theorem fl_flN (n : Nat) : floatOfInt .f64 (n : Int) = flN n := by
  unfold floatOfInt FloatKind.nearest FloatKind.encode flN
  have : decide ((n : Int) < 0) = false := by simp
  rw [this]; rfl

def eSum (l : List Int) : Nat := (sumC 0 1048576 (firsts l)).toNat
def eSq (l : List Int) : Nat := (sqC 0 1048576 (firsts l)).toNat
def eTop (l : List Int) : Nat := (Ieee.double.mul (flN (eSum l)) (flN (eSum l))).getD 0
def eBelow (l : List Int) : Nat := (Ieee.double.mul (flN (firsts l).length) (flN (eSq l))).getD 0

theorem even_facts (l : List Int) : sumC 0 1048576 (firsts l) = (eSum l : Int) ∧ sqC 0 1048576 (firsts l) = (eSq l : Int) ∧
    Ieee.double.mul (flN (eSum l)) (flN (eSum l)) = some (eTop l) ∧ Ieee.double.mul (flN (firsts l).length) (flN (eSq l)) = some (eBelow l) ∧
    (eSq l = 0 → Ieee.double.div (eTop l) (eBelow l) = none) ∧ (eSq l ≠ 0 → ∃ r, Ieee.double.div (eTop l) (eBelow l) = some r ∧ r ≤ ONE) := by
  have a := sumC_bounds 0 1048576 (by omega) (firsts l)
  have b := sqC_bounds 1048576 (by omega) (firsts l)
  have c := firsts_length l
  have d := cauchy 0 1048576 (firsts l)
  have e1 : sumC 0 1048576 (firsts l) = (eSum l : Int) := by unfold eSum; omega
  have e2 : sqC 0 1048576 (firsts l) = (eSq l : Int) := by unfold eSq; omega
  rw [e1, e2] at d
  rw [e1] at a; rw [e2] at b
  have hd : eSum l * eSum l ≤ (firsts l).length * eSq l := by exact_mod_cast d
  have hnq : eSq l ≠ 0 → (firsts l).length ≠ 0 := by
    intro h h0
    rw [h0] at b; omega
  obtain ⟨t, bb, h1, h2, h3, h4⟩ := even_ok (eSum l) (firsts l).length (eSq l) (by omega) (by omega) (by omega) hd hnq
  refine ⟨e1, e2, ?_, ?_, ?_, ?_⟩
  · unfold eTop; rw [h1]; rfl
  · unfold eBelow; rw [h2]; rfl
  · unfold eTop eBelow; rw [h1, h2]; exact h3
  · unfold eTop eBelow; rw [h1, h2]; exact h4

theorem run_mul (P : Program) (t : TypeId) (x y r : Nat) (h : Ieee.double.mul x y = some r) (w : World) : (binOp .mul t (.float .f64 x) (.float .f64 y)).run P w = .ok (.float .f64 r) w :=
  run_float_arith w .mul t .f64 x y r h

/-- What stat.Even answers. -/
def EvenRes (l : List Int) (w : World) (e : Ending) (w' : World) : Prop := ∃ r m, e = .returned (.float .f64 r) ∧ w' = w.drewN m ∧ IsQuo (eTop l) (eBelow l) r

theorem firsts_all (l : List Int) (h : l.length ≤ 4096) : firsts l = l := by unfold firsts; exact List.take_of_length_le h
theorem firsts_len (l : List Int) (h : 4096 < l.length) : (firsts l).length = 4096 := by unfold firsts; rw [List.length_take]; omega
theorem firsts_ints {k : IntKind} {w : World} {a : Option Addr} {l : List Int} (h : IsInts k w a l) : IsInts k w a (firsts l) := by
  rcases h with rfl | ⟨b, off, ha, hc⟩
  · exact .inl rfl
  · refine .inr ⟨b, off, ha, fun i hi => ?_⟩
    have hi2 := hi
    unfold firsts at hi2
    rw [List.length_take] at hi2
    rw [hc i (by omega)]
    unfold firsts nth
    rw [List.getD_eq_getElem?_getD, List.getD_eq_getElem?_getD, List.getElem?_take_of_lt (by omega)]

set_option maxRecDepth 20000 in
set_option maxHeartbeats 400000 in
theorem even_any (a : Option Addr) (cap : Nat) (zs : List Int) (w : World) (hs : IsInts .i64 w a zs) (hcap : zs.length ≤ cap) (hlen : cap ≤ 9223372036854775807) (hnil : a = none → cap = 0) :
    Calls Try.prog 12 #[.slice a zs.length cap] w (EvenRes zs w) := by
  obtain ⟨e1, e2, e3, e4, e5, e6⟩ := even_facts zs
  clear e5 e6
  have HS := Lib.hid (firsts_ints hs); clear hs
  have E1 := Lib.hid e1; clear e1
  have E2 := Lib.hid e2; clear e2
  have E3 := Lib.hid (fun w => run_mul Try.prog 27 _ _ _ e3 w); clear e3
  have E4 := Lib.hid (fun w => run_mul Try.prog 27 _ _ _ e4 w); clear e4
  have HT : Hid ((firsts zs).take (firsts zs).length = firsts zs) := Lib.hid List.take_length
  by_cases hm : 4096 < zs.length
  · have HN : Hid ((firsts zs).length = 4096) := Lib.hid (firsts_len zs hm)
    go_enter Try.func12, Try.ntmps12
    go_wp2
    go_loop [3, 4, 16] (fun o q k => ∃ j : Nat, j ≤ 4096 ∧ k = .int .i64 j ∧ o = .int .i64 (sumC 0 1048576 ((firsts zs).take j)) ∧ q = .int .i64 (sqC 0 1048576 ((firsts zs).take j))) (fun _ _ k => 4096 - (intOf k).toNat)
    case atStart => exact ⟨0, Nat.zero_le _, rfl, rfl, rfl⟩
    case round =>
      obtain ⟨j, hj, rfl, rfl, rfl⟩ := hrel
      have b0 := sumC_bounds 0 1048576 (by omega) ((firsts zs).take j)
      have b1 := sqC_bounds 1048576 (by omega) ((firsts zs).take j)
      have hjl : ((firsts zs).take j).length = j := by rw [List.length_take, HN.out]; omega
      rw [hjl] at b0 b1; clear hjl
      by_cases hlt : j < 4096
      · have hlf : j < (firsts zs).length := by rw [HN.out]; exact hlt
        have H1 := Lib.hid (sumC_succ 0 1048576 (firsts zs) j hlf)
        have H2 := Lib.hid (sqC_succ 0 1048576 (firsts zs) j hlf)
        obtain ⟨b, off, rfl, hc⟩ := HS.out.at hlf
        have hcb := cutI_bounds 0 1048576 (nth (firsts zs) j) (by omega)
        have hqb := sq_bounds 1048576 (cutI 0 1048576 (nth (firsts zs) j)) hcb.1 hcb.2
        clear hlf
        by_cases h1 : nth (firsts zs) j ≤ 0
        · have hcv : cutI 0 1048576 (nth (firsts zs) j) = 0 := by unfold cutI; split <;> (try split) <;> omega
          have HC := Lib.hid hcv; clear hcv hcb hqb
          go_wp2
          go_round
          case rel => exact ⟨j + 1, by omega, by go_num, vi (by rw [H1.out, HC.out]; try omega), vi (by rw [H2.out, HC.out]; try omega)⟩
          case measure => simp [intOf]; omega
        · by_cases h2 : 1048576 < nth (firsts zs) j
          · have hcv : cutI 0 1048576 (nth (firsts zs) j) = 1048576 := by unfold cutI; rw [if_neg (by omega), if_pos h2]
            have HC := Lib.hid hcv; clear hcv hcb hqb
            go_wp2
            go_round
            case rel => exact ⟨j + 1, by omega, by go_num, vi (by rw [H1.out, HC.out]; try omega), vi (by rw [H2.out, HC.out]; try omega)⟩
            case measure => simp [intOf]; omega
          · have hcv : cutI 0 1048576 (nth (firsts zs) j) = nth (firsts zs) j := by unfold cutI; rw [if_neg (by omega), if_neg h2]
            rw [hcv] at hcb hqb
            have HC := Lib.hid hcv; clear hcv
            have h3 : 0 < nth (firsts zs) j := by omega
            go_wp2
            go_round
            case rel => exact ⟨j + 1, by omega, by go_num, vi (by rw [H1.out, HC.out]; try omega), vi (by rw [H2.out, HC.out]; try omega)⟩
            case measure => simp [intOf]; omega
      · have hje : j = 4096 := by omega
        subst hje
        have ht : (firsts zs).take 4096 = firsts zs := by rw [← HN.out]; exact HT.out
        rw [ht]; clear ht b0 b1
        rw [E1.out, E2.out]
        have k3 := E3.out
        have k4 := E4.out
        rw [HN.out] at k4
        have k5 := fl_flN
        obtain ⟨r, m, hr, hq⟩ := run_quo Try.prog w 27 (eTop zs) (eBelow zs)
        have HQ := Lib.hid hq; clear hq
        have k6 : floatOfInt .f64 4096 = flN 4096 := fl_flN 4096
        go_wp2
        go_ret
        exact ⟨r, m, rfl, rfl, HQ.out⟩
  · have hm' : zs.length ≤ 4096 := by omega
    clear hm
    have HN : Hid ((firsts zs).length = zs.length) := Lib.hid (by rw [firsts_all zs hm'])
    go_enter Try.func12, Try.ntmps12
    go_wp2
    go_loop [3, 4, 16] (fun o q k => ∃ j : Nat, j ≤ zs.length ∧ k = .int .i64 j ∧ o = .int .i64 (sumC 0 1048576 ((firsts zs).take j)) ∧ q = .int .i64 (sqC 0 1048576 ((firsts zs).take j))) (fun _ _ k => zs.length - (intOf k).toNat)
    case atStart => exact ⟨0, Nat.zero_le _, rfl, rfl, rfl⟩
    case round =>
      obtain ⟨j, hj, rfl, rfl, rfl⟩ := hrel
      have b0 := sumC_bounds 0 1048576 (by omega) ((firsts zs).take j)
      have b1 := sqC_bounds 1048576 (by omega) ((firsts zs).take j)
      have hjl : ((firsts zs).take j).length = j := by rw [List.length_take, HN.out]; omega
      rw [hjl] at b0 b1; clear hjl
      by_cases hlt : j < zs.length
      · have hlf : j < (firsts zs).length := by rw [HN.out]; exact hlt
        have H1 := Lib.hid (sumC_succ 0 1048576 (firsts zs) j hlf)
        have H2 := Lib.hid (sqC_succ 0 1048576 (firsts zs) j hlf)
        obtain ⟨b, off, rfl, hc⟩ := HS.out.at hlf
        have hcb := cutI_bounds 0 1048576 (nth (firsts zs) j) (by omega)
        have hqb := sq_bounds 1048576 (cutI 0 1048576 (nth (firsts zs) j)) hcb.1 hcb.2
        clear hlf
        by_cases h1 : nth (firsts zs) j ≤ 0
        · have hcv : cutI 0 1048576 (nth (firsts zs) j) = 0 := by unfold cutI; split <;> (try split) <;> omega
          have HC := Lib.hid hcv; clear hcv hcb hqb
          go_wp2
          go_round
          case rel => exact ⟨j + 1, by omega, by go_num, vi (by rw [H1.out, HC.out]; try omega), vi (by rw [H2.out, HC.out]; try omega)⟩
          case measure => simp [intOf]; omega
        · by_cases h2 : 1048576 < nth (firsts zs) j
          · have hcv : cutI 0 1048576 (nth (firsts zs) j) = 1048576 := by unfold cutI; rw [if_neg (by omega), if_pos h2]
            have HC := Lib.hid hcv; clear hcv hcb hqb
            go_wp2
            go_round
            case rel => exact ⟨j + 1, by omega, by go_num, vi (by rw [H1.out, HC.out]; try omega), vi (by rw [H2.out, HC.out]; try omega)⟩
            case measure => simp [intOf]; omega
          · have hcv : cutI 0 1048576 (nth (firsts zs) j) = nth (firsts zs) j := by unfold cutI; rw [if_neg (by omega), if_neg h2]
            rw [hcv] at hcb hqb
            have HC := Lib.hid hcv; clear hcv
            have h3 : 0 < nth (firsts zs) j := by omega
            go_wp2
            go_round
            case rel => exact ⟨j + 1, by omega, by go_num, vi (by rw [H1.out, HC.out]; try omega), vi (by rw [H2.out, HC.out]; try omega)⟩
            case measure => simp [intOf]; omega
      · have hje : j = zs.length := by omega
        subst hje
        have ht : (firsts zs).take zs.length = firsts zs := by rw [← HN.out]; exact HT.out
        rw [ht]; clear ht b0 b1
        rw [E1.out, E2.out]
        have k3 := E3.out
        have k4 := E4.out
        rw [HN.out] at k4
        have k5 := fl_flN
        obtain ⟨r, m, hr, hq⟩ := run_quo Try.prog w 27 (eTop zs) (eBelow zs)
        have HQ := Lib.hid hq; clear hq
        skip
        go_wp2
        go_ret
        exact ⟨r, m, rfl, rfl, HQ.out⟩

end Go.Proofs.Ytnknlamcdeaacaa
