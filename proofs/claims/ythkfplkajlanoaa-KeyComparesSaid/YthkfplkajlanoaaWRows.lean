/-
  KeyRows, walked.
-/
import Derived.Test.YthkfplkajlanoaaWKnown
namespace Go.Proofs.Ythkfplkajlanoaa
open Go.RowKit

theorem vb {a b : Bool} (h : a = b) : Value.bool a = Value.bool b := by rw [h]

/-- What is known of a key that lies in memory. -/
structure KeyIn (l : List Int) (a : Option Addr) (w : World) : Prop where
  ints : IsInts .i64 w a l
  good : ∀ x ∈ l, -9223372036854775808 ≤ x ∧ x ≤ 9223372036854775807
  len : l.length ≤ 9223372036854775807
theorem KeyIn.ext {l : List Int} {a : Option Addr} {w w' : World} (h : KeyIn l a w) (he : Ext w w') : KeyIn l a w' := ⟨h.ints.ext he, h.good, h.len⟩

/-- What the law asks of how two keys stand to one another. -/
def wantK (a b : List Int) : Int := if aheadB a b then -1 else if aheadB b a then 1 else 0
theorem wantK_eq (a b : List Int) : wantK a b = cmpK a b := by
  have h := cmpK_range a b
  have h2 := cmpK_anti a b
  unfold wantK aheadB
  by_cases h1 : cmpK a b < 0
  · rw [decide_eq_true h1, if_pos rfl]; omega
  · rw [decide_eq_false h1, if_neg (by simp)]
    by_cases h3 : cmpK b a < 0
    · rw [decide_eq_true h3, if_pos rfl]; omega
    · rw [decide_eq_false h3, if_neg (by simp)]; omega

/-- Are two keys of one length, and alike so far? -/
def sameN (a b : List Int) (i : Nat) : Bool := decide (a.length = b.length) && decide (a.take i = b.take i)
theorem sameN_zero (a b : List Int) : sameN a b 0 = decide (a.length = b.length) := by unfold sameN; simp
theorem sameN_len {a b : List Int} {i : Nat} (h : sameN a b i = true) : a.length = b.length := by
  unfold sameN at h; simp only [Bool.and_eq_true, decide_eq_true_eq] at h; exact h.1
theorem sameN_succ {a b : List Int} {i : Nat} (h : sameN a b i = true) (hi : i < a.length) : sameN a b (i + 1) = (nth a i == nth b i) := by
  have hl := sameN_len h
  unfold sameN at h ⊢
  simp only [Bool.and_eq_true, decide_eq_true_eq] at h
  rw [take_snoc a i hi, take_snoc b i (by omega), h.2, decide_eq_true hl, Bool.true_and, Bool.eq_iff_iff]
  simp
theorem sameN_no {a b : List Int} {i : Nat} (h : sameN a b i = false) : a ≠ b := by
  rintro rfl
  unfold sameN at h; simp at h
theorem sameN_all {a b : List Int} (h : sameN a b a.length = true) : a = b := by
  have hl := sameN_len h
  unfold sameN at h
  simp only [Bool.and_eq_true, decide_eq_true_eq] at h
  have := h.2
  rw [List.take_length, hl, List.take_length] at this
  exact this

set_option maxRecDepth 100000 in
set_option maxHeartbeats 4000000 in
theorem rows_any (hS : SymAll) (a b c : List Int) (pa pb pc : Option Addr) (ca cb cc : Nat) (w : World) (ha : KeyIn a pa w) (hb : KeyIn b pb w) (hc : KeyIn c pc w) :
    Calls Try.prog 5 #[.slice pa a.length ca, .slice pb b.length cb, .slice pc c.length cc] w fun e w' => e = .returned (.bool true) ∧ Ext w w' := by
  have la := ha.len
  have lb := hb.len
  have lc := hc.len
  have HA := Lib.hid ha
  have HB := Lib.hid hb
  have HC := Lib.hid hc
  have HS := Lib.hid hS
  clear ha hb hc hS
  have hbig : ∀ w : World, Calls Try.prog 6 #[] w fun e w' => e = .returned (.bool true) ∧ Ext w w' := fun w => known_any HS.out w
  have HKN := Lib.hid hbig; clear hbig
  rcases (show (a.length ≤ 1000 ∧ b.length ≤ 1000 ∧ c.length ≤ 1000) ∨ 1000 < a.length ∨ (a.length ≤ 1000 ∧ 1000 < b.length) ∨ (a.length ≤ 1000 ∧ b.length ≤ 1000 ∧ 1000 < c.length) by omega) with ⟨h1, h2, h3⟩ | h1 | ⟨h1, h2⟩ | ⟨h1, h2, h3⟩
  rotate_left
  · have d1 : decide ((a.length : Int) > 1000) = true := decide_eq_true (by omega)
    go_enter Try.func5, Try.ntmps5
    go_wp2_with fail
    refine (HKN.out _).mono ?_
    rintro e w1 ⟨rfl, hx⟩
    have HX := Lib.hid hx; clear hx
    go_wp2_with fail
    go_ret
    exact ⟨rfl, HX.out⟩
  · have d1 : decide ((a.length : Int) > 1000) = false := decide_eq_false (by omega)
    have d2 : decide ((b.length : Int) > 1000) = true := decide_eq_true (by omega)
    go_enter Try.func5, Try.ntmps5
    go_wp2_with fail
    refine (HKN.out _).mono ?_
    rintro e w1 ⟨rfl, hx⟩
    have HX := Lib.hid hx; clear hx
    go_wp2_with fail
    go_ret
    exact ⟨rfl, HX.out⟩
  · have d1 : decide ((a.length : Int) > 1000) = false := decide_eq_false (by omega)
    have d2 : decide ((b.length : Int) > 1000) = false := decide_eq_false (by omega)
    have d3 : decide ((c.length : Int) > 1000) = true := decide_eq_true (by omega)
    go_enter Try.func5, Try.ntmps5
    go_wp2_with fail
    refine (HKN.out _).mono ?_
    rintro e w1 ⟨rfl, hx⟩
    have HX := Lib.hid hx; clear hx
    go_wp2_with fail
    go_ret
    exact ⟨rfl, HX.out⟩
  · have d1 : decide ((a.length : Int) > 1000) = false := decide_eq_false (by omega)
    have d2 : decide ((b.length : Int) > 1000) = false := decide_eq_false (by omega)
    have d3 : decide ((c.length : Int) > 1000) = false := decide_eq_false (by omega)
    have hAB := Lib.hid (kcmp_any a b pa ca pb cb w HA.out.ints HB.out.ints la lb)
    have hBC := Lib.hid (kcmp_any b c pb cb pc cc w HB.out.ints HC.out.ints lb lc)
    have hAC := Lib.hid (kcmp_any a c pa ca pc cc w HA.out.ints HC.out.ints la lc)
    have hBA := kcmp_any b a pb cb pa ca w HB.out.ints HA.out.ints lb la
    have hAA := kcmp_any a a pa ca pa ca w HA.out.ints HA.out.ints la la
    rw [cmpK_anti a b] at hBA
    rw [cmpK_self] at hAA
    have hBA := Lib.hid hBA
    have hAA := Lib.hid hAA
    have HE : Hid (cmpK a b = 0 → a = b) := Lib.hid cmpK_zero
    have HE2 : Hid (a = b → cmpK a b = 0) := Lib.hid (fun h => by rw [h]; exact cmpK_self b)
    have hr := cmpK_range a b
    have hr1 : -1 ≤ cmpK a b ∧ cmpK a b ≤ 1 := by omega
    have HL1 : Hid (cmpK a b < 0 → cmpK b c ≤ 0 → cmpK a c < 0) := Lib.hid (fun h k => (cfK_cmp [a, b, c]).lt_le (x := 0) (y := 1) (z := 2) h k)
    have HL2 : Hid (cmpK a b ≤ 0 → cmpK b c < 0 → cmpK a c < 0) := Lib.hid (fun h k => (cfK_cmp [a, b, c]).le_lt (x := 0) (y := 1) (z := 2) h k)
    clear hr
    generalize cmpK a b = x at *
    generalize cmpK b c = y at *
    generalize cmpK a c = z at *
    have hsg : (x < 0 ∧ y < 0) ∨ (x < 0 ∧ y ≤ 0 ∧ 0 ≤ y) ∨ (x < 0 ∧ 0 < y) ∨ (x ≤ 0 ∧ 0 ≤ x ∧ y < 0) ∨ (x ≤ 0 ∧ 0 ≤ x ∧ 0 ≤ y) ∨ 0 < x := by omega
    have HEQ : Hid (∀ s : Bool, (s = true → a = b) → (s = false → a ≠ b) → ((x == 0) == s) = true) := Lib.hid (fun s h1 h2 => by
      cases s
      · have := h2 rfl
        have : x ≠ 0 := fun h => this (HE.out h)
        simp [this]
      · rw [HE2.out (h1 rfl)]; rfl)
    have hneg : IntKind.i64.wrap (-x) = -x := by rw [IntKind.wrap_i64]; omega
    rcases hsg with ⟨s1, s2⟩ | ⟨s1, s2, s2'⟩ | ⟨s1, s2⟩ | ⟨s1, s1', s2⟩ | ⟨s1, s1', s2⟩ | s1
    rotate_left
    rotate_left
    all_goals first
      | (have f1 : decide (x < 0) = true := decide_eq_true s1
         have f2 : decide (y ≤ 0) = true := decide_eq_true (by omega)
         have f3 : decide (z ≥ 0) = false := decide_eq_false (by have := HL1.out s1 (by omega); omega)
         have f4 : decide (x ≤ 0) = true := decide_eq_true (by omega)
         have f5 : decide (y < 0) = true := decide_eq_true (by omega))
      | (have f1 : decide (x < 0) = true := decide_eq_true s1
         have f2 : decide (y ≤ 0) = true := decide_eq_true (by omega)
         have f3 : decide (z ≥ 0) = false := decide_eq_false (by have := HL1.out s1 (by omega); omega)
         have f4 : decide (x ≤ 0) = true := decide_eq_true (by omega)
         have f5 : decide (y < 0) = false := decide_eq_false (by omega))
      | (have f1 : decide (x < 0) = true := decide_eq_true s1
         have f2 : decide (y ≤ 0) = false := decide_eq_false (by omega)
         have f4 : decide (x ≤ 0) = true := decide_eq_true (by omega)
         have f5 : decide (y < 0) = false := decide_eq_false (by omega))
      | (have f1 : decide (x < 0) = false := decide_eq_false (by omega)
         have f4 : decide (x ≤ 0) = true := decide_eq_true (by omega)
         have f5 : decide (y < 0) = true := decide_eq_true (by omega)
         have f3 : decide (z ≥ 0) = false := decide_eq_false (by have := HL2.out s1 (by omega); omega))
      | (have f1 : decide (x < 0) = false := decide_eq_false (by omega)
         have f4 : decide (x ≤ 0) = true := decide_eq_true (by omega)
         have f5 : decide (y < 0) = false := decide_eq_false (by omega))
      | (have f1 : decide (x < 0) = false := decide_eq_false (by omega)
         have f4 : decide (x ≤ 0) = false := decide_eq_false (by omega))
    all_goals
      go_enter Try.func5, Try.ntmps5
      go_wp2_with fail
      refine hAB.out.mono ?_
      rintro e w' ⟨rfl, rfl⟩
      go_wp2_with fail
      refine hBC.out.mono ?_
      rintro e w' ⟨rfl, rfl⟩
      go_wp2_with fail
      refine hAC.out.mono ?_
      rintro e w' ⟨rfl, rfl⟩
      go_wp2_with fail
      refine hBA.out.mono ?_
      rintro e w' ⟨rfl, rfl⟩
      go_wp2_with fail
      refine hAA.out.mono ?_
      rintro e w' ⟨rfl, rfl⟩
      go_upto_region 6 with (fail)
      have HZ := Lib.hid (sameN_zero a b)
      have hdz : ((a.length : Int) == (b.length : Int)) = sameN a b 0 := by rw [HZ.out, Bool.eq_iff_iff]; simp; omega
      generalize hs0 : sameN a b 0 = sm0 at *
      have HS0 := Lib.hid hs0; clear hs0
      clear d1 d2 d3
      go_wp2_with fail
      go_loopw [10, 11] (fun u v wr => ∃ (i : Nat) (sm : Bool), u = .bool sm ∧ v = .int .i64 (i : Int) ∧ i ≤ a.length ∧ Hid (sameN a b i = sm) ∧ Hid (Ext w wr)) (fun _ v _ => a.length - (intOf v).toNat)
      case atStart => exact ⟨0, sm0, rfl, rfl, Nat.zero_le _, HS0, Lib.hid (Ext.refl _)⟩
      case round =>
        clear HS0 hdz
        obtain ⟨i, sm, rfl, rfl, hi, HSM, HW⟩ := hrel
        cases sm with
        | true =>
          have hlen := sameN_len HSM.out
          by_cases hlt : i < a.length
          · have hlt2 : i < b.length := by omega
            obtain ⟨ba, oa, rfl, e1⟩ := (HA.out.ext HW.out).ints.at hlt
            obtain ⟨bb, ob, rfl, e2⟩ := (HB.out.ext HW.out).ints.at hlt2
            have HN := Lib.hid (sameN_succ HSM.out hlt)
            have HLEN := Lib.hid hlen; clear hlen
            generalize nth a i = u1 at *
            generalize nth b i = u2 at *
            go_wp2_with fail
            go_quiet (fail)
            go_wp2_with fail
            go_roundw
            case rel => exact ⟨i + 1, _, rfl, by go_num, by omega, HN, Lib.hid (HW.out.drewN _)⟩
            case measure => simp [intOf]; omega
          · obtain rfl : i = a.length := by omega
            have heq := HEQ.out true (fun _ => sameN_all HSM.out) (fun h => by cases h)
            clear hlen
            go_wp2_with fail
            refine (HKN.out _).mono ?_
            rintro e w1 ⟨rfl, hx⟩
            have HX := Lib.hid (HW.out.trans hx); clear hx
            go_wp2_with fail
            go_ret
            exact ⟨rfl, HX.out⟩
        | false =>
          have heq := HEQ.out false (fun h => by cases h) (fun _ => sameN_no HSM.out)
          go_wp2_with fail
          refine (HKN.out _).mono ?_
          rintro e w1 ⟨rfl, hx⟩
          have HX := Lib.hid (HW.out.trans hx); clear hx
          go_wp2_with fail
          go_ret
          exact ⟨rfl, HX.out⟩

end Go.Proofs.Ythkfplkajlanoaa
