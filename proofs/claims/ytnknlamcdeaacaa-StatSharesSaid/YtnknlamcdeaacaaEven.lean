/-
  How even numbers are is never above 1: no program in sight.
-/
import Derived.Test.YtnknlamcdeaacaaRound
namespace Go.Proofs.Ytnknlamcdeaacaa
open Ieee

theorem infl : INF < B63 := by decide

theorem rung_small (r : Nat) (h : r < B63) : rung r = r ∧ neg r = false := by
  unfold rung neg
  rw [Nat.mod_eq_of_lt h, Nat.div_eq_of_lt h]; exact ⟨rfl, rfl⟩

/-- the word of a whole number. -/
def flN (n : Nat) : Nat := double.nearest false n 0

theorem flN_zero : flN 0 = 0 := by decide

theorem flN_read (n : Nat) (h0 : n ≠ 0) (h : n < 2 ^ 53) : double.read (flN n) = .number false (n * 2 ^ (52 - n.log2)) ((n.log2 : Int) - 52) := by
  have hl : n.log2 ≤ 52 := by
    have := (Nat.log2_lt h0).2 h; omega
  have h1 : 2 ^ n.log2 ≤ n := Nat.log2_self_le h0
  have h2 : n < 2 ^ (n.log2 + 1) := Nat.lt_log2_self
  have eB : B52 = 2 ^ 52 := by decide
  have eL : lastOf n 0 = (n.log2 : Int) - 52 := by unfold lastOf; omega
  have k1 : B52 ≤ n * 2 ^ (52 - n.log2) := by
    rw [eB]
    refine Nat.le_trans ?_ (Nat.mul_le_mul_right _ h1)
    rw [← Nat.pow_add]; exact Nat.pow_le_pow_right (by decide) (by omega)
  have k2 : n * 2 ^ (52 - n.log2) < 2 * B52 := by
    refine Nat.lt_of_lt_of_le (Nat.mul_lt_mul_of_pos_right h2 (Nat.two_pow_pos _)) ?_
    have : 2 * B52 = 2 ^ 53 := by decide
    rw [this, ← Nat.pow_add]; exact Nat.pow_le_pow_right (by decide) (by omega)
  have er : rungOf n 0 = (n.log2 + 1022) * B52 + n * 2 ^ (52 - n.log2) := by
    unfold rungOf
    rw [eL]
    have a1 : ((n.log2 : Int) - 52 + 1074).toNat = n.log2 + 1022 := by omega
    have a2 : (0 - ((n.log2 : Int) - 52)).toNat = 52 - n.log2 := by omega
    have a3 : ((n.log2 : Int) - 52 - 0).toNat = 0 := by omega
    rw [a1, a2, a3]
    have := rne_exact (n * 2 ^ (52 - n.log2)) 0
    rw [Nat.pow_zero, Nat.mul_one] at this
    rw [this]
  generalize hK : n * 2 ^ (52 - n.log2) = K at *
  generalize n.log2 = L at *
  have hI : INF = 2047 * B52 := by decide
  have hr : (L + 1022) * B52 + K < INF := by
    have h3 : (L + 1022) * B52 ≤ 1074 * B52 := Nat.mul_le_mul_right _ (by omega)
    rw [hI]
    generalize (L + 1022) * B52 = Z at *
    omega
  have ef : flN n = (L + 1022) * B52 + K := by
    unfold flN; rw [nearest_eq n 0 h0, er]; exact Nat.min_eq_left (Nat.le_of_lt hr)
  have hi := infl
  obtain ⟨r1, r2⟩ := rung_small ((L + 1022) * B52 + K) (Nat.lt_trans hr hi)
  rw [ef, read_eq, r1, r2, if_pos hr]
  have hd : ((L + 1022) * B52 + K) / B52 = L + 1023 := by
    have e : (L + 1022) * B52 + K = (K - B52) + (L + 1023) * B52 := by
      have h4 : (L + 1023) * B52 = (L + 1022) * B52 + B52 := by rw [← Nat.succ_mul]
      rw [h4]
      generalize (L + 1022) * B52 = Z at *
      omega
    rw [e, Nat.add_mul_div_right _ _ (by decide), Nat.div_eq_of_lt (by omega), Nat.zero_add]
  have hm : ((L + 1022) * B52 + K) % B52 = K - B52 := by
    have e : (L + 1022) * B52 + K = (K - B52) + (L + 1023) * B52 := by
      have h4 : (L + 1023) * B52 = (L + 1022) * B52 + B52 := by rw [← Nat.succ_mul]
      rw [h4]
      generalize (L + 1022) * B52 = Z at *
      omega
    rw [e, Nat.add_mul_mod_self_right, Nat.mod_eq_of_lt (by omega)]
  have hge : ¬ ((L + 1022) * B52 + K < B52) := by
    generalize (L + 1022) * B52 = Z at *
    omega
  unfold sg up
  rw [if_neg hge, if_neg hge, hd, hm]
  have q1 : B52 + (K - B52) = K := by omega
  have q2 : (-1074 : Int) + ((L + 1023 - 1 : Nat) : Int) = (L : Int) - 52 := by omega
  rw [q1, q2]

theorem prod_num (s t : Bool) (m n : Nat) (i j : Int) : ((Datum.number s m i).product (.number t n j)).map double.write = some (double.nearest (s ^^ t) (m * n) (i + j)) := rfl

theorem mul_fl (a b : Nat) (ha0 : a ≠ 0) (hb0 : b ≠ 0) (ha : a < 2 ^ 53) (hb : b < 2 ^ 53) :
    double.mul (flN a) (flN b) = some (double.nearest false (a * 2 ^ (52 - a.log2) * (b * 2 ^ (52 - b.log2))) ((a.log2 : Int) - 52 + ((b.log2 : Int) - 52))) := by
  have e1 := flN_read a ha0 ha
  have e2 := flN_read b hb0 hb
  unfold Format.mul
  generalize flN a = x at *
  generalize flN b = y at *
  rw [e1, e2]
  exact prod_num false false _ _ _ _

theorem log_le (a : Nat) (h0 : a ≠ 0) (h : a < 2 ^ 53) : a.log2 ≤ 52 := by
  have := (Nat.log2_lt h0).2 h; omega

theorem LeV_prod (a b c d : Nat) (ha0 : a ≠ 0) (hb0 : b ≠ 0) (hc0 : c ≠ 0) (hd0 : d ≠ 0) (ha : a < 2 ^ 53) (hb : b < 2 ^ 53) (hc : c < 2 ^ 53) (hd : d < 2 ^ 53) (h : a * b ≤ c * d) :
    LeV (a * 2 ^ (52 - a.log2) * (b * 2 ^ (52 - b.log2))) ((a.log2 : Int) - 52 + ((b.log2 : Int) - 52)) (c * 2 ^ (52 - c.log2) * (d * 2 ^ (52 - d.log2))) ((c.log2 : Int) - 52 + ((d.log2 : Int) - 52)) := by
  have la := log_le a ha0 ha
  have lb := log_le b hb0 hb
  have lc := log_le c hc0 hc
  have ld := log_le d hd0 hd
  generalize hA : 52 - a.log2 = A
  generalize hB : 52 - b.log2 = B
  generalize hC : 52 - c.log2 = C
  generalize hD : 52 - d.log2 = D
  have e1 : (a.log2 : Int) - 52 + ((b.log2 : Int) - 52) = -((A + B : Nat) : Int) := by omega
  have e2 : (c.log2 : Int) - 52 + ((d.log2 : Int) - 52) = -((C + D : Nat) : Int) := by omega
  rw [e1, e2]
  refine ⟨-((A + B + (C + D) : Nat) : Int), by omega, by omega, ?_⟩
  have t1 : (-((A + B : Nat) : Int) - -((A + B + (C + D) : Nat) : Int)).toNat = C + D := by omega
  have t2 : (-((C + D : Nat) : Int) - -((A + B + (C + D) : Nat) : Int)).toNat = A + B := by omega
  rw [t1, t2]
  have r1 : a * 2 ^ A * (b * 2 ^ B) * 2 ^ (C + D) = a * b * 2 ^ (A + B + (C + D)) := by
    rw [Nat.pow_add 2 (A + B), Nat.pow_add 2 A]; ac_rfl
  have r2 : c * 2 ^ C * (d * 2 ^ D) * 2 ^ (A + B) = c * d * 2 ^ (A + B + (C + D)) := by
    rw [Nat.pow_add 2 (A + B) (C + D), Nat.pow_add 2 C]; ac_rfl
  rw [r1, r2]
  exact Nat.mul_le_mul_right _ h

theorem up_mono {r s : Nat} (h : r ≤ s) : up r ≤ up s := by
  unfold up
  have hd : r / B52 ≤ s / B52 := Nat.div_le_div_right h
  split <;> split <;> omega

theorem mg_mono {r s : Nat} (h : r ≤ s) : mg r ≤ mg s := by
  by_cases he : r = s
  · subst he; omega
  · exact Nat.le_of_lt (mg_lt (by omega))

theorem sg_lt (r : Nat) : sg r < 2 ^ 53 := by
  have hb : B52 = 4503599627370496 := rfl
  unfold sg
  have := Nat.mod_lt r (show 0 < B52 by decide)
  split <;> omega

theorem log_sg (r : Nat) : (sg r).log2 ≤ 52 := by
  by_cases h : sg r = 0
  · rw [h]; decide
  · exact log_le _ h (sg_lt r)

/-- A quotient of a smaller word by a greater one is not above 1. -/
theorem div_le_one (t b : Nat) (h : t ≤ b) (hb0 : 0 < b) (hb : b < INF) : ∃ r, double.div t b = some r ∧ r ≤ ONE := by
  have hi := infl
  obtain ⟨t1, t2⟩ := rung_small t (by omega)
  obtain ⟨b1, b2⟩ := rung_small b (by omega)
  have hn0 : sg b ≠ 0 := by
    intro h0
    have := mg_lt hb0
    rw [mg_eq b, h0, mg_zero] at this
    simp at this
  have hF : double.fractionBits = 52 := rfl
  have hmg := mg_mono h
  rw [mg_eq, mg_eq] at hmg
  have hup := up_mono h
  have hlg := log_sg t
  unfold Format.div
  rw [read_eq t, read_eq b, t1, t2, b1, b2, if_pos (by omega), if_pos hb]
  simp only [Datum.quotient, if_neg hn0, hF, Option.map_some, Format.write]
  refine ⟨_, rfl, ?_⟩
  have e1 : double.nearest (false ^^ false) = double.nearest false := rfl
  rw [e1]
  have hone : ONE = double.nearest false 1 0 := by decide
  rw [hone]
  generalize hmore : 52 + 2 + (sg b).log2 - (sg t).log2 = more
  have hm54 : 2 ≤ more := by omega
  refine nearest_mono ?_ (by decide)
  refine ⟨-1074 + (up t : Int) - (-1074 + (up b : Int)) - (more : Int) - 1, by omega, by omega, ?_⟩
  have p1 : (-1074 + (up t : Int) - (-1074 + (up b : Int)) - (more : Int) - 1 - (-1074 + (up t : Int) - (-1074 + (up b : Int)) - (more : Int) - 1)).toNat = 0 := by omega
  have p2 : (0 - (-1074 + (up t : Int) - (-1074 + (up b : Int)) - (more : Int) - 1)).toNat = (up b - up t) + more + 1 := by omega
  rw [p1, p2, Nat.pow_zero, Nat.mul_one, Nat.one_mul]
  -- sg t ≤ sg b · 2^(up b - up t)
  have hs : sg t ≤ sg b * 2 ^ (up b - up t) := by
    have e : sg b * 2 ^ up b = sg b * 2 ^ (up b - up t) * 2 ^ up t := by rw [Nat.mul_assoc, ← Nat.pow_add]; congr 2; omega
    rw [e] at hmg
    exact Nat.le_of_mul_le_mul_right hmg (Nat.two_pow_pos _)
  rw [Nat.shiftLeft_eq]
  generalize hE : up b - up t = E at *
  have hd : sg t * 2 ^ more ≤ sg b * 2 ^ (E + more) := by
    rw [Nat.pow_add, ← Nat.mul_assoc]; exact Nat.mul_le_mul_right _ hs
  generalize sg t * 2 ^ more = dv at *
  generalize sg b = n at *
  have hnp : 0 < n := by omega
  have hq : dv / n ≤ 2 ^ (E + more) := by
    have := Nat.div_le_div_right (c := n) hd
    rwa [Nat.mul_div_cancel_left _ hnp] at this
  have hpow : 2 ^ (E + more + 1) = 2 * 2 ^ (E + more) := by rw [Nat.pow_succ, Nat.mul_comm]
  rw [hpow]
  by_cases hz : dv % n = 0
  · have : (dv % n != 0).toNat = 0 := by simp [hz]
    rw [this]; omega
  · have hlt : dv / n < 2 ^ (E + more) := by
      have hdm := Nat.div_add_mod dv n
      by_cases heq : dv / n = 2 ^ (E + more)
      · rw [heq] at hdm; omega
      · omega
    have : (dv % n != 0).toNat = 1 := by simp [hz]
    rw [this]; omega

theorem even_ok (s n q : Nat) (hs : s ≤ 4294967296) (hn : n ≤ 4096) (hq : q ≤ 4503599627370496) (hc : s * s ≤ n * q) (hnq : q ≠ 0 → n ≠ 0) :
    ∃ t b, double.mul (flN s) (flN s) = some t ∧ double.mul (flN n) (flN q) = some b ∧ (q = 0 → double.div t b = none) ∧ (q ≠ 0 → ∃ r, double.div t b = some r ∧ r ≤ ONE) := by
  have two53 : (2 : Nat) ^ 53 = 9007199254740992 := by decide
  have mz : ∀ n : Nat, n < 2 ^ 53 → double.mul (flN n) (flN 0) = some 0 := by
    intro n hn
    by_cases h : n = 0
    · subst h; decide
    · have r0 : double.read (flN 0) = .number false 0 (-1074) := by decide
      unfold Format.mul
      rw [flN_read n h hn, r0]
      simp [Datum.product, Format.write, Format.nearest, Format.word]
  by_cases h0 : q = 0
  · subst h0
    have hs0 : s = 0 := by
      rw [Nat.mul_zero] at hc
      rcases Nat.mul_eq_zero.1 (Nat.le_zero.1 hc) with h | h <;> exact h
    subst hs0
    exact ⟨0, 0, by decide, mz n (by omega), fun _ => by decide, fun h => absurd rfl h⟩
  · have hn0 := hnq h0
    have hpos : 1 ≤ n * q := Nat.mul_pos (Nat.pos_of_ne_zero hn0) (Nat.pos_of_ne_zero h0)
    refine ⟨if s = 0 then 0 else double.nearest false (s * 2 ^ (52 - s.log2) * (s * 2 ^ (52 - s.log2))) ((s.log2 : Int) - 52 + ((s.log2 : Int) - 52)), _, ?_, mul_fl n q hn0 h0 (by omega) (by omega), fun h => absurd h h0, fun _ => ?_⟩
    · by_cases hs0 : s = 0
      · subst hs0; rw [if_pos rfl]; decide
      · rw [if_neg hs0]; exact mul_fl s s hs0 hs0 (by omega) (by omega)
    · have hm0 : n * 2 ^ (52 - n.log2) * (q * 2 ^ (52 - q.log2)) ≠ 0 :=
        Nat.mul_ne_zero (Nat.mul_ne_zero hn0 (Nat.pos_iff_ne_zero.1 (Nat.two_pow_pos _))) (Nat.mul_ne_zero h0 (Nat.pos_iff_ne_zero.1 (Nat.two_pow_pos _)))
      have hb1 : double.nearest false (1 * 2 ^ (52 - (1 : Nat).log2) * (1 * 2 ^ (52 - (1 : Nat).log2))) ((((1 : Nat).log2 : Nat) : Int) - 52 + ((((1 : Nat).log2 : Nat) : Int) - 52)) ≤ double.nearest false (n * 2 ^ (52 - n.log2) * (q * 2 ^ (52 - q.log2))) ((n.log2 : Int) - 52 + ((q.log2 : Int) - 52)) :=
        nearest_mono (LeV_prod 1 1 n q (by decide) (by decide) hn0 h0 (by decide) (by decide) (by omega) (by omega) (by omega)) hm0
      have hone : double.nearest false (1 * 2 ^ (52 - (1 : Nat).log2) * (1 * 2 ^ (52 - (1 : Nat).log2))) ((((1 : Nat).log2 : Nat) : Int) - 52 + ((((1 : Nat).log2 : Nat) : Int) - 52)) = ONE := by decide
      rw [hone] at hb1
      have htop : double.nearest false (n * 2 ^ (52 - n.log2) * (q * 2 ^ (52 - q.log2))) ((n.log2 : Int) - 52 + ((q.log2 : Int) - 52)) ≤ double.nearest false (4096 * 2 ^ (52 - (4096 : Nat).log2) * (4503599627370496 * 2 ^ (52 - (4503599627370496 : Nat).log2))) ((((4096 : Nat).log2 : Nat) : Int) - 52 + ((((4503599627370496 : Nat).log2 : Nat) : Int) - 52)) :=
        nearest_mono (LeV_prod n q 4096 4503599627370496 hn0 h0 (by decide) (by decide) (by omega) (by omega) (by decide) (by decide) (Nat.mul_le_mul hn hq)) (by decide)
      have hti : double.nearest false (4096 * 2 ^ (52 - (4096 : Nat).log2) * (4503599627370496 * 2 ^ (52 - (4503599627370496 : Nat).log2))) ((((4096 : Nat).log2 : Nat) : Int) - 52 + ((((4503599627370496 : Nat).log2 : Nat) : Int) - 52)) < INF := by decide
      have hO : 0 < ONE := by decide
      refine div_le_one _ _ ?_ (by omega) (by omega)
      by_cases hs0 : s = 0
      · rw [if_pos hs0]; omega
      · rw [if_neg hs0]
        exact nearest_mono (LeV_prod s s n q hs0 hs0 hn0 h0 (by omega) (by omega) (by omega) (by omega) hc) hm0

end Go.Proofs.Ytnknlamcdeaacaa
