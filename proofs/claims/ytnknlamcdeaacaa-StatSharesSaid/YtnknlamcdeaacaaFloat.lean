/-
  Floats of 64 bits as words, no program in sight: which of two stands above the other one.
-/
import Ieee.Arith
namespace Go.Proofs.Ytnknlamcdeaacaa
open Ieee

def B63 : Nat := 9223372036854775808
def B52 : Nat := 4503599627370496
def INF : Nat := 9218868437227405312
def ONE : Nat := 4607182418800017408

/-- the word without its sign. -/
def rung (b : Nat) : Nat := b % B63
def neg (b : Nat) : Bool := b / B63 % 2 == 1
def nan (b : Nat) : Bool := decide (INF < rung b)

/-- the magnitude of a rung, in units of the least one. -/
def mg (r : Nat) : Nat := if r < B52 then r else (B52 + r % B52) * 2 ^ (r / B52 - 1)

theorem mg_zero : mg 0 = 0 := by decide

theorem mg_lo (r : Nat) (h : B52 ≤ r) : B52 * 2 ^ (r / B52 - 1) ≤ mg r := by
  unfold mg; rw [if_neg (by omega)]; exact Nat.mul_le_mul_right _ (by omega)

theorem mg_hi (r : Nat) : mg r < B52 * 2 ^ (r / B52) := by
  unfold mg
  by_cases h : r < B52
  · rw [if_pos h, Nat.div_eq_of_lt h]; omega
  · rw [if_neg h]
    have hq : 1 ≤ r / B52 := by
      have : 0 < B52 := by decide
      exact (Nat.le_div_iff_mul_le this).2 (by omega)
    have hm : r % B52 < B52 := Nat.mod_lt _ (by decide)
    obtain ⟨q, hq'⟩ : ∃ q, r / B52 = q + 1 := ⟨r / B52 - 1, by omega⟩
    rw [hq', Nat.add_sub_cancel, Nat.pow_succ]
    have hp : 0 < 2 ^ q := Nat.two_pow_pos q
    calc (B52 + r % B52) * 2 ^ q < (B52 + B52) * 2 ^ q := Nat.mul_lt_mul_of_pos_right (by omega) hp
      _ = B52 * (2 ^ q * 2) := by rw [← Nat.two_mul, Nat.mul_comm 2 B52, Nat.mul_assoc, Nat.mul_comm 2]

theorem mg_lt {r s : Nat} (h : r < s) : mg r < mg s := by
  have h0 : 0 < B52 := by decide
  by_cases hs : s < B52
  · unfold mg; rw [if_pos hs, if_pos (by omega)]; exact h
  · have hd : r / B52 ≤ s / B52 := Nat.div_le_div_right (by omega)
    by_cases he : r / B52 = s / B52
    · have hr : ¬ r < B52 := by
        intro hr
        rw [Nat.div_eq_of_lt hr] at he
        have : 1 ≤ s / B52 := (Nat.le_div_iff_mul_le h0).2 (by omega)
        omega
      unfold mg; rw [if_neg hs, if_neg hr, he]
      have e1 := Nat.div_add_mod r B52
      have e2 := Nat.div_add_mod s B52
      rw [he] at e1
      exact Nat.mul_lt_mul_of_pos_right (by omega) (Nat.two_pow_pos _)
    · have hlt : r / B52 ≤ s / B52 - 1 := by omega
      calc mg r < B52 * 2 ^ (r / B52) := mg_hi r
        _ ≤ B52 * 2 ^ (s / B52 - 1) := Nat.mul_le_mul_left _ (Nat.pow_le_pow_right (by decide) hlt)
        _ ≤ mg s := mg_lo s (by omega)

theorem mg_lt_iff {r s : Nat} : mg r < mg s ↔ r < s := by
  refine ⟨fun h => ?_, mg_lt⟩
  by_cases hc : r < s
  · exact hc
  · by_cases he : r = s
    · subst he; omega
    · have := mg_lt (r := s) (s := r) (by omega); omega

theorem mg_inj {r s : Nat} (h : mg r = mg s) : r = s := by
  by_cases h1 : r < s
  · have := mg_lt h1; omega
  · by_cases h2 : s < r
    · have := mg_lt h2; omega
    · omega

/-- Where a number stands among all: its rung with its sign. -/
def key (b : Nat) : Int := if neg b then -(rung b : Int) else rung b

/-- the place of a rung above the least place. -/
def up (r : Nat) : Nat := if r < B52 then 0 else r / B52 - 1
def sg (r : Nat) : Nat := if r < B52 then r else B52 + r % B52

theorem mg_eq (r : Nat) : mg r = sg r * 2 ^ up r := by
  unfold mg sg up; split <;> simp

theorem read_eq (b : Nat) : double.read b = if rung b < INF then .number (neg b) (sg (rung b)) (-1074 + (up (rung b) : Int)) else if rung b = INF then .infinity (neg b) else .nan (neg b) (rung b - INF) := by
  have hI : double.infRung = INF := by decide
  have hB : double.binade = B52 := by decide
  have hS : double.signWeight = B63 := by decide
  have hL : double.leastPlace = -1074 := by decide
  unfold Format.read
  simp only [hI, hB, hS, hL]
  show (if rung b < B52 then _ else _) = _
  have hBI : B52 < INF := by decide
  by_cases h : rung b < B52
  · rw [if_pos h, if_pos (by omega)]
    unfold sg up; rw [if_pos h, if_pos h]; rfl
  · rw [if_neg h]
    unfold sg up; rw [if_neg h, if_neg h]; rfl

theorem compare_scale (x y : Int) (p : Nat) : compare (x * (2 ^ p : Nat)) (y * (2 ^ p : Nat)) = compare x y := by
  have hp : (0 : Int) < ((2 ^ p : Nat) : Int) := by exact_mod_cast Nat.two_pow_pos p
  simp only [compare, compareOfLessAndEq]
  by_cases h1 : x < y
  · rw [if_pos h1, if_pos (Int.mul_lt_mul_of_pos_right h1 hp)]
  · rw [if_neg h1, if_neg (by intro h; exact h1 (Int.lt_of_mul_lt_mul_right h (Int.le_of_lt hp)))]
    by_cases h2 : x = y
    · rw [if_pos h2, if_pos (by rw [h2])]
    · rw [if_neg h2, if_neg (by intro h; exact h2 (Int.eq_of_mul_eq_mul_right (by omega) h))]

def sgn (s : Bool) (m : Nat) : Int := if s then -(m : Int) else m

theorem sgn_mul (s : Bool) (m p : Nat) : sgn s (m * p) = sgn s m * (p : Int) := by
  unfold sgn; cases s <;> simp [Int.neg_mul]

theorem signed_eq (s : Bool) (m u : Nat) : signed s m u = sgn s (m * 2 ^ u) := by
  unfold signed sgn; rw [Nat.shiftLeft_eq]

theorem compare_sgn (s t : Bool) (r q : Nat) : compare (sgn s (mg r)) (sgn t (mg q)) = compare (sgn s r) (sgn t q) := by
  have a1 : mg r < mg q ↔ r < q := mg_lt_iff
  have a2 : mg q < mg r ↔ q < r := mg_lt_iff
  have a3 : mg r = mg q ↔ r = q := ⟨mg_inj, fun h => by rw [h]⟩
  have z1 : mg r = 0 ↔ r = 0 := ⟨fun h => mg_inj (h.trans mg_zero.symm), fun h => by rw [h, mg_zero]⟩
  have z2 : mg q = 0 ↔ q = 0 := ⟨fun h => mg_inj (h.trans mg_zero.symm), fun h => by rw [h, mg_zero]⟩
  simp only [compare, compareOfLessAndEq]
  have e1 : (sgn s (mg r) < sgn t (mg q)) ↔ (sgn s (r : Nat) < sgn t (q : Nat)) := by
    cases s <;> cases t <;> simp only [sgn, if_true, if_false, Bool.false_eq_true] <;> omega
  have e2 : (sgn s (mg r) = sgn t (mg q)) ↔ (sgn s (r : Nat) = sgn t (q : Nat)) := by
    cases s <;> cases t <;> simp only [sgn, if_true, if_false, Bool.false_eq_true] <;> omega
  simp only [e1, e2]

theorem order_number (a b : Nat) (ha : rung a < INF) (hb : rung b < INF) : double.order a b = some (compare (key a) (key b)) := by
  unfold Format.order
  rw [read_eq, read_eq, if_pos ha, if_pos hb]
  simp only [Datum.order]
  congr 1
  have hk : ∀ x, key x = sgn (neg x) (rung x) := fun x => rfl
  rw [hk, hk, ← compare_sgn, mg_eq, mg_eq, signed_eq, signed_eq]
  by_cases h : up (rung a) ≤ up (rung b)
  · have e : min (-1074 + (up (rung a) : Int)) (-1074 + (up (rung b) : Int)) = -1074 + (up (rung a) : Int) := by omega
    rw [e]
    have e1 : (-1074 + (up (rung a) : Int) - (-1074 + (up (rung a) : Int))).toNat = 0 := by omega
    have e2 : (-1074 + (up (rung b) : Int) - (-1074 + (up (rung a) : Int))).toNat = up (rung b) - up (rung a) := by omega
    rw [e1, e2]
    have e3 : sg (rung b) * 2 ^ up (rung b) = sg (rung b) * 2 ^ (up (rung b) - up (rung a)) * 2 ^ up (rung a) := by
      rw [Nat.mul_assoc, ← Nat.pow_add]; congr 2; omega
    rw [e3, sgn_mul (neg a) (sg (rung a)) (2 ^ up (rung a)), sgn_mul (neg b) _ (2 ^ up (rung a)), compare_scale]; simp
  · have e : min (-1074 + (up (rung a) : Int)) (-1074 + (up (rung b) : Int)) = -1074 + (up (rung b) : Int) := by omega
    rw [e]
    have e1 : (-1074 + (up (rung b) : Int) - (-1074 + (up (rung b) : Int))).toNat = 0 := by omega
    have e2 : (-1074 + (up (rung a) : Int) - (-1074 + (up (rung b) : Int))).toNat = up (rung a) - up (rung b) := by omega
    rw [e1, e2]
    have e3 : sg (rung a) * 2 ^ up (rung a) = sg (rung a) * 2 ^ (up (rung a) - up (rung b)) * 2 ^ up (rung b) := by
      rw [Nat.mul_assoc, ← Nat.pow_add]; congr 2; omega
    rw [e3, sgn_mul (neg b) (sg (rung b)) (2 ^ up (rung b)), sgn_mul (neg a) _ (2 ^ up (rung b)), compare_scale]; simp

theorem order_nan_left (a b : Nat) (h : nan a = true) : double.order a b = none := by
  simp only [nan, decide_eq_true_eq] at h
  unfold Format.order
  rw [read_eq a, if_neg (by omega), if_neg (by omega)]; rfl

theorem order_nan_right (a b : Nat) (h : nan b = true) : double.order a b = none := by
  simp only [nan, decide_eq_true_eq] at h
  unfold Format.order
  rw [read_eq b, if_neg (by omega), if_neg (by omega)]
  cases double.read a <;> rfl

theorem order_eq (a b : Nat) (ha : nan a = false) (hb : nan b = false) : double.order a b = some (compare (key a) (key b)) := by
  simp only [nan, decide_eq_false_iff_not] at ha hb
  have hk : ∀ x, key x = sgn (neg x) (rung x) := fun x => rfl
  by_cases h1 : rung a < INF
  · by_cases h2 : rung b < INF
    · exact order_number a b h1 h2
    · have h2 : rung b = INF := by omega
      unfold Format.order
      rw [read_eq a, read_eq b, if_pos h1, if_neg (by omega), if_pos h2]
      simp only [Datum.order, hk, h2, compare, compareOfLessAndEq]
      congr 1
      have hI : 0 < INF := by decide
      cases neg a <;> cases neg b <;> simp only [sgn, if_true, if_false, Bool.false_eq_true]
      · rw [if_pos (by omega)]
      · rw [if_neg (by omega), if_neg (by omega)]
      · rw [if_pos (by omega)]
      · rw [if_neg (by omega), if_neg (by omega)]
  · have h1 : rung a = INF := by omega
    by_cases h2 : rung b < INF
    · unfold Format.order
      rw [read_eq a, read_eq b, if_neg (by omega), if_pos h1, if_pos h2]
      simp only [Datum.order, hk, h1, compare, compareOfLessAndEq]
      congr 1
      have hI : 0 < INF := by decide
      cases neg a <;> cases neg b <;> simp only [sgn, if_true, if_false, Bool.false_eq_true]
      · rw [if_neg (by omega), if_neg (by omega)]
      · rw [if_neg (by omega), if_neg (by omega)]
      · rw [if_pos (by omega)]
      · rw [if_pos (by omega)]
    · have h2 : rung b = INF := by omega
      unfold Format.order
      rw [read_eq a, read_eq b, if_neg (by omega), if_pos h1, if_neg (by omega), if_pos h2]
      simp only [Datum.order, hk, h1, h2]
      congr 1
      cases neg a <;> cases neg b <;> decide

theorem compare_int (x y : Int) : compare x y = if x < y then .lt else if x = y then .eq else .gt := rfl

theorem order_self (b : Nat) (h : nan b = false) : double.order b b = some .eq := by
  rw [order_eq b b h h, compare_int, if_neg (by omega), if_pos rfl]

theorem word_eq (b : Nat) (h : b < 2 * B63) : b = (if neg b then B63 else 0) + rung b := by
  have e := Nat.div_add_mod b B63
  have h0 : 0 < B63 := by decide
  unfold neg rung
  by_cases hb : b < B63
  · rw [Nat.div_eq_of_lt hb, Nat.mod_eq_of_lt hb]; simp
  · have hd : b / B63 = 1 := by
      have h1 : 1 ≤ b / B63 := (Nat.le_div_iff_mul_le h0).2 (by omega)
      have h2 : b / B63 < 2 := Nat.div_lt_of_lt_mul (by omega)
      omega
    rw [hd] at e ⊢
    simp only [Nat.mul_one] at e
    simp; omega

theorem key_zero (b : Nat) (h : b < 2 * B63) (hk : key b = 0) : b = 0 ∨ b = B63 := by
  have e := word_eq b h
  have hr : rung b = 0 := by unfold key at hk; split at hk <;> omega
  rw [hr] at e
  cases hn : neg b <;> rw [hn] at e <;> simp at e
  · exact .inl e
  · exact .inr e

theorem key_inj (a b : Nat) (ha : a < 2 * B63) (hb : b < 2 * B63) (hk : key a = key b) (hn : key a ≠ 0 ∨ neg a = neg b) : a = b := by
  have e1 := word_eq a ha
  have e2 := word_eq b hb
  unfold key at hk hn
  cases h1 : neg a <;> cases h2 : neg b <;> rw [h1] at e1 hk hn <;> rw [h2] at e2 hk hn <;> simp at e1 e2 hk hn <;> omega

theorem inv_pos : double.div ONE 0 = some INF := by decide
theorem inv_neg : double.div ONE B63 = some (B63 + INF) := by decide

/-- are two numbers alike, or none both? -/
def sameF (a b : Nat) : Bool := if nan a || nan b then nan a && nan b else decide (key a = key b) && (!decide (key a = 0) || (neg a == neg b))

theorem sameF_refl (b : Nat) : sameF b b = true := by
  unfold sameF; cases nan b <;> simp

theorem sameF_nan (a b : Nat) (ha : nan a = true) (hb : nan b = true) : sameF a b = true := by
  unfold sameF; simp [ha, hb]

theorem sameF_eq (a b : Nat) (hla : a < 2 * B63) (hlb : b < 2 * B63) (ha : nan a = false) (hb : nan b = false) (h : sameF a b = true) : a = b := by
  unfold sameF at h
  simp [ha, hb] at h
  refine key_inj a b hla hlb h.1 ?_
  rcases h.2 with h2 | h2
  · exact .inl h2
  · exact .inr h2

theorem nan_cut (t : Nat) : nan ((t % 2) * 2 ^ 63 + 0x7ff0000000000000 + 1 + (t / 2) % (2 ^ 52 - 1)) = true := by
  have h1 : t % 2 < 2 := Nat.mod_lt _ (by decide)
  have h2 : (t / 2) % (2 ^ 52 - 1) < 2 ^ 52 - 1 := Nat.mod_lt _ (by decide)
  apply decide_eq_true
  show 9218868437227405312 < _ % 9223372036854775808
  generalize (t / 2) % (2 ^ 52 - 1) = q at h2 ⊢
  rcases (show t % 2 = 0 ∨ t % 2 = 1 by omega) with h | h <;> rw [h] <;> omega

theorem cut_lt (t : Nat) : (t % 2) * 2 ^ 63 + 0x7ff0000000000000 + 1 + (t / 2) % (2 ^ 52 - 1) < 2 * B63 := by
  have h1 : t % 2 < 2 := Nat.mod_lt _ (by decide)
  have h2 : (t / 2) % (2 ^ 52 - 1) < 2 ^ 52 - 1 := Nat.mod_lt _ (by decide)
  show _ < 2 * 9223372036854775808
  omega

/-- Where a number stands among all, -0 below 0. -/
def key2 (b : Nat) : Int := if neg b then -(rung b : Int) - 1 else rung b

theorem key2_lt_of (a b : Nat) (h : key a < key b) : key2 a < key2 b := by
  unfold key at h; unfold key2
  cases h1 : neg a <;> cases h2 : neg b <;> simp only [h1, h2, if_true, if_false, Bool.false_eq_true, reduceIte] at h ⊢ <;> omega

theorem key2_inj (a b : Nat) (ha : a < 2 * B63) (hb : b < 2 * B63) (h : key2 a = key2 b) : a = b := by
  have e1 := word_eq a ha
  have e2 := word_eq b hb
  unfold key2 at h
  cases h1 : neg a <;> cases h2 : neg b <;> rw [h1] at e1 h <;> rw [h2] at e2 h <;> simp at e1 e2 h <;> omega

theorem key2_of_key (a b : Nat) (h : key a = key b) (h0 : key a ≠ 0) : key2 a = key2 b := by
  unfold key at h h0; unfold key2
  cases h1 : neg a <;> cases h2 : neg b <;> simp only [h1, h2, if_true, if_false, Bool.false_eq_true, reduceIte] at h h0 ⊢ <;> omega

def aboveF (a b : Nat) : Bool := !nan a && !nan b && decide (key2 b < key2 a)

end Go.Proofs.Ytnknlamcdeaacaa
