/-
  Rounding keeps the order, no program in sight.
-/
import Derived.Test.YtnknlamcdeaacaaFloat
namespace Go.Proofs.Ytnknlamcdeaacaa
open Ieee

/-- to the nearest whole number of units of 2^d, the even one between two. -/
def rne (n d : Nat) : Nat := n / 2 ^ d + (if 2 ^ d < 2 * (n % 2 ^ d) ∨ (2 ^ d = 2 * (n % 2 ^ d) ∧ n / 2 ^ d % 2 = 1) then 1 else 0)

theorem rne_scale (n d k : Nat) : rne (n * 2 ^ k) (d + k) = rne n d := by
  have hk := Nat.two_pow_pos k
  have hd := Nat.two_pow_pos d
  have e1 : n * 2 ^ k / 2 ^ (d + k) = n / 2 ^ d := by rw [Nat.pow_add]; exact Nat.mul_div_mul_right _ _ hk
  have e2 : n * 2 ^ k % 2 ^ (d + k) = n % 2 ^ d * 2 ^ k := by rw [Nat.pow_add, Nat.mul_mod_mul_right]
  unfold rne
  rw [e1, e2, Nat.pow_add, ← Nat.mul_assoc]
  have c1 : (2 ^ d * 2 ^ k < 2 * (n % 2 ^ d) * 2 ^ k) ↔ 2 ^ d < 2 * (n % 2 ^ d) :=
    ⟨fun h => Nat.lt_of_mul_lt_mul_right h, fun h => Nat.mul_lt_mul_of_pos_right h hk⟩
  have c2 : (2 ^ d * 2 ^ k = 2 * (n % 2 ^ d) * 2 ^ k) ↔ 2 ^ d = 2 * (n % 2 ^ d) :=
    ⟨fun h => Nat.eq_of_mul_eq_mul_right hk h, fun h => congrArg (· * 2 ^ k) h⟩
  simp only [c1, c2]

theorem rne_mono {a b : Nat} (d : Nat) (h : a ≤ b) : rne a d ≤ rne b d := by
  have hd := Nat.two_pow_pos d
  unfold rne
  generalize 2 ^ d = g at *
  have ha := Nat.div_add_mod a g
  have hb := Nat.div_add_mod b g
  have la := Nat.mod_lt a hd
  have lb := Nat.mod_lt b hd
  have hq : a / g ≤ b / g := Nat.div_le_div_right h
  generalize a / g = qa at *
  generalize b / g = qb at *
  generalize a % g = ra at *
  generalize b % g = rb at *
  by_cases he : qa = qb
  · subst he
    have : ra ≤ rb := by omega
    split <;> split <;> omega
  · split <;> split <;> omega

theorem rne_exact (n d : Nat) : rne (n * 2 ^ d) d = n := by
  have := rne_scale n 0 d
  rw [Nat.zero_add] at this
  rw [this]; unfold rne; simp [Nat.mod_one]

theorem rne_le {n d B : Nat} (h : n ≤ B * 2 ^ d) : rne n d ≤ B := by
  have := rne_mono d h; rwa [rne_exact] at this
theorem rne_ge {n d B : Nat} (h : B * 2 ^ d ≤ n) : B ≤ rne n d := by
  have := rne_mono d h; rwa [rne_exact] at this

theorem cut_rne (n d : Nat) (hn : n ≠ 0) : Toward.even.cut false n d = rne n d := by
  have hl : n < 2 ^ (n.log2 + 1) := Nat.lt_log2_self
  by_cases h : d ≤ n.log2 + 2
  · unfold Toward.cut rne
    simp only [Nat.min_eq_left h, Nat.one_shiftLeft]
    congr 1
    generalize 2 ^ d = g
    by_cases c : g < 2 * (n % g) ∨ (g = 2 * (n % g) ∧ n / g % 2 = 1)
    · rw [if_pos c]
      have : (decide (g < 2 * (n % g)) || (g == 2 * (n % g) && n / g % 2 == 1)) = true := by simpa using c
      rw [this]; rfl
    · rw [if_neg c]
      have : (decide (g < 2 * (n % g)) || (g == 2 * (n % g) && n / g % 2 == 1)) = false := by
        rw [← Bool.not_eq_true]; simpa using c
      rw [this]; rfl
  · have z1 : rne n d = 0 := by
      have hd : 2 ^ (n.log2 + 2) ≤ 2 ^ d := Nat.pow_le_pow_right (by decide) (by omega)
      have hp : 2 ^ (n.log2 + 2) = 2 * 2 ^ (n.log2 + 1) := by rw [Nat.pow_succ 2 (n.log2 + 1), Nat.mul_comm]
      unfold rne
      rw [Nat.div_eq_of_lt (by omega), Nat.mod_eq_of_lt (by omega), if_neg (by omega)]
    rw [z1]
    unfold Toward.cut
    simp only [Nat.min_eq_right (by omega : n.log2 + 2 ≤ d), Nat.one_shiftLeft]
    have hp : 2 ^ (n.log2 + 2) = 2 * 2 ^ (n.log2 + 1) := by rw [Nat.pow_succ 2 (n.log2 + 1), Nat.mul_comm]
    rw [Nat.div_eq_of_lt (by omega), Nat.mod_eq_of_lt (by omega)]
    have : (decide (2 ^ (n.log2 + 2) < 2 * n) || (2 ^ (n.log2 + 2) == 2 * n && 0 % 2 == 1)) = false := by
      simp; omega
    rw [this]; rfl

/-- the place of the last digit that is kept. -/
def lastOf (m : Nat) (p : Int) : Int := max (p + m.log2 - 52) (-1074)

def rungOf (m : Nat) (p : Int) : Nat := (lastOf m p + 1074).toNat * B52 + rne (m * 2 ^ (p - lastOf m p).toNat) (lastOf m p - p).toNat

theorem nearest_eq (m : Nat) (p : Int) (hm : m ≠ 0) : double.nearest false m p = min (rungOf m p) INF := by
  have hI : double.infRung = INF := by decide
  have hB : double.binade = B52 := by decide
  have hL : double.leastPlace = -1074 := by decide
  have hF : double.fractionBits = 52 := rfl
  unfold Format.nearest
  rw [if_neg hm]
  simp only [hI, hB, hL, hF, Format.word, Bool.false_eq_true, if_false, Nat.shiftLeft_eq]
  unfold rungOf lastOf
  rw [cut_rne _ _ (Nat.mul_ne_zero hm (Nat.pos_iff_ne_zero.1 (Nat.two_pow_pos _)))]
  have e : (max (p + (m.log2 : Int) - ((52 : Nat) : Int)) (-1074) - -1074).toNat = (max (p + (m.log2 : Int) - 52) (-1074) + 1074).toNat := by omega
  rw [e]; rfl

/-- m·2^p is at most m'·2^p'. -/
def LeV (m : Nat) (p : Int) (m' : Nat) (p' : Int) : Prop := ∃ b : Int, b ≤ p ∧ b ≤ p' ∧ m * 2 ^ (p - b).toNat ≤ m' * 2 ^ (p' - b).toNat

theorem LeV.all {m m' : Nat} {p p' : Int} (h : LeV m p m' p') (c : Int) (h1 : c ≤ p) (h2 : c ≤ p') : m * 2 ^ (p - c).toNat ≤ m' * 2 ^ (p' - c).toNat := by
  obtain ⟨b, b1, b2, hb⟩ := h
  by_cases hc : c ≤ b
  · have e1 : (p - c).toNat = (p - b).toNat + (b - c).toNat := by omega
    have e2 : (p' - c).toNat = (p' - b).toNat + (b - c).toNat := by omega
    rw [e1, e2, Nat.pow_add, Nat.pow_add, ← Nat.mul_assoc, ← Nat.mul_assoc]
    exact Nat.mul_le_mul_right _ hb
  · have e1 : (p - b).toNat = (p - c).toNat + (c - b).toNat := by omega
    have e2 : (p' - b).toNat = (p' - c).toNat + (c - b).toNat := by omega
    rw [e1, e2, Nat.pow_add, Nat.pow_add, ← Nat.mul_assoc, ← Nat.mul_assoc] at hb
    exact Nat.le_of_mul_le_mul_right hb (Nat.two_pow_pos _)

theorem LeV.log {m m' : Nat} {p p' : Int} (h : LeV m p m' p') (hm : m ≠ 0) (hm' : m' ≠ 0) : p + (m.log2 : Int) ≤ p' + (m'.log2 : Int) := by
  have h1 : 2 ^ m.log2 ≤ m := Nat.log2_self_le hm
  have h2 : m' < 2 ^ (m'.log2 + 1) := Nat.lt_log2_self
  obtain ⟨b, b1, b2, hb⟩ := h
  have h3 : 2 ^ m.log2 * 2 ^ (p - b).toNat < 2 ^ (m'.log2 + 1) * 2 ^ (p' - b).toNat :=
    Nat.lt_of_le_of_lt (Nat.le_trans (Nat.mul_le_mul_right _ h1) hb) (Nat.mul_lt_mul_of_pos_right h2 (Nat.two_pow_pos _))
  rw [← Nat.pow_add, ← Nat.pow_add] at h3
  have := (Nat.pow_lt_pow_iff_right (by decide : 1 < 2)).1 h3
  omega

theorem rung_mono {m m' : Nat} {p p' : Int} (h : LeV m p m' p') (hm : m ≠ 0) (hm' : m' ≠ 0) : rungOf m p ≤ rungOf m' p' := by
  have hlog := h.log hm hm'
  have hlast : lastOf m p ≤ lastOf m' p' := by unfold lastOf; omega
  by_cases he : lastOf m p = lastOf m' p'
  · unfold rungOf
    rw [he]
    refine Nat.add_le_add_left ?_ _
    generalize hl : lastOf m' p' = L
    -- both to the greater drop
    have s1 := rne_scale (m * 2 ^ (p - L).toNat) (L - p).toNat (L - p').toNat
    have s2 := rne_scale (m' * 2 ^ (p' - L).toNat) (L - p').toNat (L - p).toNat
    rw [← s1, ← s2, Nat.add_comm (L - p').toNat]
    refine rne_mono _ ?_
    have hall := h.all (min (min p p') L) (by omega) (by omega)
    have hk : ∀ q : Int, q = p ∨ q = p' → (q - min (min p p') L).toNat + ((L - p).toNat + (L - p').toNat - (L - min (min p p') L).toNat) = (q - L).toNat + ((L - p).toNat + (L - p').toNat) - (L - q).toNat := by
      intro q hq; rcases hq with rfl | rfl <;> omega
    have k1 := hk p (.inl rfl)
    have k2 := hk p' (.inr rfl)
    have hall2 := Nat.mul_le_mul_right (2 ^ ((L - p).toNat + (L - p').toNat - (L - min (min p p') L).toNat)) hall
    rw [Nat.mul_assoc, Nat.mul_assoc, ← Nat.pow_add, ← Nat.pow_add, k1, k2] at hall2
    have e1 : (p - L).toNat + ((L - p).toNat + (L - p').toNat) - (L - p).toNat = (p - L).toNat + (L - p').toNat := by omega
    have e2 : (p' - L).toNat + ((L - p).toNat + (L - p').toNat) - (L - p').toNat = (p' - L).toNat + (L - p).toNat := by omega
    rw [e1, e2] at hall2
    rw [Nat.mul_assoc, Nat.mul_assoc, ← Nat.pow_add, ← Nat.pow_add]
    exact hall2
  · have hlt : lastOf m p < lastOf m' p' := by omega
    have hl' : lastOf m' p' = p' + (m'.log2 : Int) - 52 := by unfold lastOf at hlt ⊢; omega
    have hge : -1074 ≤ lastOf m p := by unfold lastOf; omega
    have hge2 : p + (m.log2 : Int) - 52 ≤ lastOf m p := by unfold lastOf; omega
    have u1 : rne (m * 2 ^ (p - lastOf m p).toNat) (lastOf m p - p).toNat ≤ 2 * B52 := by
      refine rne_le ?_
      have h2 : m < 2 ^ (m.log2 + 1) := Nat.lt_log2_self
      have e : 2 * B52 = 2 ^ 53 := by decide
      rw [e, ← Nat.pow_add]
      refine Nat.le_trans (Nat.mul_le_mul_right _ (Nat.le_of_lt h2)) ?_
      rw [← Nat.pow_add]
      exact Nat.pow_le_pow_right (by decide) (by omega)
    have u2 : B52 ≤ rne (m' * 2 ^ (p' - lastOf m' p').toNat) (lastOf m' p' - p').toNat := by
      refine rne_ge ?_
      have h1 : 2 ^ m'.log2 ≤ m' := Nat.log2_self_le hm'
      have e : B52 = 2 ^ 52 := by decide
      rw [e, ← Nat.pow_add]
      refine Nat.le_trans ?_ (Nat.mul_le_mul_right _ h1)
      rw [← Nat.pow_add]
      exact Nat.pow_le_pow_right (by decide) (by omega)
    unfold rungOf
    have hk : (lastOf m p + 1074).toNat + 1 ≤ (lastOf m' p' + 1074).toNat := by omega
    have hk2 := Nat.mul_le_mul_right B52 hk
    rw [Nat.add_mul] at hk2
    omega

theorem nearest_mono {m m' : Nat} {p p' : Int} (h : LeV m p m' p') (hm' : m' ≠ 0) : double.nearest false m p ≤ double.nearest false m' p' := by
  by_cases hm : m = 0
  · subst hm
    have : double.nearest false 0 p = 0 := by unfold Format.nearest; rw [if_pos rfl]; rfl
    omega
  · rw [nearest_eq m p hm, nearest_eq m' p' hm']
    have := rung_mono h hm hm'
    omega

end Go.Proofs.Ytnknlamcdeaacaa
