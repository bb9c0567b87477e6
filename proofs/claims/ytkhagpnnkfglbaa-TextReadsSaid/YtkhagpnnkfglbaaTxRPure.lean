/-
  The reference's reading of a line, no program in sight: it comes as far as the program's, and where nothing is wrong it reads the same.
-/
import Derived.Test.YtkhagpnnkfglbaaTxPure
namespace Go.Proofs.Ytkhagpnnkfglbaa
namespace Tx

/-! ### Which digits are those of a number that is at most another one -/

/-- one list of bytes does not come behind another one. -/
def lexLe : List UInt8 → List UInt8 → Bool
  | [], _ => true
  | _ :: _, [] => false
  | a :: x, b :: y => decide (a.toNat < b.toNat) || (decide (a.toNat = b.toNat) && lexLe x y)
def fitsB (d most : List UInt8) : Bool :=
  if decide (1 < d.length) && (d.head? == some 48) then false else decide (d.length < most.length) || (decide (d.length = most.length) && lexLe d most)

/-- What digits say. -/
def valD (l : List UInt8) : Nat := l.foldl (fun x c => 10 * x + dv c) 0
theorem foldl_val (l : List UInt8) : ∀ x, l.foldl (fun x c => 10 * x + dv c) x = x * 10 ^ l.length + valD l := by
  induction l with
  | nil => intro x; simp [valD]
  | cons c l ih =>
    intro x
    unfold valD
    rw [List.foldl_cons, List.foldl_cons, ih, ih (10 * 0 + dv c), List.length_cons, Nat.pow_succ, Nat.add_mul, Nat.mul_zero, Nat.zero_add]
    have : 10 * x * 10 ^ l.length = x * (10 ^ l.length * 10) := by rw [Nat.mul_comm 10 x, Nat.mul_assoc, Nat.mul_comm 10]
    omega
theorem valD_cons (c : UInt8) (l : List UInt8) : valD (c :: l) = dv c * 10 ^ l.length + valD l := by
  have := foldl_val l (10 * 0 + dv c)
  unfold valD at this ⊢
  rw [List.foldl_cons, this]; simp
theorem valD_snoc (l : List UInt8) (c : UInt8) : valD (l ++ [c]) = 10 * valD l + dv c := by
  unfold valD; rw [List.foldl_append]; rfl
theorem valD_lt (l : List UInt8) (h : ∀ c ∈ l, isD c = true) : valD l < 10 ^ l.length := by
  induction l with
  | nil => simp [valD]
  | cons c l ih =>
    rw [valD_cons, List.length_cons, Nat.pow_succ]
    have h1 := ih (fun c hc => h c (List.mem_cons_of_mem _ hc))
    have h2 := (ch_dv (h c List.mem_cons_self)).2
    have : dv c * 10 ^ l.length ≤ 9 * 10 ^ l.length := Nat.mul_le_mul_right _ (by omega)
    omega

theorem dv_eq {c : UInt8} (h : isD c = true) : c.toNat = 48 + dv c := by
  unfold isD at h
  simp only [Bool.and_eq_true, decide_eq_true_eq] at h
  unfold dv; omega

theorem lexLe_val : ∀ (a b : List UInt8), a.length = b.length → (∀ c ∈ a, isD c = true) → (∀ c ∈ b, isD c = true) → lexLe a b = decide (valD a ≤ valD b)
  | [], [], _, _, _ => by simp [lexLe, valD]
  | [], _ :: _, h, _, _ => by simp at h
  | _ :: _, [], h, _, _ => by simp at h
  | x :: a, y :: b, h, ha, hb => by
    have hl : a.length = b.length := by simpa using h
    have ih := lexLe_val a b hl (fun c hc => ha c (List.mem_cons_of_mem _ hc)) (fun c hc => hb c (List.mem_cons_of_mem _ hc))
    have hx := dv_eq (ha x List.mem_cons_self)
    have hy := dv_eq (hb y List.mem_cons_self)
    have va := valD_lt a (fun c hc => ha c (List.mem_cons_of_mem _ hc))
    have vb := valD_lt b (fun c hc => hb c (List.mem_cons_of_mem _ hc))
    unfold lexLe
    rw [ih, valD_cons, valD_cons, hl, hx, hy]
    rw [hl] at va
    generalize valD a = p at *
    generalize valD b = q at *
    generalize 10 ^ b.length = t at *
    generalize dv x = u at *
    generalize dv y = v at *
    rw [Bool.eq_iff_iff]
    simp only [Bool.or_eq_true, Bool.and_eq_true, decide_eq_true_eq]
    constructor
    · rintro (h1 | ⟨h1, h2⟩)
      · have : (u + 1) * t ≤ v * t := Nat.mul_le_mul_right _ (by omega)
        rw [Nat.add_mul] at this
        omega
      · obtain rfl : u = v := by omega
        omega
    · intro h1
      rcases Nat.lt_trichotomy u v with h2 | h2 | h2
      · exact .inl (by omega)
      · subst h2; exact .inr ⟨rfl, by omega⟩
      · exfalso
        have : (v + 1) * t ≤ u * t := Nat.mul_le_mul_right _ (by omega)
        rw [Nat.add_mul] at this
        omega

theorem valD_digs (f : Nat) : ∀ x, x < 10 ^ (f + 1) → valD (digs f x) = x := by
  induction f with
  | zero => intro x hx; have hx : x < 10 := by simpa using hx
            simp [digs, valD, dv_ch hx]
  | succ f ih =>
    intro x hx
    unfold digs
    by_cases h : x < 10
    · rw [if_pos h]; simp [valD, dv_ch h]
    · rw [if_neg h, valD_snoc, ih _ (by rw [Nat.pow_succ] at hx; omega), dv_ch (by omega)]; omega

/-- a number's digits are not too few. -/
theorem digs_ge (f : Nat) : ∀ x, 0 < x → x < 10 ^ (f + 1) → 10 ^ ((digs f x).length - 1) ≤ x := by
  induction f with
  | zero => intro x h0 hx; simp [digs]; omega
  | succ f ih =>
    intro x h0 hx
    unfold digs
    by_cases h : x < 10
    · rw [if_pos h]; simp; omega
    · rw [if_neg h]
      have h1 := ih (x / 10) (by omega) (by rw [Nat.pow_succ] at hx; omega)
      have h2 := List.length_pos_iff.2 (digs_ne f (x / 10))
      rw [List.length_append, List.length_singleton, Nat.add_sub_cancel]
      rw [show (digs f (x / 10)).length = (digs f (x / 10)).length - 1 + 1 by omega, Nat.pow_succ]
      omega

/-- The test by digits is the test by value. -/
theorem fits_num {M y : Nat} (hM0 : 0 < M) (hM : M < 10 ^ 21) (hy : y < 10 ^ 21) : fitsB (digs 20 y) (digs 20 M) = decide (y ≤ M) := by
  have dy := digs_isD 20 y hy
  have dM := digs_isD 20 M hM
  have vy := valD_digs 20 y hy
  have vM := valD_digs 20 M hM
  have ly := valD_lt _ dy
  have lM := valD_lt _ dM
  have gM := digs_ge 20 M hM0 hM
  have ny := List.length_pos_iff.2 (digs_ne 20 y)
  have nM := List.length_pos_iff.2 (digs_ne 20 M)
  have hnot : ¬ (1 < (digs 20 y).length ∧ (digs 20 y).head? = some 48) := by
    rintro ⟨h1, h2⟩
    rcases Nat.eq_zero_or_pos y with h | h
    · subst h; simp [digs] at h1
    · exact digs_head_pos 20 y h hy h2
  have hc : (decide (1 < (digs 20 y).length) && ((digs 20 y).head? == some 48)) = false := by
    rw [Bool.and_eq_false_iff]
    by_cases h : 1 < (digs 20 y).length
    · right; rw [beq_eq_false_iff_ne]; exact fun e => hnot ⟨h, e⟩
    · left; simpa using h
  unfold fitsB
  rw [hc]
  simp only [Bool.false_eq_true, if_false]
  rcases Nat.lt_trichotomy (digs 20 y).length (digs 20 M).length with h | h | h
  · have h1 : 10 ^ (digs 20 y).length ≤ 10 ^ ((digs 20 M).length - 1) := Nat.pow_le_pow_right (by decide) (by omega)
    have : y ≤ M := by omega
    simp [h, this]
  · rw [lexLe_val _ _ h dy dM, vy, vM]
    simp [h]
  · have h1 : 10 ^ (digs 20 M).length ≤ 10 ^ ((digs 20 y).length - 1) := Nat.pow_le_pow_right (by decide) (by omega)
    have hyp : 0 < y := by
      rcases Nat.eq_zero_or_pos y with h0 | h0
      · subst h0
        have : (digs 20 0).length = 1 := rfl
        omega
      · exact h0
    have gy := digs_ge 20 y hyp hy
    have : ¬ y ≤ M := by omega
    have h2 : ¬ (digs 20 y).length < (digs 20 M).length := by omega
    have h3 : ¬ (digs 20 y).length = (digs 20 M).length := by omega
    simp [h2, h3, this]

/-- Behind some digits, of the value x (none: n = 0), a digit more. -/
theorem fits_step {M x n : Nat} {p : List UInt8} {c : UInt8} (hM0 : 0 < M) (hM : M < 10 ^ 20) (hc : isD c = true) (h0 : n = 0 → x = 0 ∧ p = []) (hp : 0 < n → p = digs 20 x ∧ x ≤ M) :
    fitsB (p ++ [c]) (digs 20 M) = decide (¬ ((0 < n ∧ x = 0) ∨ M < 10 * x + dv c)) := by
  obtain ⟨e1, e2⟩ := ch_dv hc
  by_cases hn : n = 0
  · obtain ⟨rfl, rfl⟩ := h0 hn
    have : [] ++ [c] = digs 20 (dv c) := by rw [digs_small e2, e1]; rfl
    rw [this, fits_num hM0 (by omega) (by omega)]
    congr 1
    rw [eq_iff_iff]; omega
  · obtain ⟨rfl, hx⟩ := hp (by omega)
    rcases Nat.eq_zero_or_pos x with h | h
    · subst h
      have : fitsB (digs 20 0 ++ [c]) (digs 20 M) = false := by
        have e : digs 20 0 = [48] := rfl
        rw [e]; rfl
      rw [this]
      symm
      apply decide_eq_false
      intro h; exact h (.inl ⟨by omega, rfl⟩)
    · have : digs 20 x ++ [c] = digs 20 (10 * x + dv c) := by rw [digs_step h e2 (by omega), e1]
      rw [this, fits_num hM0 (by omega) (by omega)]
      congr 1
      rw [eq_iff_iff]; omega

/-! ### The reference's reader: where it differs is what it has of a number with which something is wrong -/

def rdigGo (most : Nat) : List UInt8 → Nat → Nat → Nat × List UInt8 × Bool
  | [], n, x => (x, [], n == 0)
  | c :: t, n, x =>
    if isD c then
      if (0 < n ∧ x = 0) ∨ most < 10 * x + dv c then (x, c :: t, true) else rdigGo most t (n + 1) (10 * x + dv c)
    else (x, c :: t, n == 0)
theorem rdigGo_cons (most : Nat) (c : UInt8) (t : List UInt8) (n x : Nat) : rdigGo most (c :: t) n x =
    if isD c then (if (0 < n ∧ x = 0) ∨ most < 10 * x + dv c then (x, c :: t, true) else rdigGo most t (n + 1) (10 * x + dv c)) else (x, c :: t, n == 0) := rfl
theorem rdigGo_same (most : Nat) : ∀ (l : List UInt8) (n x : Nat), (rdigGo most l n x).2 = (digGo most l n x).2 ∧ ((digGo most l n x).2.2 = false → rdigGo most l n x = digGo most l n x) := by
  intro l
  induction l with
  | nil => intro n x; exact ⟨rfl, fun _ => rfl⟩
  | cons c t ih =>
    intro n x
    rw [rdigGo_cons, digGo_cons]
    by_cases h1 : isD c = true
    · rw [if_pos h1, if_pos h1]
      by_cases h2 : (0 < n ∧ x = 0) ∨ most < 10 * x + dv c
      · rw [if_pos h2, if_pos h2]; exact ⟨rfl, fun h => by cases h⟩
      · rw [if_neg h2, if_neg h2]; exact ih _ _
    · rw [if_neg h1, if_neg h1]; exact ⟨rfl, fun _ => rfl⟩

def rdigitsF (most : Nat) (r : Rd) : Nat × Rd := if r.bad then (0, r) else ((rdigGo most r.rest 0 0).1, ⟨(rdigGo most r.rest 0 0).2.1, (rdigGo most r.rest 0 0).2.2⟩)
theorem rdigitsF_same (most : Nat) (r : Rd) : (rdigitsF most r).2 = (digitsF most r).2 ∧ ((digitsF most r).2.bad = false → rdigitsF most r = digitsF most r) := by
  unfold rdigitsF digitsF
  by_cases h : r.bad = true
  · rw [if_pos h, if_pos h]; exact ⟨rfl, fun _ => rfl⟩
  · rw [if_neg h, if_neg h]
    obtain ⟨h1, h2⟩ := rdigGo_same most r.rest 0 0
    refine ⟨by rw [h1], fun hb => ?_⟩
    rw [h2 hb]

/-- Two readers of a number come as far, and read the same where nothing is wrong. -/
def Alike (a b : Rd → Int × Rd) : Prop := ∀ r, (a r).2 = (b r).2 ∧ ((b r).2.bad = false → a r = b r)

def ruintF (r : Rd) : Int × Rd := (((rdigitsF m64 r).1 : Int), (rdigitsF m64 r).2)
def rintF (r : Rd) : Int × Rd :=
  if (takeF 45 r).1 then
    (if (takeF 45 r).2.rest.head? = some 48 then (0, ⟨(takeF 45 r).2.rest, true⟩) else (-((rdigitsF (m63 + 1) (takeF 45 r).2).1 : Int), (rdigitsF (m63 + 1) (takeF 45 r).2).2))
  else (((rdigitsF m63 r).1 : Int), (rdigitsF m63 r).2)

theorem alike_uint : Alike ruintF uintF := by
  intro r
  obtain ⟨h1, h2⟩ := rdigitsF_same m64 r
  refine ⟨h1, fun h => ?_⟩
  unfold ruintF uintF
  rw [h2 h]
theorem alike_int : Alike rintF intF := by
  intro r
  unfold rintF intF
  by_cases ht : (takeF 45 r).1 = true
  · rw [if_pos ht, if_pos ht]
    by_cases hz : (takeF 45 r).2.rest.head? = some 48
    · rw [if_pos hz, if_pos hz]; exact ⟨rfl, fun _ => rfl⟩
    · rw [if_neg hz, if_neg hz]
      obtain ⟨h1, h2⟩ := rdigitsF_same (m63 + 1) (takeF 45 r).2
      exact ⟨h1, fun h => by rw [h2 h]⟩
  · rw [if_neg ht, if_neg ht]
    obtain ⟨h1, h2⟩ := rdigitsF_same m63 r
    exact ⟨h1, fun h => by rw [h2 h]⟩

def isF (b : UInt8) (r : Rd) : Bool := (takeF b r).1

/-- the reference's list, from its first element on. -/
def rrowGo (one : Rd → Int × Rd) : Nat → Rd → List Int → List Int × Rd
  | 0, r, out => (out, r)
  | f + 1, r, out => if isF 93 r || r.bad then (out, r) else rrowGo one f (one (if out.isEmpty then r else mustF 32 r)).2 (out ++ [(one (if out.isEmpty then r else mustF 32 r)).1])
def rrowF (one : Rd → Int × Rd) (r : Rd) : List Int × Rd :=
  ((rrowGo one ((mustF 91 r).rest.length + 2) (mustF 91 r) []).1, mustF 93 (rrowGo one ((mustF 91 r).rest.length + 2) (mustF 91 r) []).2)

theorem isF_bad {b : UInt8} {r : Rd} (h : r.bad = true) : isF b r = false := by unfold isF; rw [takeF_bad h]
theorem mustF_is {b : UInt8} {r : Rd} (h : (takeF b r).1 = true) : mustF b r = (takeF b r).2 := by unfold mustF; rw [if_pos h]

theorem rrowGo_bad (one : Rd → Int × Rd) (f : Nat) (r : Rd) (out : List Int) (h : r.bad = true) : rrowGo one f r out = (out, r) := by
  cases f with
  | zero => rfl
  | succ f => unfold rrowGo; rw [h, Bool.or_true, if_pos rfl]
theorem rrowGo_is (one : Rd → Int × Rd) (f : Nat) (r : Rd) (out : List Int) (h : isF 93 r = true) : rrowGo one f r out = (out, r) := by
  cases f with
  | zero => rfl
  | succ f => unfold rrowGo; rw [h, Bool.true_or, if_pos rfl]
theorem rrowGo_go (one : Rd → Int × Rd) (f : Nat) (r : Rd) (out : List Int) (h1 : isF 93 r = false) (h2 : r.bad = false) (h3 : out.isEmpty = false) :
    rrowGo one (f + 1) r out = rrowGo one f (one (mustF 32 r)).2 (out ++ [(one (mustF 32 r)).1]) := by
  show (if isF 93 r || r.bad then _ else _) = _
  rw [h1, h2, h3]
  rfl

theorem notbad {r : Rd} (h : ¬ r.bad = true) : r.bad = false := by simpa using h

/-- The two lists. -/
theorem row_alike {ro one : Rd → Int × Rd} {good : Int → Prop} (R : Reads one good) (A : Alike ro one) : ∀ (f : Nat) (r : Rd) (out : List Int), r.rest.length < f →
    (mustF 93 (rrowGo ro f (ro r).2 (out ++ [(ro r).1])).2 = (rowGo one f r out).2) ∧ ((rowGo one f r out).2.bad = false → (rrowGo ro f (ro r).2 (out ++ [(ro r).1])).1 = (rowGo one f r out).1) := by
  intro f
  induction f with
  | zero => intro r out hf; omega
  | succ f ih =>
    intro r out hf
    by_cases hb : r.bad = true
    · rw [rowGo_bad one _ _ _ hb, (A r).1, R.bad r hb, rrowGo_bad ro _ _ _ hb]
      exact ⟨mustF_bad hb, fun h => by rw [hb] at h; cases h⟩
    · have hG : rowGo one (f + 1) r out = if (takeF 93 (one r).2).1 then (out ++ [(one r).1], (takeF 93 (one r).2).2) else rowGo one f (mustF 32 (one r).2) (out ++ [(one r).1]) := by
        show (if r.bad then _ else _) = _
        rw [if_neg hb]
      rw [hG, (A r).1]
      by_cases ht : (takeF 93 (one r).2).1 = true
      · have hnb : (one r).2.bad = false := by
          cases h : (one r).2.bad with
          | false => rfl
          | true => rw [takeF_bad h] at ht; cases ht
        rw [if_pos ht, (A r).2 hnb, rrowGo_is ro _ _ _ ht]
        exact ⟨mustF_is ht, fun _ => rfl⟩
      · have ht' : isF 93 (one r).2 = false := by unfold isF; simpa using ht
        rw [if_neg ht]
        by_cases hb2 : (one r).2.bad = true
        · rw [rrowGo_bad ro _ _ _ hb2, mustF_bad (b := 32) hb2, rowGo_bad one _ _ _ hb2]
          exact ⟨mustF_bad hb2, fun h => by rw [hb2] at h; cases h⟩
        · have hnb := notbad hb2
          rw [(A r).2 hnb, rrowGo_go ro f _ _ ht' hnb (by simp)]
          by_cases hb3 : (mustF 32 (one r).2).bad = true
          · rw [rowGo_bad one _ _ _ hb3, (A _).1, R.bad _ hb3, rrowGo_bad ro _ _ _ hb3]
            exact ⟨mustF_bad hb3, fun h => by rw [hb3] at h; cases h⟩
          · have hlen : (mustF 32 (one r).2).rest.length < f := by
              have k1 := mustF_back (b := 32) rfl (notbad hb3)
              have h3 : one r = ((one r).1, ⟨32 :: (mustF 32 (one r).2).rest, false⟩) := by rw [← k1]
              obtain ⟨j1, j2⟩ := R.back r _ _ h3
              have := congrArg (fun r => r.rest.length) j1
              simp only [List.length_append, List.length_cons] at this
              omega
            exact ih _ _ hlen

theorem alike_row {ro one : Rd → Int × Rd} {good : Int → Prop} (R : Reads one good) (A : Alike ro one) (r : Rd) : (rrowF ro r).2 = (rowF one r).2 ∧ ((rowF one r).2.bad = false → rrowF ro r = rowF one r) := by
  unfold rrowF rowF
  generalize mustF 91 r = r1
  by_cases ht : (takeF 93 r1).1 = true
  · rw [if_pos ht, rrowGo_is ro _ _ _ ht]
    exact ⟨mustF_is ht, fun _ => by simp only [mustF_is ht]⟩
  · rw [if_neg ht]
    have ht' : isF 93 r1 = false := by unfold isF; simpa using ht
    by_cases hb : r1.bad = true
    · rw [rrowGo_bad ro _ _ _ hb, rowGo_bad one _ _ _ hb]
      exact ⟨mustF_bad hb, fun h => by rw [hb] at h; cases h⟩
    · have hgo : rrowGo ro (r1.rest.length + 2) r1 [] = rrowGo ro (r1.rest.length + 1) (ro r1).2 ([] ++ [(ro r1).1]) := by
        show (if isF 93 r1 || r1.bad then _ else _) = _
        rw [ht', notbad hb]; rfl
      rw [hgo]
      obtain ⟨h1, h2⟩ := row_alike R A (r1.rest.length + 1) r1 [] (Nat.lt_succ_self _)
      exact ⟨h1, fun h => Prod.ext (h2 h) h1⟩

/-- the reference's event. -/
def rreadE (r : Rd) : Evt × Rd :=
  let a := rintF r
  let b := rintF (mustF 32 a.2)
  let c := rintF (mustF 32 b.2)
  let d := rintF (mustF 32 c.2)
  let e := rintF (mustF 32 d.2)
  let v := ruintF (mustF 32 e.2)
  let l := rrowF ruintF (mustF 32 v.2)
  let k := rrowF rintF (mustF 32 l.2)
  (⟨a.1, b.1, c.1, d.1, e.1, v.1, l.1, k.1⟩, k.2)

theorem nb_int {r : Rd} (h : (intF r).2.bad = false) : r.bad = false := by
  cases hr : r.bad with
  | false => rfl
  | true => rw [reads_int.bad r hr, hr] at h; cases h
theorem nb_uint {r : Rd} (h : (uintF r).2.bad = false) : r.bad = false := by
  cases hr : r.bad with
  | false => rfl
  | true => rw [reads_uint.bad r hr, hr] at h; cases h
theorem nb_must {b : UInt8} {r : Rd} (h : (mustF b r).bad = false) : r.bad = false := by
  cases hr : r.bad with
  | false => rfl
  | true => rw [mustF_bad hr, hr] at h; cases h
theorem nb_row {one : Rd → Int × Rd} {r : Rd} (h : (rowF one r).2.bad = false) : r.bad = false := by
  cases hr : r.bad with
  | false => rfl
  | true => rw [rowF_bad one r hr, hr] at h; cases h

theorem read_alike (r : Rd) : (rreadE r).2 = (readE r).2 ∧ ((readE r).2.bad = false → rreadE r = readE r) := by
  have A1 := alike_int r
  unfold rreadE readE
  simp only
  rw [A1.1]
  have A2 := alike_int (mustF 32 (intF r).2)
  rw [A2.1]
  generalize ha : intF r = a at *
  generalize hb : intF (mustF 32 a.2) = b at *
  have A3 := alike_int (mustF 32 b.2)
  rw [A3.1]
  generalize hc : intF (mustF 32 b.2) = c at *
  have A4 := alike_int (mustF 32 c.2)
  rw [A4.1]
  generalize hd : intF (mustF 32 c.2) = d at *
  have A5 := alike_int (mustF 32 d.2)
  rw [A5.1]
  generalize he : intF (mustF 32 d.2) = e at *
  have A6 := alike_uint (mustF 32 e.2)
  rw [A6.1]
  generalize hv : uintF (mustF 32 e.2) = v at *
  have A7 := alike_row reads_uint alike_uint (mustF 32 v.2)
  rw [A7.1]
  generalize hl : rowF uintF (mustF 32 v.2) = l at *
  have A8 := alike_row reads_int alike_int (mustF 32 l.2)
  rw [A8.1]
  refine ⟨rfl, fun h8 => ?_⟩
  have n7 : l.2.bad = false := nb_must (nb_row h8)
  have n6 : v.2.bad = false := by rw [← hl] at n7; exact nb_must (nb_row n7)
  have n5 : e.2.bad = false := by rw [← hv] at n6; exact nb_must (nb_uint n6)
  have n4 : d.2.bad = false := by rw [← he] at n5; exact nb_must (nb_int n5)
  have n3 : c.2.bad = false := by rw [← hd] at n4; exact nb_must (nb_int n4)
  have n2 : b.2.bad = false := by rw [← hc] at n3; exact nb_must (nb_int n3)
  have n1 : a.2.bad = false := by rw [← hb] at n2; exact nb_must (nb_int n2)
  rw [A1.2 n1, A2.2 n2, A3.2 n3, A4.2 n4, A5.2 n5, A6.2 n6, A7.2 n7, A8.2 h8]

end Tx
end Go.Proofs.Ytkhagpnnkfglbaa
