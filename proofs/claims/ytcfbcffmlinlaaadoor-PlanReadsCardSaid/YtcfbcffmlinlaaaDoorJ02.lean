/-
  Lines of events, no program in sight: what is told is read as it was, and what is read is told as it stood.
  Plans as texts, and reading them; no program in sight.
  A plan's lines, and back; no program in sight.
-/
import Derived.Test.YtcfbcffmlinlaaaDoorJ01
set_option linter.unusedVariables false
namespace Go.Proofs.YtcfbcffmlinlaaaDoor
namespace Tx

/-! ### Digits -/

def ch (n : Nat) : UInt8 := UInt8.ofNat (48 + n)
/-- a number's digits. -/
def digs : Nat → Nat → List UInt8
  | 0, x => [ch x]
  | f + 1, x => if x < 10 then [ch x] else digs f (x / 10) ++ [ch (x % 10)]

theorem ch_toNat {n : Nat} (h : n < 10) : (ch n).toNat = 48 + n := by
  have e : 48 + n < 256 := by omega
  show (48 + n) % 256 = 48 + n
  exact Nat.mod_eq_of_lt e

theorem digs_fuel (f : Nat) : ∀ (g x : Nat), x < 10 ^ (f + 1) → x < 10 ^ (g + 1) → digs f x = digs g x := by
  induction f with
  | zero =>
    intro g x h1 h2
    have h1' : x < 10 := by simpa using h1
    cases g with
    | zero => rfl
    | succ g => unfold digs; rw [if_pos h1']
  | succ f ih =>
    intro g x h1 h2
    cases g with
    | zero =>
      have h2' : x < 10 := by simpa using h2
      unfold digs; rw [if_pos h2']
    | succ g =>
      unfold digs
      by_cases hx : x < 10
      · rw [if_pos hx, if_pos hx]
      · rw [if_neg hx, if_neg hx]
        rw [ih g (x / 10) (by rw [Nat.pow_succ] at h1; omega) (by rw [Nat.pow_succ] at h2; omega)]

theorem digs_step {x v : Nat} (hx : 0 < x) (hv : v < 10) (h : 10 * x + v < 10 ^ 21) : digs 20 (10 * x + v) = digs 20 x ++ [ch v] := by
  have e1 : (10 * x + v) / 10 = x := by omega
  have e2 : (10 * x + v) % 10 = v := by omega
  have : digs 20 (10 * x + v) = if 10 * x + v < 10 then [ch (10 * x + v)] else digs 19 ((10 * x + v) / 10) ++ [ch ((10 * x + v) % 10)] := rfl
  rw [this, if_neg (by omega), e1, e2, digs_fuel 19 20 x (by omega) (by omega)]

theorem digs_small {x : Nat} (h : x < 10) : digs 20 x = [ch x] := by
  show (if x < 10 then [ch x] else digs 19 (x / 10) ++ [ch (x % 10)]) = [ch x]
  rw [if_pos h]

theorem digs_big {x : Nat} (h : 10 ≤ x) (hx : x < 10 ^ 21) : digs 20 x = digs 20 (x / 10) ++ [ch (x % 10)] := by
  have := digs_step (x := x / 10) (v := x % 10) (by omega) (by omega) (by omega)
  rw [← this, show 10 * (x / 10) + x % 10 = x by omega]

/-- is it a digit? -/
def isD (c : UInt8) : Bool := decide (48 ≤ c.toNat) && decide (c.toNat ≤ 57)
def dv (c : UInt8) : Nat := c.toNat - 48
theorem isD_ch {n : Nat} (h : n < 10) : isD (ch n) = true := by unfold isD; rw [ch_toNat h]; simp; omega
theorem dv_ch {n : Nat} (h : n < 10) : dv (ch n) = n := by unfold dv; rw [ch_toNat h]; omega
theorem ch_dv {c : UInt8} (h : isD c = true) : ch (dv c) = c ∧ dv c < 10 := by
  unfold isD at h
  simp only [Bool.and_eq_true, decide_eq_true_eq] at h
  refine ⟨?_, by unfold dv; omega⟩
  apply UInt8.toNat_inj.1
  rw [ch_toNat (by unfold dv; omega)]
  unfold dv; omega

theorem digs_isD (f : Nat) : ∀ x, x < 10 ^ (f + 1) → ∀ c ∈ digs f x, isD c = true := by
  induction f with
  | zero => intro x hx c hc; simp [digs] at hc; subst hc; exact isD_ch (by simpa using hx)
  | succ f ih =>
    intro x hx c hc
    unfold digs at hc
    by_cases h : x < 10
    · rw [if_pos h] at hc; simp at hc; subst hc; exact isD_ch h
    · rw [if_neg h, List.mem_append] at hc
      rcases hc with hc | hc
      · exact ih _ (by rw [Nat.pow_succ] at hx; omega) c hc
      · simp at hc; subst hc; exact isD_ch (by omega)

theorem digs_ne (f x : Nat) : digs f x ≠ [] := by
  cases f with
  | zero => simp [digs]
  | succ f => unfold digs; split <;> simp

/-! ### The reader -/

structure Rd where
  rest : List UInt8
  bad : Bool
  deriving DecidableEq

def takeF (b : UInt8) (r : Rd) : Bool × Rd :=
  if r.bad then (false, r) else match r.rest with
    | [] => (false, r)
    | c :: t => if c = b then (true, ⟨t, false⟩) else (false, r)
def mustF (b : UInt8) (r : Rd) : Rd := if (takeF b r).1 then (takeF b r).2 else ⟨r.rest, true⟩

/-- digits from here on: how many have come, what they say; at last: what they say, what is left, whether something is wrong there. -/
def digGo (most : Nat) : List UInt8 → Nat → Nat → Nat × List UInt8 × Bool
  | [], n, x => (x, [], n == 0)
  | c :: t, n, x =>
    if isD c then
      if (0 < n ∧ x = 0) ∨ most < 10 * x + dv c then (0, c :: t, true) else digGo most t (n + 1) (10 * x + dv c)
    else (x, c :: t, n == 0)
theorem digGo_cons (most : Nat) (c : UInt8) (t : List UInt8) (n x : Nat) : digGo most (c :: t) n x =
    if isD c then (if (0 < n ∧ x = 0) ∨ most < 10 * x + dv c then (0, c :: t, true) else digGo most t (n + 1) (10 * x + dv c)) else (x, c :: t, n == 0) := rfl
theorem head_app {l : List UInt8} (h : l ≠ []) (t : List UInt8) : (l ++ t).head? = l.head? := by
  cases l with
  | nil => exact absurd rfl h
  | cons c l => rfl
def digitsF (most : Nat) (r : Rd) : Nat × Rd := if r.bad then (0, r) else ((digGo most r.rest 0 0).1, ⟨(digGo most r.rest 0 0).2.1, (digGo most r.rest 0 0).2.2⟩)

def m63 : Nat := 9223372036854775807
def m64 : Nat := 18446744073709551615
def uintF (r : Rd) : Int × Rd := (((digitsF m64 r).1 : Int), (digitsF m64 r).2)
def intF (r : Rd) : Int × Rd :=
  if (takeF 45 r).1 then
    (if (takeF 45 r).2.rest.head? = some 48 then (0, ⟨(takeF 45 r).2.rest, true⟩) else (-((digitsF (m63 + 1) (takeF 45 r).2).1 : Int), (digitsF (m63 + 1) (takeF 45 r).2).2))
  else (((digitsF m63 r).1 : Int), (digitsF m63 r).2)

/-- the elements of a list, from an element's beginning on. -/
def rowGo (one : Rd → Int × Rd) : Nat → Rd → List Int → List Int × Rd
  | 0, r, out => (out, r)
  | f + 1, r, out => if r.bad then (out, r) else
    if (takeF 93 (one r).2).1 then (out ++ [(one r).1], (takeF 93 (one r).2).2) else rowGo one f (mustF 32 (one r).2) (out ++ [(one r).1])
def rowF (one : Rd → Int × Rd) (r : Rd) : List Int × Rd :=
  if (takeF 93 (mustF 91 r)).1 then ([], (takeF 93 (mustF 91 r)).2) else rowGo one ((mustF 91 r).rest.length + 1) (mustF 91 r) []

structure Evt where
  call : Int
  inv : Int
  resp : Int
  steps : Int
  err : Int
  val : Int
  list : List Int
  key : List Int
  deriving DecidableEq

def evt0 : Evt := ⟨0, 0, 0, 0, 0, 0, [], []⟩

def i64 (x : Int) : Prop := -9223372036854775808 ≤ x ∧ x ≤ 9223372036854775807
def u64 (x : Int) : Prop := 0 ≤ x ∧ x ≤ 18446744073709551615
/-- Its numbers are those of their types. -/
def Evt.ok (e : Evt) : Prop := i64 e.call ∧ i64 e.inv ∧ i64 e.resp ∧ i64 e.steps ∧ i64 e.err ∧ u64 e.val ∧ (∀ x ∈ e.list, u64 x) ∧ ∀ x ∈ e.key, i64 x

/-- an event, from the line's beginning on. -/
def readE (r : Rd) : Evt × Rd :=
  let a := intF r
  let b := intF (mustF 32 a.2)
  let c := intF (mustF 32 b.2)
  let d := intF (mustF 32 c.2)
  let e := intF (mustF 32 d.2)
  let v := uintF (mustF 32 e.2)
  let l := rowF uintF (mustF 32 v.2)
  let k := rowF intF (mustF 32 l.2)
  (⟨a.1, b.1, c.1, d.1, e.1, v.1, l.1, k.1⟩, k.2)
def okRd (r : Rd) : Bool := !r.bad && r.rest.isEmpty

/-! ### Texts -/

def numT (x : Int) : List UInt8 := if x < 0 then 45 :: digs 20 (-x).toNat else digs 20 x.toNat
/-- words, a blank between them. -/
def jn : List (List UInt8) → List UInt8
  | [] => []
  | [a] => a
  | a :: b :: r => a ++ 32 :: jn (b :: r)
def listT (l : List Int) : List UInt8 := 91 :: (jn (l.map numT) ++ [93])
def evT (e : Evt) : List UInt8 := jn [numT e.call, numT e.inv, numT e.resp, numT e.steps, numT e.err, numT e.val, listT e.list, listT e.key]
def callT (t o k a b c : Int) : List UInt8 := jn [numT t, numT o, numT k, numT a, numT b, numT c]

/-! ### Digits that are read -/

/-- What follows is no digit. -/
def stops (t : List UInt8) : Prop := ∀ c, t.head? = some c → isD c = false

theorem digGo_stop (most : Nat) (t : List UInt8) (n x : Nat) (h : stops t) : digGo most t n x = (x, t, n == 0) := by
  cases t with
  | nil => rfl
  | cons c t => unfold digGo; rw [if_neg (by rw [h c rfl]; decide)]

/-- Behind a number's digits. -/
theorem digGo_digs (most : Nat) (t : List UInt8) (ht : stops t) : ∀ (f x : Nat), x ≤ most → x < 10 ^ (f + 1) → digGo most (digs f x ++ t) 0 0 = digGo most t (digs f x).length x := by
  -- by the digits from the left: a prefix's value
  have key : ∀ (f x : Nat), x ≤ most → x < 10 ^ (f + 1) → ∀ t', digGo most (digs f x ++ t') 0 0 = digGo most t' (digs f x).length x := by
    intro f
    induction f with
    | zero =>
      intro x hm hx t'
      have hx' : x < 10 := by simpa using hx
      show digGo most (ch x :: t') 0 0 = _
      rw [digGo_cons, if_pos (isD_ch hx'), dv_ch hx', if_neg (by omega)]
      simp [digs]
    | succ f ih =>
      intro x hm hx t'
      unfold digs
      by_cases h : x < 10
      · rw [if_pos h]
        show digGo most (ch x :: t') 0 0 = _
        rw [digGo_cons, if_pos (isD_ch h), dv_ch h, if_neg (by omega)]
        simp
      · rw [if_neg h, List.append_assoc, ih (x / 10) (by omega) (by rw [Nat.pow_succ] at hx; omega)]
        show digGo most (ch (x % 10) :: t') _ _ = _
        rw [List.length_append]
        conv => lhs; unfold digGo
        have e : 10 * (x / 10) + x % 10 = x := by omega
        rw [if_pos (isD_ch (by omega)), dv_ch (by omega), e, if_neg (by omega)]
        rfl
  exact fun f x hm hx => key f x hm hx t

theorem digGo_num (most x : Nat) (t : List UInt8) (ht : stops t) (hm : x ≤ most) (hx : x < 10 ^ 21) : digGo most (digs 20 x ++ t) 0 0 = (x, t, false) := by
  rw [digGo_digs most t ht 20 x hm hx, digGo_stop most t _ x ht]
  have : (digs 20 x).length ≠ 0 := fun h => digs_ne 20 x (List.length_eq_zero_iff.1 h)
  rw [beq_eq_false_iff_ne.2 this]

/-- What has been read says what it is. -/
theorem digGo_back (most : Nat) (hm : most < 10 ^ 20) : ∀ (l : List UInt8) (n x : Nat) (p : List UInt8), (n = 0 → x = 0 ∧ p = []) → (0 < n → p = digs 20 x ∧ x ≤ most) → ∀ v t, digGo most l n x = (v, t, false) →
    p ++ l = digs 20 v ++ t ∧ v ≤ most := by
  intro l
  induction l with
  | nil =>
    intro n x p h0 hp v t h
    unfold digGo at h
    simp only [Prod.mk.injEq, beq_eq_false_iff_ne, ne_eq] at h
    obtain ⟨rfl, rfl, hn⟩ := h
    obtain ⟨rfl, hx⟩ := hp (by omega)
    exact ⟨rfl, hx⟩
  | cons c l ih =>
    intro n x p h0 hp v t h
    unfold digGo at h
    by_cases hc : isD c = true
    · rw [if_pos hc] at h
      obtain ⟨e1, e2⟩ := ch_dv hc
      by_cases hb : (0 < n ∧ x = 0) ∨ most < 10 * x + dv c
      · rw [if_pos hb] at h; simp at h
      · rw [if_neg hb] at h
        have hb2 : ¬ most < 10 * x + dv c := fun h => hb (.inr h)
        have hb1 : ¬ (0 < n ∧ x = 0) := fun h => hb (.inl h)
        have hp' : p ++ [c] = digs 20 (10 * x + dv c) := by
          by_cases hn : n = 0
          · obtain ⟨rfl, rfl⟩ := h0 hn
            rw [show 10 * 0 + dv c = dv c by omega, digs_small e2, e1]; rfl
          · obtain ⟨rfl, hx⟩ := hp (by omega)
            rw [digs_step (by omega) e2 (by omega), e1]
        obtain ⟨r1, r2⟩ := ih (n + 1) (10 * x + dv c) (p ++ [c]) (by omega) (fun _ => ⟨hp', by omega⟩) v t h
        refine ⟨?_, r2⟩
        rw [← r1]; simp
    · rw [if_neg hc] at h
      simp only [Prod.mk.injEq, beq_eq_false_iff_ne, ne_eq] at h
      obtain ⟨rfl, rfl, hn⟩ := h
      obtain ⟨rfl, hx⟩ := hp (by omega)
      exact ⟨rfl, hx⟩

theorem digGo_bad_stuck (most : Nat) : ∀ (l : List UInt8) (n x : Nat), (digGo most l n x).2.1.length ≤ l.length := by
  intro l
  induction l with
  | nil => intro n x; unfold digGo; simp
  | cons c l ih =>
    intro n x
    unfold digGo
    split
    · split
      · simp
      · have := ih (n + 1) (10 * x + dv c); simp; omega
    · simp

/-! ### Numbers that are read -/

theorem digitsF_bad (most : Nat) (r : Rd) (h : r.bad = true) : digitsF most r = (0, r) := by unfold digitsF; rw [if_pos h]
theorem digitsF_num (most x : Nat) (t : List UInt8) (ht : stops t) (hm : x ≤ most) (hx : x < 10 ^ 21) : digitsF most ⟨digs 20 x ++ t, false⟩ = (x, ⟨t, false⟩) := by
  unfold digitsF; simp only [Bool.false_eq_true, if_false]; rw [digGo_num most x t ht hm hx]
theorem digitsF_back {most : Nat} (hm : most < 10 ^ 20) {r : Rd} {v : Nat} {t : List UInt8} (h : digitsF most r = (v, ⟨t, false⟩)) : r = ⟨digs 20 v ++ t, false⟩ ∧ v ≤ most := by
  unfold digitsF at h
  by_cases hb : r.bad = true
  · rw [if_pos hb] at h
    simp only [Prod.mk.injEq] at h
    rw [h.2] at hb; cases hb
  · rw [if_neg hb] at h
    simp only [Prod.mk.injEq, Rd.mk.injEq] at h
    obtain ⟨h1, h2, h3⟩ := h
    obtain ⟨k1, k2⟩ := digGo_back most hm r.rest 0 0 [] (fun _ => ⟨rfl, rfl⟩) (fun h => by omega) v t (by rw [← h1, ← h2, ← h3])
    refine ⟨?_, k2⟩
    cases r with
    | mk rest bad =>
      simp only [List.nil_append] at k1
      simp only [Bool.not_eq_true] at hb
      subst k1 hb
      rfl

theorem takeF_yes (b : UInt8) (t : List UInt8) : takeF b ⟨b :: t, false⟩ = (true, ⟨t, false⟩) := by unfold takeF; simp
theorem takeF_no {b : UInt8} {r : Rd} (h : r.rest.head? ≠ some b) : takeF b r = (false, r) := by
  unfold takeF
  split
  · rfl
  · cases hr : r.rest with
    | nil => rfl
    | cons c t =>
      simp only
      rw [if_neg (fun e => h (by rw [hr, e]; rfl))]
theorem takeF_back {b : UInt8} {r r' : Rd} (h : takeF b r = (true, r')) : r = ⟨b :: r'.rest, false⟩ ∧ r'.bad = false := by
  unfold takeF at h
  cases r with
  | mk rest bad =>
    cases bad with
    | true => simp at h
    | false =>
      cases rest with
      | nil => simp at h
      | cons c t =>
        simp only at h
        by_cases e : c = b
        · rw [if_neg (by decide), if_pos e] at h
          simp only [Prod.mk.injEq, true_and] at h
          subst h; subst e; exact ⟨rfl, rfl⟩
        · rw [if_neg (by decide), if_neg e] at h; simp at h
theorem takeF_false {b : UInt8} {r r' : Rd} (h : takeF b r = (false, r')) : r' = r := by
  unfold takeF at h
  cases r with
  | mk rest bad =>
    cases bad with
    | true => simp at h; exact h.symm
    | false =>
      cases rest with
      | nil => simp at h; exact h.symm
      | cons c t =>
        simp only at h
        by_cases e : c = b
        · rw [if_neg (by decide), if_pos e] at h; simp at h
        · rw [if_neg (by decide), if_neg e] at h; simp at h; exact h.symm
theorem takeF_bad {b : UInt8} {r : Rd} (h : r.bad = true) : takeF b r = (false, r) := by unfold takeF; rw [if_pos h]
theorem mustF_yes (b : UInt8) (t : List UInt8) : mustF b ⟨b :: t, false⟩ = ⟨t, false⟩ := by unfold mustF; rw [takeF_yes]; rfl
theorem mustF_back {b : UInt8} {r r' : Rd} (h : mustF b r = r') (hb : r'.bad = false) : r = ⟨b :: r'.rest, false⟩ := by
  unfold mustF at h
  by_cases ht : (takeF b r).1 = true
  · rw [if_pos ht] at h
    have : takeF b r = (true, r') := by rw [← h, ← ht]
    exact (takeF_back this).1
  · rw [if_neg ht] at h
    subst h; cases hb
theorem mustF_bad {b : UInt8} {r : Rd} (h : r.bad = true) : mustF b r = r := by
  unfold mustF; rw [takeF_bad h]; cases r; simp at h; subst h; rfl

theorem digs_head (x : Nat) (hx : x < 10 ^ 21) : ∃ c t, digs 20 x = c :: t ∧ isD c = true := by
  cases h : digs 20 x with
  | nil => exact absurd h (digs_ne 20 x)
  | cons c t => exact ⟨c, t, rfl, digs_isD 20 x hx c (by rw [h]; exact List.mem_cons_self)⟩

/-- No number but 0 begins with the digit 0. -/
theorem digs_head_pos (f : Nat) : ∀ x, 0 < x → x < 10 ^ (f + 1) → (digs f x).head? ≠ some 48 := by
  induction f with
  | zero =>
    intro x h0 hx
    have hx' : x < 10 := by simpa using hx
    simp only [digs, List.head?_cons, ne_eq, Option.some.injEq]
    intro h
    have := congrArg UInt8.toNat h
    rw [ch_toNat hx'] at this
    have e : (48 : UInt8).toNat = 48 := rfl
    omega
  | succ f ih =>
    intro x h0 hx
    unfold digs
    by_cases h : x < 10
    · rw [if_pos h]
      simp only [List.head?_cons, ne_eq, Option.some.injEq]
      intro h'
      have := congrArg UInt8.toNat h'
      rw [ch_toNat h] at this
      have e : (48 : UInt8).toNat = 48 := rfl
      omega
    · rw [if_neg h, head_app (digs_ne f _)]
      exact ih _ (by omega) (by rw [Nat.pow_succ] at hx; omega)

/-- A word's reading: what is told is read as it was, what is read is told as it stood. -/
structure Reads (one : Rd → Int × Rd) (good : Int → Prop) : Prop where
  fwd : ∀ x t, good x → stops t → one ⟨numT x ++ t, false⟩ = (x, ⟨t, false⟩)
  back : ∀ r x t, one r = (x, ⟨t, false⟩) → r = ⟨numT x ++ t, false⟩ ∧ good x
  bad : ∀ r, r.bad = true → (one r).2 = r
  head : ∀ x, good x → (numT x).head? ≠ some 93

theorem numT_neg {x : Int} (h : x < 0) : numT x = 45 :: digs 20 (-x).toNat := by unfold numT; rw [if_pos h]
theorem numT_pos {x : Int} (h : 0 ≤ x) : numT x = digs 20 x.toNat := by unfold numT; rw [if_neg (by omega)]
theorem big21 {x : Nat} (h : x ≤ 18446744073709551616) : x < 10 ^ 21 := by
  have : (10 : Nat) ^ 21 = 1000000000000000000000 := by decide
  omega
theorem lt20 {x : Nat} (h : x ≤ 18446744073709551616) : x < 10 ^ 20 := by
  have : (10 : Nat) ^ 20 = 100000000000000000000 := by decide
  omega

theorem numT_head93 {x : Int} (h : -18446744073709551616 ≤ x ∧ x ≤ 18446744073709551616) : (numT x).head? ≠ some 93 := by
  by_cases hx : x < 0
  · rw [numT_neg hx]; simp only [List.head?_cons, ne_eq, Option.some.injEq]; decide
  · rw [numT_pos (by omega)]
    obtain ⟨c, t, e, hc⟩ := digs_head x.toNat (big21 (by omega))
    rw [e]
    simp only [List.head?_cons, ne_eq, Option.some.injEq]
    rintro rfl
    revert hc; decide

theorem reads_uint : Reads uintF u64 := by
  refine ⟨fun x t hx ht => ?_, fun r x t h => ?_, fun r h => ?_, fun x hx => numT_head93 (by unfold u64 at hx; omega)⟩
  · unfold u64 at hx
    unfold uintF
    rw [numT_pos (by omega), digitsF_num m64 x.toNat t ht (by unfold m64; omega) (big21 (by omega))]
    simp only [Prod.mk.injEq, and_true]
    omega
  · unfold uintF at h
    simp only [Prod.mk.injEq] at h
    obtain ⟨h1, h2⟩ := h
    have h3 : digitsF m64 r = ((digitsF m64 r).1, ⟨t, false⟩) := by rw [← h2]
    obtain ⟨k1, k2⟩ := digitsF_back (lt20 (by unfold m64; omega)) h3
    unfold m64 at k2
    refine ⟨?_, by unfold u64; unfold m64 at h1; omega⟩
    rw [numT_pos (by omega), ← h1]
    exact k1
  · unfold uintF; rw [digitsF_bad _ _ h]

theorem reads_int : Reads intF i64 := by
  refine ⟨fun x t hx ht => ?_, fun r x t h => ?_, fun r h => ?_, fun x hx => numT_head93 (by unfold i64 at hx; omega)⟩
  · unfold i64 at hx
    unfold intF
    by_cases h0 : x < 0
    · rw [numT_neg h0, List.cons_append, takeF_yes]
      have hp : (digs 20 (-x).toNat ++ t).head? ≠ some 48 := by
        rw [head_app (digs_ne 20 _)]
        exact digs_head_pos 20 _ (by omega) (big21 (by omega))
      simp only [if_pos]
      rw [if_neg hp, digitsF_num (m63 + 1) (-x).toNat t ht (by unfold m63; omega) (big21 (by omega))]
      simp only [Prod.mk.injEq, and_true]
      omega
    · rw [numT_pos (by omega)]
      obtain ⟨c, s, e, hc⟩ := digs_head x.toNat (big21 (by omega))
      have hn : (⟨digs 20 x.toNat ++ t, false⟩ : Rd).rest.head? ≠ some 45 := by
        rw [e]
        simp only [List.cons_append, List.head?_cons, ne_eq, Option.some.injEq]
        rintro rfl
        revert hc; decide
      rw [takeF_no hn]
      simp only [Bool.false_eq_true, if_false]
      rw [digitsF_num m63 x.toNat t ht (by unfold m63; omega) (big21 (by omega))]
      simp only [Prod.mk.injEq, and_true]
      omega
  · unfold intF at h
    by_cases ht : (takeF 45 r).1 = true
    · rw [if_pos ht] at h
      obtain ⟨k1, k2⟩ := takeF_back (b := 45) (r := r) (r' := (takeF 45 r).2) (by rw [← ht])
      generalize (takeF 45 r).2 = r1 at *
      by_cases hz : r1.rest.head? = some 48
      · rw [if_pos hz] at h; simp at h
      · rw [if_neg hz] at h
        simp only [Prod.mk.injEq] at h
        obtain ⟨h1, h2⟩ := h
        have h3 : digitsF (m63 + 1) r1 = ((digitsF (m63 + 1) r1).1, ⟨t, false⟩) := by rw [← h2]
        obtain ⟨j1, j2⟩ := digitsF_back (lt20 (by unfold m63; omega)) h3
        generalize (digitsF (m63 + 1) r1).1 = v at *
        unfold m63 at j2
        have hv : 0 < v := by
          rcases Nat.eq_zero_or_pos v with h0 | h0
          · exfalso; apply hz; rw [j1, h0]; rfl
          · exact h0
        refine ⟨?_, by unfold i64; omega⟩
        rw [k1, j1, numT_neg (by omega), show (-x).toNat = v by omega]
        rfl
    · rw [if_neg ht] at h
      simp only [Prod.mk.injEq] at h
      obtain ⟨h1, h2⟩ := h
      have h3 : digitsF m63 r = ((digitsF m63 r).1, ⟨t, false⟩) := by rw [← h2]
      obtain ⟨j1, j2⟩ := digitsF_back (lt20 (by unfold m63; omega)) h3
      generalize (digitsF m63 r).1 = v at *
      unfold m63 at j2
      refine ⟨?_, by unfold i64; omega⟩
      rw [j1, numT_pos (by omega), ← h1]
      rfl
  · unfold intF; rw [takeF_bad h]; simp only [Bool.false_eq_true, if_false]; rw [digitsF_bad _ _ h]

/-! ### Lists that are read -/

theorem stops_cons {c : UInt8} {t : List UInt8} (h : isD c = false) : stops (c :: t) := by intro d hd; simp at hd; subst hd; exact h
theorem stops_nil : stops [] := by intro d hd; cases hd

theorem jn_cons (a b : List UInt8) (r : List (List UInt8)) : jn (a :: b :: r) = a ++ 32 :: jn (b :: r) := rfl

theorem rowGo_fwd {one : Rd → Int × Rd} {good : Int → Prop} (R : Reads one good) (t : List UInt8) : ∀ (l : List Int) (f : Nat) (out : List Int), l ≠ [] → (∀ x ∈ l, good x) → (jn (l.map numT) ++ 93 :: t).length < f →
    rowGo one f ⟨jn (l.map numT) ++ 93 :: t, false⟩ out = (out ++ l, ⟨t, false⟩) := by
  intro l
  induction l with
  | nil => intro f out h; exact absurd rfl h
  | cons x l ih =>
    intro f out _ hg hf
    cases f with
    | zero => omega
    | succ f =>
      unfold rowGo
      simp only [Bool.false_eq_true, if_false]
      cases l with
      | nil =>
        show (if (takeF 93 (one ⟨numT x ++ 93 :: t, false⟩).2).1 = true then _ else _) = _
        have e : jn (List.map numT [x]) = numT x := rfl
        rw [e, R.fwd x (93 :: t) (hg x List.mem_cons_self) (stops_cons (by decide)), takeF_yes]
        rfl
      | cons y l =>
        have e : jn (List.map numT (x :: y :: l)) ++ 93 :: t = numT x ++ (32 :: (jn (List.map numT (y :: l)) ++ 93 :: t)) := by
          show jn (numT x :: numT y :: List.map numT l) ++ 93 :: t = _
          rw [jn_cons]; simp
        rw [e] at hf ⊢
        rw [R.fwd x _ (hg x List.mem_cons_self) (stops_cons (by decide))]
        simp only
        rw [takeF_no (b := 93) (by simp only [List.head?_cons, ne_eq, Option.some.injEq]; decide)]
        simp only [Bool.false_eq_true, if_false]
        rw [mustF_yes, ih f (out ++ [x]) (by simp) (fun z hz => hg z (List.mem_cons_of_mem _ hz)) (by simp only [List.length_append, List.length_cons] at hf ⊢; omega)]
        simp

theorem jn_head {l : List Int} {x : Int} {r : List Int} (h : l = x :: r) {t : List UInt8} : ∃ u, jn (l.map numT) ++ t = numT x ++ u := by
  subst h
  cases r with
  | nil => exact ⟨t, rfl⟩
  | cons y r => exact ⟨32 :: (jn (List.map numT (y :: r)) ++ t), by show jn (numT x :: numT y :: List.map numT r) ++ t = _; rw [jn_cons]; simp⟩

theorem numT_ne (x : Int) : numT x ≠ [] := by unfold numT; split <;> simp [digs_ne]

theorem rowF_fwd {one : Rd → Int × Rd} {good : Int → Prop} (R : Reads one good) (l : List Int) (t : List UInt8) (hg : ∀ x ∈ l, good x) : rowF one ⟨listT l ++ t, false⟩ = (l, ⟨t, false⟩) := by
  have e : listT l ++ t = 91 :: (jn (l.map numT) ++ 93 :: t) := by unfold listT; simp
  unfold rowF
  rw [e, mustF_yes]
  cases l with
  | nil =>
    show (if (takeF 93 ⟨93 :: t, false⟩).1 = true then _ else _) = _
    have e2 : jn (List.map numT []) ++ 93 :: t = 93 :: t := rfl
    rw [e2, takeF_yes]; rfl
  | cons x r =>
    obtain ⟨u, hu⟩ := jn_head (l := x :: r) rfl (t := 93 :: t)
    have hn : (⟨jn (List.map numT (x :: r)) ++ 93 :: t, false⟩ : Rd).rest.head? ≠ some 93 := by
      simp only
      rw [hu, head_app (numT_ne x)]
      exact R.head x (hg x List.mem_cons_self)
    rw [takeF_no hn]
    simp only [Bool.false_eq_true, if_false]
    rw [rowGo_fwd R t (x :: r) _ [] (by simp) hg (by simp)]
    rfl

theorem rowGo_bad (one : Rd → Int × Rd) (f : Nat) (r : Rd) (out : List Int) (h : r.bad = true) : rowGo one f r out = (out, r) := by
  cases f with
  | zero => rfl
  | succ f => unfold rowGo; rw [if_pos h]

theorem rowGo_back {one : Rd → Int × Rd} {good : Int → Prop} (R : Reads one good) : ∀ (f : Nat) (r : Rd) (out res : List Int) (t : List UInt8), r.rest.length < f → rowGo one f r out = (res, ⟨t, false⟩) →
    ∃ l, l ≠ [] ∧ res = out ++ l ∧ r = ⟨jn (l.map numT) ++ 93 :: t, false⟩ ∧ ∀ x ∈ l, good x := by
  intro f
  induction f with
  | zero => intro r out res t hf; omega
  | succ f ih =>
    intro r out res t hf h
    unfold rowGo at h
    by_cases hb : r.bad = true
    · rw [if_pos hb] at h
      simp only [Prod.mk.injEq] at h
      rw [h.2] at hb; cases hb
    · rw [if_neg hb] at h
      by_cases ht : (takeF 93 (one r).2).1 = true
      · rw [if_pos ht] at h
        simp only [Prod.mk.injEq] at h
        obtain ⟨h1, h2⟩ := h
        obtain ⟨k1, k2⟩ := takeF_back (b := 93) (r := (one r).2) (r' := ⟨t, false⟩) (by rw [← h2, ← ht])
        have h3 : one r = ((one r).1, ⟨93 :: t, false⟩) := by rw [← k1]
        obtain ⟨j1, j2⟩ := R.back r _ _ h3
        exact ⟨[(one r).1], by simp, h1.symm, j1, by intro x hx; simp at hx; subst hx; exact j2⟩
      · rw [if_neg ht] at h
        cases hm : (mustF 32 (one r).2).bad with
        | true =>
          rw [rowGo_bad one f _ _ hm] at h
          simp only [Prod.mk.injEq] at h
          rw [h.2] at hm; cases hm
        | false =>
          have k1 := mustF_back (b := 32) rfl hm
          have h3 : one r = ((one r).1, ⟨32 :: (mustF 32 (one r).2).rest, false⟩) := by rw [← k1]
          obtain ⟨j1, j2⟩ := R.back r _ _ h3
          have hlen : (mustF 32 (one r).2).rest.length < f := by
            have := congrArg (fun r => r.rest.length) j1
            simp only [List.length_append, List.length_cons] at this
            omega
          obtain ⟨l, l0, l1, l2, l3⟩ := ih _ _ _ _ hlen h
          refine ⟨(one r).1 :: l, by simp, by rw [l1]; simp, ?_, ?_⟩
          · rw [l2] at j1
            generalize (one r).1 = z at *
            rw [j1]
            cases l with
            | nil => exact absurd rfl l0
            | cons y l =>
              have e : jn (List.map numT (z :: y :: l)) = numT z ++ 32 :: jn (List.map numT (y :: l)) := rfl
              rw [e]; simp
          · intro x hx
            rcases List.mem_cons.1 hx with rfl | hx
            · exact j2
            · exact l3 x hx

theorem rowF_back {one : Rd → Int × Rd} {good : Int → Prop} (R : Reads one good) {r : Rd} {l : List Int} {t : List UInt8} (h : rowF one r = (l, ⟨t, false⟩)) : r = ⟨listT l ++ t, false⟩ ∧ ∀ x ∈ l, good x := by
  unfold rowF at h
  cases hm : (mustF 91 r).bad with
  | true =>
    rw [takeF_bad hm] at h
    simp only [Bool.false_eq_true, if_false] at h
    rw [rowGo_bad one _ _ _ hm] at h
    simp only [Prod.mk.injEq] at h
    rw [h.2] at hm; cases hm
  | false =>
    have k1 := mustF_back (b := 91) rfl hm
    by_cases ht : (takeF 93 (mustF 91 r)).1 = true
    · rw [if_pos ht] at h
      simp only [Prod.mk.injEq] at h
      obtain ⟨rfl, h2⟩ := h
      obtain ⟨k2, k3⟩ := takeF_back (b := 93) (r := mustF 91 r) (r' := ⟨t, false⟩) (by rw [← h2, ← ht])
      refine ⟨?_, by intro x hx; cases hx⟩
      rw [k1, k2]; rfl
    · rw [if_neg ht] at h
      obtain ⟨l', l0, l1, l2, l3⟩ := rowGo_back R _ _ _ _ _ (Nat.lt_succ_self _) h
      simp only [List.nil_append] at l1
      subst l1
      refine ⟨?_, l3⟩
      rw [k1, l2]
      unfold listT; simp

theorem rowF_bad (one : Rd → Int × Rd) (r : Rd) (h : r.bad = true) : (rowF one r).2 = r := by
  unfold rowF
  rw [mustF_bad h, takeF_bad h]
  simp only [Bool.false_eq_true, if_false]
  rw [rowGo_bad one _ _ _ h]

/-! ### Events that are read -/

theorem evT_eq (e : Evt) : evT e = numT e.call ++ 32 :: (numT e.inv ++ 32 :: (numT e.resp ++ 32 :: (numT e.steps ++ 32 :: (numT e.err ++ 32 :: (numT e.val ++ 32 :: (listT e.list ++ 32 :: (listT e.key ++ []))))))) := by
  unfold evT
  simp only [jn_cons, List.append_nil]
  rfl

theorem read_tell (e : Evt) (h : e.ok) : readE ⟨evT e, false⟩ = (e, ⟨[], false⟩) := by
  obtain ⟨h1, h2, h3, h4, h5, h6, h7, h8⟩ := h
  have sp : ∀ t, stops (32 :: t) := fun t => stops_cons (by decide)
  unfold readE
  rw [evT_eq]
  simp only [reads_int.fwd _ _ h1 (sp _), mustF_yes, reads_int.fwd _ _ h2 (sp _), reads_int.fwd _ _ h3 (sp _), reads_int.fwd _ _ h4 (sp _), reads_int.fwd _ _ h5 (sp _),
    reads_uint.fwd _ _ h6 (sp _), rowF_fwd reads_uint _ _ h7, rowF_fwd reads_int _ _ h8]

theorem tell_read (r : Rd) (e : Evt) (h : readE r = (e, ⟨[], false⟩)) : r = ⟨evT e, false⟩ ∧ e.ok := by
  unfold readE at h
  simp only [Prod.mk.injEq] at h
  obtain ⟨rfl, hk⟩ := h
  have mid : ∀ {r : Rd}, (mustF 32 r).bad = false → ∀ {x}, mustF 32 r = x → r = ⟨32 :: x.rest, false⟩ := fun hb x hx => by subst hx; exact mustF_back rfl hb
  -- from the end
  generalize ha : intF r = a at *
  generalize hb : intF (mustF 32 a.2) = b at *
  generalize hc : intF (mustF 32 b.2) = c at *
  generalize hd : intF (mustF 32 c.2) = d at *
  generalize he : intF (mustF 32 d.2) = e at *
  generalize hv : uintF (mustF 32 e.2) = v at *
  generalize hl : rowF uintF (mustF 32 v.2) = l at *
  generalize hkk : rowF intF (mustF 32 l.2) = k at *
  obtain ⟨a1, a2⟩ := a
  obtain ⟨b1, b2⟩ := b
  obtain ⟨c1, c2⟩ := c
  obtain ⟨d1, d2⟩ := d
  obtain ⟨e1, e2⟩ := e
  obtain ⟨v1, v2⟩ := v
  obtain ⟨l1, l2⟩ := l
  obtain ⟨k1, k2⟩ := k
  simp only at *
  subst hk
  obtain ⟨p8, g8⟩ := rowF_back reads_int hkk
  have q7 := mustF_back p8 rfl
  rw [q7] at hl
  obtain ⟨p7, g7⟩ := rowF_back reads_uint hl
  have q6 := mustF_back p7 rfl
  rw [q6] at hv
  obtain ⟨p6, g6⟩ := reads_uint.back _ _ _ hv
  have q5 := mustF_back p6 rfl
  rw [q5] at he
  obtain ⟨p5, g5⟩ := reads_int.back _ _ _ he
  have q4 := mustF_back p5 rfl
  rw [q4] at hd
  obtain ⟨p4, g4⟩ := reads_int.back _ _ _ hd
  have q3 := mustF_back p4 rfl
  rw [q3] at hc
  obtain ⟨p3, g3⟩ := reads_int.back _ _ _ hc
  have q2 := mustF_back p3 rfl
  rw [q2] at hb
  obtain ⟨p2, g2⟩ := reads_int.back _ _ _ hb
  have q1 := mustF_back p2 rfl
  rw [q1] at ha
  obtain ⟨p1, g1⟩ := reads_int.back _ _ _ ha
  exact ⟨by rw [p1, evT_eq], g1, g2, g3, g4, g5, g6, g7, g8⟩

theorem tell_inj {a b : Evt} (ha : a.ok) (hb : b.ok) (h : evT a = evT b) : a = b := by
  have h1 := read_tell a ha
  rw [h, read_tell b hb] at h1
  exact (congrArg Prod.fst h1).symm

end Tx
end Go.Proofs.YtcfbcffmlinlaaaDoor

namespace Go.Proofs.YtcfbcffmlinlaaaDoor
namespace Pl

/-- A number's digits. -/
def dg (x : Int) : List UInt8 := Tx.digs 20 x.toNat
/-- A line of a word and numbers. -/
def numsT (l : List Int) : List UInt8 := l.flatMap (fun x => 32 :: dg x)
def lineT (word : List UInt8) (l : List Int) : List UInt8 := word ++ (numsT l ++ [10])
def wT : List UInt8 := [116, 104, 114, 101, 97, 100, 115]
def wO : List UInt8 := [111, 98, 106, 101, 99, 116]
def wC : List UInt8 := [99, 97, 108, 108]
def wP : List UInt8 := [112, 105, 99, 107, 115]

def specT (x : Spc) : List UInt8 := lineT wO [x.kind, x.p, x.q]
def callT (c : Cll) : List UInt8 := lineT wC [c.thread, c.obj, c.kind, c.a, c.b, c.c]
def picksT : Nat → List Int → List UInt8
  | 0, _ => []
  | f + 1, l => if l = [] then [] else lineT wP (l.take 16) ++ picksT f (l.drop 16)
/-- A script's plan. -/
def planT (s : Scr) : List UInt8 := lineT wT [s.n] ++ (s.specs.flatMap specT ++ (s.calls.flatMap callT ++ picksT s.picks.length s.picks))

/-- What stands between blanks. -/
def words : List UInt8 → List (List UInt8)
  | [] => [[]]
  | c :: t => if c = 32 then [] :: words t else match words t with
    | [] => [[c]]
    | w :: r => (c :: w) :: r

/-- A number's digits, read on. -/
def numGo : List UInt8 → Nat → Option Nat
  | [], x => some x
  | c :: t, x => if Tx.isD c = true ∧ x * 10 + Tx.dv c ≤ 18446744073709551615 then numGo t (x * 10 + Tx.dv c) else none
def numP (w : List UInt8) : Option Nat := if w = [] ∨ (1 < w.length ∧ w.head? = some 48) then none else numGo w 0

/-- The numbers of words, if all are numbers. -/
def numsP : List (List UInt8) → Option (List Int)
  | [] => some []
  | w :: r => match numP w with
    | none => none
    | some x => match numsP r with
      | none => none
      | some l => some ((x : Int) :: l)

/-- How far a plan is read. -/
structure St where
  s : Scr
  part : Int
  last : Bool
def st0 : St := ⟨⟨0, [], [], []⟩, 0, false⟩

/-- One line of a word and numbers: the error, and what is read then. -/
def takeL (r : St) (w : List UInt8) (l : List Int) : Int × St :=
  if w = wT ∧ r.part = 0 ∧ l.length = 1 then
    if 1 ≤ nth l 0 ∧ nth l 0 ≤ 16 then (0, ⟨⟨nth l 0, r.s.specs, r.s.calls, r.s.picks⟩, 1, r.last⟩) else (1, r)
  else if w = wO ∧ r.part = 1 ∧ l.length = 3 then
    if 255 < nth l 0 ∨ 65535 < nth l 1 ∨ 65535 < nth l 2 then (10, r)
    else if 8 ≤ r.s.specs.length then (3, r)
    else (0, ⟨⟨r.s.n, r.s.specs ++ [⟨nth l 0, nth l 1, nth l 2⟩], r.s.calls, r.s.picks⟩, 1, r.last⟩)
  else if w = wC ∧ (r.part = 1 ∨ r.part = 2) ∧ l.length = 6 then
    if r.s.n ≤ nth l 0 ∨ 255 < nth l 1 ∨ 255 < nth l 2 then (10, r)
    else if 1000 ≤ r.s.calls.length then (3, r)
    else (0, ⟨⟨r.s.n, r.s.specs, r.s.calls ++ [⟨nth l 0, nth l 1, nth l 2, nth l 3, nth l 4, nth l 5⟩], r.s.picks⟩, 2, r.last⟩)
  else if w = wP ∧ 0 < r.part ∧ r.last = false ∧ 1 ≤ l.length ∧ l.length ≤ 16 then
    if l.any (fun x => decide (255 < x)) = true then (10, r)
    else if 65536 < r.s.picks.length + l.length then (3, r)
    else (0, ⟨⟨r.s.n, r.s.specs, r.s.calls, r.s.picks ++ l⟩, 3, decide (l.length < 16)⟩)
  else (5, r)

/-- One line. -/
def stepL (r : St) (line : List UInt8) : Int × St :=
  match words line with
  | [] => (5, r)
  | w :: ws => match numsP ws with
    | none => (5, r)
    | some l => takeL r w l

/-- Up to the first byte 10, and what stands behind it. -/
def cutL : List UInt8 → Option (List UInt8 × List UInt8)
  | [] => none
  | c :: t => if c = 10 then some ([], t) else match cutL t with
    | none => none
    | some (a, b) => some (c :: a, b)

theorem cutL_lt : ∀ {l a b : List UInt8}, cutL l = some (a, b) → b.length < l.length
  | [], _, _, h => by simp [cutL] at h
  | c :: t, a, b, h => by
    unfold cutL at h
    split at h
    · simp only [Option.some.injEq, Prod.mk.injEq] at h
      obtain ⟨-, rfl⟩ := h
      simp
    · split at h
      · cases h
      · rename_i a' b' h2
        simp only [Option.some.injEq, Prod.mk.injEq] at h
        obtain ⟨-, rfl⟩ := h
        have := cutL_lt h2
        simp; omega

/-- Lines read on: the first line that is wrong (0: none), the error, and what was read. -/
def runL : Nat → St → Int → List UInt8 → Int × Int × St
  | 0, r, k, _ => (k, 4, r)
  | f + 1, r, k, t => match cutL t with
    | none => (k, 4, r)
    | some (a, b) => if (stepL r a).1 = 0 then (if b = [] then (0, 0, (stepL r a).2) else runL f (stepL r a).2 (k + 1) b) else (k, (stepL r a).1, r)
def readP (t : List UInt8) : Int × Int × St := runL (t.length + 1) st0 1 t

/-! A number's digits and back -/
theorem numGo_cons (c : UInt8) (t : List UInt8) (x : Nat) : numGo (c :: t) x = if Tx.isD c = true ∧ x * 10 + Tx.dv c ≤ 18446744073709551615 then numGo t (x * 10 + Tx.dv c) else none := rfl
theorem numGo_app : ∀ (a b : List UInt8) (x : Nat), numGo (a ++ b) x = match numGo a x with
    | none => none
    | some y => numGo b y
  | [], b, x => rfl
  | c :: t, b, x => by
    rw [List.cons_append, numGo_cons, numGo_cons]
    split
    · exact numGo_app t b _
    · rfl
theorem numGo_one {c : UInt8} {x : Nat} : numGo [c] x = if Tx.isD c = true ∧ x * 10 + Tx.dv c ≤ 18446744073709551615 then some (x * 10 + Tx.dv c) else none := rfl

theorem numGo_digs (x : Nat) : x ≤ 18446744073709551615 → numGo (Tx.digs 20 x) 0 = some x := by
  induction x using Nat.strongRecOn with
  | _ x ih =>
    intro hx
    by_cases h : x < 10
    · rw [Tx.digs_small h, numGo_one, Tx.dv_ch h, if_pos ⟨Tx.isD_ch h, by omega⟩]
      simp
    · rw [Tx.digs_big (by omega) (Tx.big21 (by omega)), numGo_app, ih (x / 10) (by omega) (by omega)]
      show numGo [Tx.ch (x % 10)] (x / 10) = some x
      rw [numGo_one, Tx.dv_ch (by omega), if_pos ⟨Tx.isD_ch (by omega), by omega⟩]
      congr 1; omega

theorem numGo_le : ∀ (l : List UInt8) (x v : Nat), x ≤ 18446744073709551615 → numGo l x = some v → v ≤ 18446744073709551615
  | [], x, v, hx, h => by simp only [numGo, Option.some.injEq] at h; omega
  | c :: t, x, v, hx, h => by
    unfold numGo at h
    split at h
    · rename_i hc
      exact numGo_le t _ v hc.2 h
    · cases h

theorem numGo_back (n : Nat) : ∀ (l : List UInt8) (v : Nat), l.length = n → l ≠ [] → ¬ (1 < l.length ∧ l.head? = some 48) → numGo l 0 = some v → l = Tx.digs 20 v := by
  induction n with
  | zero => intro l v hl hn; exact absurd (List.length_eq_zero_iff.1 hl) hn
  | succ n ih =>
    intro l v hl hn hz h
    rcases List.eq_nil_or_concat l with rfl | ⟨a, c, rfl⟩
    · exact absurd rfl hn
    rw [List.concat_eq_append] at *
    rw [numGo_app] at h
    cases hu : numGo a 0 with
    | none => rw [hu] at h; cases h
    | some u =>
      rw [hu] at h
      have h : numGo [c] u = some v := h
      rw [numGo_one] at h
      split at h
      · rename_i hc
        simp only [Option.some.injEq] at h
        obtain ⟨e1, e2⟩ := Tx.ch_dv hc.1
        by_cases ha : a = []
        · subst ha
          simp only [numGo, Option.some.injEq] at hu
          subst hu
          rw [← h, Nat.zero_mul, Nat.zero_add, Tx.digs_small e2, e1]; rfl
        · have hl2 : a.length = n := by simp at hl; exact hl
          have hpos : 0 < a.length := List.length_pos_iff.2 ha
          have hh : a.head? ≠ some 48 := fun h48 => hz ⟨by simp; omega, by
            cases a with
            | nil => exact absurd rfl ha
            | cons y r => simpa using h48⟩
          have ea := ih a u hl2 ha (fun h => hh h.2) hu
          have hup : 0 < u := by
            rcases Nat.eq_zero_or_pos u with rfl | h
            · rw [ea] at hh; exact absurd (by decide) hh
            · exact h
          have hv : v ≤ 18446744073709551615 := by have := hc.2; omega
          rw [← h, show u * 10 + Tx.dv c = 10 * u + Tx.dv c by omega, Tx.digs_step hup e2 (Tx.big21 (by omega)), e1, ← ea]
      · cases h

theorem digs_head0 {x : Nat} (hx : x ≤ 18446744073709551615) : ¬ (1 < (Tx.digs 20 x).length ∧ (Tx.digs 20 x).head? = some 48) := by
  rcases Nat.eq_zero_or_pos x with rfl | h
  · rintro ⟨h1, -⟩
    exact absurd h1 (by decide)
  · rintro ⟨-, h2⟩
    exact Tx.digs_head_pos 20 x h (Tx.big21 (by omega)) h2

/-- Words that are numbers are the numbers' digits. -/
theorem numP_digs {x : Nat} (hx : x ≤ 18446744073709551615) : numP (Tx.digs 20 x) = some x := by
  unfold numP
  rw [if_neg, numGo_digs x hx]
  rintro (h | h)
  · exact Tx.digs_ne _ _ h
  · exact digs_head0 hx h
theorem numP_back {w : List UInt8} {v : Nat} (h : numP w = some v) : w = Tx.digs 20 v ∧ v ≤ 18446744073709551615 := by
  unfold numP at h
  split at h
  · cases h
  · rename_i hn
    rw [not_or] at hn
    exact ⟨numGo_back w.length w v rfl hn.1 hn.2 h, numGo_le w 0 v (by omega) h⟩

end Pl
end Go.Proofs.YtcfbcffmlinlaaaDoor

namespace Go.Proofs.YtcfbcffmlinlaaaDoor
namespace Pl

theorem words_none : ∀ {w : List UInt8}, (32 : UInt8) ∉ w → words w = [w]
  | [], _ => rfl
  | c :: t, h => by
    have h1 : c ≠ 32 := fun e => h (by rw [e]; exact List.mem_cons_self ..)
    have ih := words_none (w := t) (fun hm => h (List.mem_cons_of_mem _ hm))
    unfold words
    rw [if_neg h1, ih]
theorem words_app : ∀ {w : List UInt8} (t : List UInt8), (32 : UInt8) ∉ w → words (w ++ 32 :: t) = w :: words t
  | [], t, _ => by rw [List.nil_append]; rfl
  | c :: u, t, h => by
    have h1 : c ≠ 32 := fun e => h (by rw [e]; exact List.mem_cons_self ..)
    have ih := words_app (w := u) t (fun hm => h (List.mem_cons_of_mem _ hm))
    show (if c = 32 then [] :: words (u ++ 32 :: t) else match words (u ++ 32 :: t) with | [] => [[c]] | w :: r => (c :: w) :: r) = _
    rw [if_neg h1, ih]

theorem numsT_cons (x : Int) (l : List Int) : numsT (x :: l) = 32 :: (dg x ++ numsT l) := by
  unfold numsT; rw [List.flatMap_cons]; simp
theorem dg_no32 (x : Int) (h : 0 ≤ x ∧ x ≤ 18446744073709551615) (c : UInt8) (hc : c.toNat < 48) : c ∉ dg x := by
  intro hm
  have := Tx.digs_isD 20 x.toNat (Tx.big21 (by omega)) c hm
  unfold Tx.isD at this
  simp only [Bool.and_eq_true, decide_eq_true_eq] at this
  omega

def good (l : List Int) : Prop := ∀ x ∈ l, 0 ≤ x ∧ x ≤ 18446744073709551615

theorem words_line : ∀ (l : List Int) (w : List UInt8), (32 : UInt8) ∉ w → good l → words (w ++ numsT l) = w :: l.map dg
  | [], w, hw, _ => by
    show words (w ++ []) = [w]
    rw [List.append_nil]; exact words_none hw
  | x :: l, w, hw, hg => by
    rw [numsT_cons, words_app _ hw, words_line l (dg x) (dg_no32 x (hg x (List.mem_cons_self ..)) 32 (by decide)) (fun y hy => hg y (List.mem_cons_of_mem _ hy))]
    rfl

theorem numsP_dg : ∀ (l : List Int), good l → numsP (l.map dg) = some l
  | [], _ => rfl
  | x :: l, hg => by
    have h0 := hg x (List.mem_cons_self ..)
    have e : numP (dg x) = some x.toNat := numP_digs (by omega)
    rw [List.map_cons]
    unfold numsP
    rw [e, numsP_dg l (fun y hy => hg y (List.mem_cons_of_mem _ hy))]
    simp only [Option.some.injEq, List.cons.injEq, and_true]
    omega

theorem words_back : ∀ (t : List UInt8) (w : List UInt8) (ws : List (List UInt8)), words t = w :: ws → t = w ++ ws.flatMap (fun x => 32 :: x) ∧ (32 : UInt8) ∉ w
  | [], w, ws, h => by
    simp only [words, List.cons.injEq] at h
    obtain ⟨rfl, rfl⟩ := h
    simp
  | c :: t, w, ws, h => by
    have h : (if c = 32 then [] :: words t else match words t with | [] => [[c]] | w :: r => (c :: w) :: r) = w :: ws := h
    split at h
    · rename_i hc
      simp only [List.cons.injEq] at h
      obtain ⟨rfl, rfl⟩ := h
      subst hc
      cases hw : words t with
      | nil =>
        exfalso
        cases t with
        | nil => simp [words] at hw
        | cons d t =>
          have hw : (if d = 32 then [] :: words t else match words t with | [] => [[d]] | w :: r => (d :: w) :: r) = [] := hw
          split at hw
          · cases hw
          · split at hw <;> cases hw
      | cons v vs =>
        have ih := words_back t v vs hw
        refine ⟨?_, by simp⟩
        rw [List.flatMap_cons, List.nil_append, List.cons_append, ← ih.1]
    · rename_i hc
      cases hw : words t with
      | nil =>
        rw [hw] at h
        simp only [List.cons.injEq] at h
        obtain ⟨rfl, rfl⟩ := h
        exfalso
        cases t with
        | nil => simp [words] at hw
        | cons d t =>
          have hw : (if d = 32 then [] :: words t else match words t with | [] => [[d]] | w :: r => (d :: w) :: r) = [] := hw
          split at hw
          · cases hw
          · split at hw <;> cases hw
      | cons v vs =>
        rw [hw] at h
        simp only [List.cons.injEq] at h
        obtain ⟨rfl, rfl⟩ := h
        have ih := words_back t v vs hw
        refine ⟨by rw [List.cons_append, ← ih.1], fun hm => ?_⟩
        rcases List.mem_cons.1 hm with h | h
        · exact hc h.symm
        · exact ih.2 h

theorem numsP_back : ∀ (ws : List (List UInt8)) (l : List Int), numsP ws = some l → ws = l.map dg ∧ good l
  | [], l, h => by
    simp only [numsP, Option.some.injEq] at h
    subst h
    exact ⟨rfl, fun x hx => by cases hx⟩
  | w :: r, l, h => by
    unfold numsP at h
    split at h
    · cases h
    · rename_i x hx
      split at h
      · cases h
      · rename_i l' hl
        simp only [Option.some.injEq] at h
        subst h
        obtain ⟨e1, e2⟩ := numP_back hx
        obtain ⟨i1, i2⟩ := numsP_back r l' hl
        refine ⟨by rw [List.map_cons, ← i1, e1]; rfl, fun y hy => ?_⟩
        rcases List.mem_cons.1 hy with rfl | hy
        · omega
        · exact i2 y hy

theorem flat_dg (l : List Int) : (l.map dg).flatMap (fun x => 32 :: x) = numsT l := by
  unfold numsT; rw [List.flatMap_map]

theorem stepL_line (r : St) (w : List UInt8) (l : List Int) (hw : (32 : UInt8) ∉ w) (hg : good l) : stepL r (w ++ numsT l) = takeL r w l := by
  unfold stepL
  rw [words_line l w hw hg]
  simp only [numsP_dg l hg]
theorem stepL_back {r r' : St} {t : List UInt8} (h : stepL r t = (0, r')) : ∃ (w : List UInt8) (l : List Int), t = w ++ numsT l ∧ (32 : UInt8) ∉ w ∧ good l ∧ takeL r w l = (0, r') := by
  unfold stepL at h
  split at h
  · simp at h
  · rename_i w ws hw
    split at h
    · simp at h
    · rename_i l hl
      obtain ⟨e1, e2⟩ := words_back t w ws hw
      obtain ⟨i1, i2⟩ := numsP_back ws l hl
      exact ⟨w, l, by rw [e1, i1, flat_dg], e2, i2, h⟩

theorem cutL_app : ∀ (a b : List UInt8), (10 : UInt8) ∉ a → cutL (a ++ 10 :: b) = some (a, b)
  | [], b, _ => rfl
  | c :: a, b, h => by
    have h1 : c ≠ 10 := fun e => h (by rw [e]; exact List.mem_cons_self ..)
    show (if c = 10 then some ([], a ++ 10 :: b) else match cutL (a ++ 10 :: b) with | none => none | some (x, y) => some (c :: x, y)) = _
    rw [if_neg h1, cutL_app a b (fun hm => h (List.mem_cons_of_mem _ hm))]
theorem cutL_back : ∀ (t a b : List UInt8), cutL t = some (a, b) → t = a ++ 10 :: b ∧ (10 : UInt8) ∉ a
  | [], a, b, h => by simp [cutL] at h
  | c :: t, a, b, h => by
    have h : (if c = 10 then some ([], t) else match cutL t with | none => none | some (x, y) => some (c :: x, y)) = some (a, b) := h
    split at h
    · rename_i hc
      simp only [Option.some.injEq, Prod.mk.injEq] at h
      obtain ⟨rfl, rfl⟩ := h
      subst hc
      exact ⟨rfl, by simp⟩
    · rename_i hc
      cases hx : cutL t with
      | none => rw [hx] at h; cases h
      | some p =>
        obtain ⟨x, y⟩ := p
        rw [hx] at h
        simp only [Option.some.injEq, Prod.mk.injEq] at h
        obtain ⟨rfl, rfl⟩ := h
        obtain ⟨e1, e2⟩ := cutL_back t x y hx
        refine ⟨by rw [List.cons_append, ← e1], fun hm => ?_⟩
        rcases List.mem_cons.1 hm with h | h
        · exact hc h.symm
        · exact e2 h
theorem cutL_none : ∀ (t : List UInt8), cutL t = none → (10 : UInt8) ∉ t
  | [], _ => by simp
  | c :: t, h => by
    have h : (if c = 10 then some ([], t) else match cutL t with | none => none | some (x, y) => some (c :: x, y)) = none := h
    split at h
    · cases h
    · rename_i hc
      cases hx : cutL t with
      | none =>
        intro hm
        rcases List.mem_cons.1 hm with h | h
        · exact hc h.symm
        · exact cutL_none t hx h
      | some p => rw [hx] at h; cases h

end Pl
end Go.Proofs.YtcfbcffmlinlaaaDoor
