/-
  Regions: the plain law, no program in sight.
-/
import Derived.Test.YtiicflmkhchmlaaLists
namespace Go.Proofs.Ytiicflmkhchmlaa

def sum : List Int → Int
  | [] => 0
  | n :: r => n + sum r

theorem sum_append (a b : List Int) : sum (a ++ b) = sum a + sum b := by
  induction a with
  | nil => simp [sum]
  | cons n r ih => simp [sum, ih]; omega

def wrong : List Int → Int → Int
  | [], _ => 0
  | n :: r, e => if n < 0 then 1 else if 65536 - e < n then 3 else wrong r (e + n)

def begins : List Int → Int → List Int
  | [], _ => []
  | n :: r, e => e :: begins r (e + n)

theorem begins_length (l : List Int) : ∀ e, (begins l e).length = l.length := by
  induction l with
  | nil => intro e; rfl
  | cons n r ih => intro e; simp [begins, ih]

theorem begins_append (a b : List Int) : ∀ e, begins (a ++ b) e = begins a e ++ begins b (e + sum a) := by
  induction a with
  | nil => intro e; simp [begins, sum]
  | cons n r ih => intro e; simp [begins, sum, ih]; congr 1; omega

theorem begins_getD (l : List Int) (k : Nat) (h : k < l.length) : nth (begins l 0) k = sum (l.take k) := by
  have e : l = l.take k ++ l.drop k := (List.take_append_drop k l).symm
  have hb : begins l 0 = begins (l.take k) 0 ++ begins (l.drop k) (0 + sum (l.take k)) := by
    conv => lhs; rw [e]
    exact begins_append _ _ _
  rw [hb, drop_cons l k h]
  have hl : (begins (l.take k) 0).length = k := by rw [begins_length, List.length_take]; omega
  simp [begins, nth, hl]

/-- What may be laid: each beginning lies between 0 and 65536, each size is not below 0. -/
theorem right_bounds (l : List Int) : ∀ e, 0 ≤ e → e ≤ 65536 → wrong l e = 0 → ∀ k, k ≤ l.length → 0 ≤ e + sum (l.take k) ∧ e + sum (l.take k) ≤ 65536 := by
  induction l with
  | nil => intro e h0 h1 _ k _; simp [sum]; omega
  | cons n r ih =>
    intro e h0 h1 hw k hk
    simp only [wrong] at hw
    by_cases hn : n < 0
    · rw [if_pos hn] at hw; omega
    · rw [if_neg hn] at hw
      by_cases h2 : 65536 - e < n
      · rw [if_pos h2] at hw; omega
      · rw [if_neg h2] at hw
        cases k with
        | zero => simp [sum]; omega
        | succ k =>
          have := ih (e + n) (by omega) (by omega) hw k (by simpa using hk)
          simp [sum]; omega

theorem wrong_drop (l : List Int) (k : Nat) (h : k < l.length) (e : Int) :
    wrong (l.drop k) e = if nth l k < 0 then 1 else if 65536 - e < nth l k then 3 else wrong (l.drop (k + 1)) (e + nth l k) := by
  rw [drop_cons l k h]; rfl

theorem sum_take_succ (l : List Int) (k : Nat) (h : k < l.length) : sum (l.take (k + 1)) = sum (l.take k) + nth l k := by
  rw [take_snoc l k h, sum_append]; simp [sum]

theorem right_pos (l : List Int) : ∀ e, wrong l e = 0 → ∀ k, k < l.length → 0 ≤ nth l k := by
  induction l with
  | nil => intro e _ k hk; simp at hk
  | cons n r ih =>
    intro e hw k hk
    simp only [wrong] at hw
    by_cases hn : n < 0
    · rw [if_pos hn] at hw; omega
    · rw [if_neg hn] at hw
      by_cases h2 : 65536 - e < n
      · rw [if_pos h2] at hw; omega
      · rw [if_neg h2] at hw
        cases k with
        | zero => rw [nth_cons_zero]; omega
        | succ k => rw [nth_cons_succ]; exact ih (e + n) hw k (by simpa using hk)

/-- From the place i down: the first region that has room, and begins at or ahead of the address. -/
def findFrom (zs : List Int) (a : Int) : Nat → Int × Int
  | 0 => (0, a)
  | i + 1 => if 0 < nth zs (i + 1) ∧ sum (zs.take (i + 1)) ≤ a then (((i + 1 : Nat) : Int), a - sum (zs.take (i + 1))) else findFrom zs a i

def find (zs : List Int) (a : Int) : Int × Int × Bool :=
  if wrong zs 0 ≠ 0 ∨ a < 0 ∨ sum zs ≤ a then (0, 0, false) else ((findFrom zs a (zs.length - 1)).1, (findFrom zs a (zs.length - 1)).2, true)

def has (zs : List Int) (k : Nat) (a : Int) : Bool := decide (sum (zs.take k) ≤ a ∧ a < sum (zs.take k) + nth zs k)

theorem sum_mono (zs : List Int) (hw : wrong zs 0 = 0) (i : Nat) : ∀ j, i ≤ j → j ≤ zs.length → sum (zs.take i) ≤ sum (zs.take j) := by
  intro j hij
  induction j with
  | zero => intro _; have : i = 0 := by omega
            subst this; omega
  | succ j ih =>
    intro hj
    by_cases h : i = j + 1
    · subst h; omega
    · have := ih (by omega) (by omega)
      have p := right_pos zs 0 hw j (by omega)
      rw [sum_take_succ zs j (by omega)]; omega

theorem findFrom_has (zs : List Int) (a : Int) (hw : wrong zs 0 = 0) (k : Nat) (hk : k < zs.length) (hh : has zs k a = true) :
    ∀ i, k ≤ i → i < zs.length → findFrom zs a i = ((k : Int), a - sum (zs.take k)) := by
  simp only [has, decide_eq_true_eq] at hh
  intro i hki
  induction i with
  | zero => intro _; have : k = 0 := by omega
            subst this; simp [findFrom, sum]
  | succ i ih =>
    intro hi
    by_cases h : k = i + 1
    · subst h
      unfold findFrom
      rw [if_pos ⟨by omega, hh.1⟩]
    · have hm := sum_mono zs hw (k + 1) (i + 1) (by omega) (by omega)
      rw [sum_take_succ zs k hk] at hm
      unfold findFrom
      rw [if_neg (by omega)]
      exact ih (by omega) (by omega)

theorem find_has (zs : List Int) (a : Int) (hw : wrong zs 0 = 0) (k : Nat) (hk : k < zs.length) (hh : has zs k a = true) :
    find zs a = ((k : Int), a - sum (zs.take k), true) := by
  have hf := findFrom_has zs a hw k hk hh (zs.length - 1) (by omega) (by omega)
  simp only [has, decide_eq_true_eq] at hh
  have h0 := right_bounds zs 0 (by omega) (by omega) hw k (by omega)
  have hm := sum_mono zs hw (k + 1) zs.length (by omega) (by omega)
  rw [sum_take_succ zs k hk, List.take_length] at hm
  unfold find
  rw [if_neg (by omega), hf]

/-- How many of the first j regions have the address. -/
def cnt (zs : List Int) (a : Int) (j : Nat) : Int := if 0 ≤ a ∧ a < sum (zs.take j) then 1 else 0

theorem cnt_zero (zs : List Int) (a : Int) : cnt zs a 0 = 0 := by
  unfold cnt; rw [if_neg]; simp [sum]

theorem cnt_yes (zs : List Int) (a : Int) (hw : wrong zs 0 = 0) (j : Nat) (hj : j < zs.length) (h : has zs j a = true) : cnt zs a j = 0 ∧ cnt zs a (j + 1) = 1 := by
  simp only [has, decide_eq_true_eq] at h
  have h0 := right_bounds zs 0 (by omega) (by omega) hw j (by omega)
  have e := sum_take_succ zs j hj
  unfold cnt
  exact ⟨by rw [if_neg (by omega)], by rw [if_pos (by omega)]⟩

theorem cnt_no (zs : List Int) (a : Int) (hw : wrong zs 0 = 0) (j : Nat) (hj : j < zs.length) (h : has zs j a = false) : cnt zs a (j + 1) = cnt zs a j := by
  simp only [has, decide_eq_false_iff_not] at h
  have p := right_pos zs 0 hw j hj
  have h0 := right_bounds zs 0 (by omega) (by omega) hw j (by omega)
  have e := sum_take_succ zs j hj
  unfold cnt
  by_cases hc : 0 ≤ a ∧ a < sum (zs.take j)
  · rw [if_pos hc, if_pos (by omega)]
  · rw [if_neg hc, if_neg (by omega)]

theorem cnt_bounds (zs : List Int) (a : Int) (j : Nat) : 0 ≤ cnt zs a j ∧ cnt zs a j ≤ 1 := by
  unfold cnt; split <;> omega

theorem cnt_last (zs : List Int) (a : Int) (hw : wrong zs 0 = 0) : (find zs a).2.2 = (cnt zs a zs.length == 1) := by
  unfold cnt find
  rw [List.take_length]
  by_cases h : 0 ≤ a ∧ a < sum zs
  · rw [if_pos h, if_neg (by omega)]; rfl
  · rw [if_neg h, if_pos (by omega)]; rfl

theorem find_not (zs : List Int) (a : Int) (h : (find zs a).2.2 = false) : find zs a = (0, 0, false) := by
  unfold find at h ⊢
  split
  · rfl
  · rename_i hn; rw [if_neg hn] at h; simp at h

end Go.Proofs.Ytiicflmkhchmlaa
