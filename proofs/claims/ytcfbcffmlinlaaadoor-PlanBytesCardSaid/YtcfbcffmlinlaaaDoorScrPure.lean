/-
  A play's script as bytes, no program in sight: what is written is read as it was, and what is read is written in the same bytes.
-/
namespace Go.Proofs.YtcfbcffmlinlaaaDoor

structure Spc where
  kind : Int
  p : Int
  q : Int
structure Cll where
  thread : Int
  obj : Int
  kind : Int
  a : Int
  b : Int
  c : Int
structure Scr where
  n : Int
  specs : List Spc
  calls : List Cll
  picks : List Int

def byteOk (x : Int) : Prop := 0 ≤ x ∧ x ≤ 255
def wordOk (x : Int) : Prop := 0 ≤ x ∧ x ≤ 65535
def u64Ok (x : Int) : Prop := 0 ≤ x ∧ x < 18446744073709551616
def Spc.ok (s : Spc) : Prop := byteOk s.kind ∧ wordOk s.p ∧ wordOk s.q
def Cll.ok (n : Int) (c : Cll) : Prop := (0 ≤ c.thread ∧ c.thread < n) ∧ byteOk c.obj ∧ byteOk c.kind
def Cll.wide (c : Cll) : Prop := u64Ok c.a ∧ u64Ok c.b ∧ u64Ok c.c
/-- A script that may be written. -/
def Scr.ok (s : Scr) : Prop := (1 ≤ s.n ∧ s.n ≤ 16) ∧ s.specs.length ≤ 8 ∧ s.calls.length ≤ 1000 ∧ s.picks.length ≤ 65536 ∧ (∀ x ∈ s.specs, x.ok) ∧ (∀ c ∈ s.calls, c.ok s.n) ∧ ∀ p ∈ s.picks, byteOk p
/-- Its numbers fit their words. -/
def Scr.wide (s : Scr) : Prop := ∀ c ∈ s.calls, c.wide

/-! ### Numbers -/

/-- a number in as few bytes as can be. -/
def numB : Nat → Int → List Int
  | 0, x => [x]
  | f + 1, x => if x ≤ 127 then [x] else (128 + x % 128) :: numB f (x / 128)

/-- the next number: its bits from 7·i on are still to come. -/
def pNum : Nat → Int → Int → List Int → Option (Int × List Int)
  | _, _, _, [] => none
  | i, w, acc, x :: r =>
    if (9 ≤ i ∧ 1 < x) ∨ (x = 0 ∧ i ≠ 0) then none
    else if x ≤ 127 then some (acc + x * w, r) else pNum (i + 1) (w * 128) (acc + x % 128 * w) r

def weight (i : Nat) : Int := (128 : Int) ^ i
theorem weight_zero : weight 0 = 1 := rfl
theorem weight_succ (i : Nat) : weight (i + 1) = weight i * 128 := Int.pow_succ 128 i
theorem weight_pos (i : Nat) : 0 < weight i := by
  induction i with
  | zero => decide
  | succ i ih => rw [weight_succ]; omega

theorem weight_nine : weight 9 = 9223372036854775808 := by decide

theorem weight_mono {i j : Nat} (h : i ≤ j) : weight i ≤ weight j := by
  induction j with
  | zero => have : i = 0 := by omega
            subst this; omega
  | succ j ih =>
    by_cases hj : i = j + 1
    · subst hj; omega
    · have := ih (by omega)
      have := weight_pos j
      rw [weight_succ]; omega

theorem pNum_numB (f : Nat) : ∀ (i : Nat) (x acc : Int) (r : List Int), 10 ≤ f + i → 0 ≤ x → x * weight i < 18446744073709551616 → (x ≠ 0 ∨ i = 0) →
    pNum i (weight i) acc (numB f x ++ r) = some (acc + x * weight i, r) := by
  induction f with
  | zero =>
    intro i x acc r hf h0 hb hz
    have h10 := weight_mono (show 10 ≤ i by omega)
    have e10 : weight 10 = 1180591620717411303424 := by decide
    have hx : x = 0 := by
      by_cases h : x = 0
      · exact h
      · have : weight i ≤ x * weight i := by
          have := Int.mul_le_mul_of_nonneg_right (show 1 ≤ x by omega) (Int.le_of_lt (weight_pos i))
          omega
        omega
    omega
  | succ f ih =>
    intro i x acc r hf h0 hb hz
    have h9 : 9 ≤ i → x ≤ 1 := by
      intro h
      have hw := weight_mono h
      rw [weight_nine] at hw
      by_cases hx : x ≤ 1
      · exact hx
      · have := Int.mul_le_mul_of_nonneg_right (show 2 ≤ x by omega) (Int.le_of_lt (weight_pos i))
        omega
    unfold numB
    by_cases hx : x ≤ 127
    · rw [if_pos hx]
      simp only [List.singleton_append, pNum]
      rw [if_neg (by omega), if_pos hx]
    · rw [if_neg hx]
      simp only [List.cons_append, pNum]
      have hm : 0 ≤ x % 128 ∧ x % 128 < 128 := ⟨Int.emod_nonneg _ (by decide), Int.emod_lt_of_pos _ (by decide)⟩
      have hd : x = 128 * (x / 128) + x % 128 := (Int.mul_ediv_add_emod x 128).symm
      have hi : ¬ 9 ≤ i := fun h => by have := h9 h; omega
      rw [if_neg (by omega), if_neg (by omega)]
      have hmm : (128 + x % 128) % 128 = x % 128 := by omega
      rw [hmm, ← weight_succ]
      have e : x * weight i = x % 128 * weight i + x / 128 * weight (i + 1) := by
        rw [weight_succ, Int.mul_comm (weight i) 128, ← Int.mul_assoc, ← Int.add_mul]
        congr 1; omega
      have hp := weight_pos i
      have hnn : 0 ≤ x % 128 * weight i := Int.mul_nonneg hm.1 (Int.le_of_lt hp)
      rw [ih (i + 1) (x / 128) (acc + x % 128 * weight i) r (by omega) (by omega) (by omega) (by omega), e]
      congr 2; omega

theorem numB_len (f : Nat) : ∀ x, 1 ≤ (numB f x).length ∧ (numB f x).length ≤ f + 1 := by
  induction f with
  | zero => intro x; simp [numB]
  | succ f ih =>
    intro x; unfold numB; split
    · simp
    · have := ih (x / 128); simp; omega

theorem numB_bytes (f : Nat) : ∀ (i : Nat) (x : Int), 10 ≤ f + i → 0 ≤ x → x * weight i < 18446744073709551616 → ∀ b ∈ numB f x, byteOk b := by
  induction f with
  | zero =>
    intro i x hf h0 hb b hm
    have h10 := weight_mono (show 10 ≤ i by omega)
    have e10 : weight 10 = 1180591620717411303424 := by decide
    have hx : x = 0 := by
      by_cases h : x = 0
      · exact h
      · have := Int.mul_le_mul_of_nonneg_right (show 1 ≤ x by omega) (Int.le_of_lt (weight_pos i))
        omega
    simp [numB] at hm; subst hm; unfold byteOk; omega
  | succ f ih =>
    intro i x hf h0 hb b hm
    unfold numB at hm
    by_cases hx : x ≤ 127
    · rw [if_pos hx] at hm; simp at hm; subst hm; unfold byteOk; omega
    · rw [if_neg hx] at hm
      have hmo : 0 ≤ x % 128 ∧ x % 128 < 128 := ⟨Int.emod_nonneg _ (by decide), Int.emod_lt_of_pos _ (by decide)⟩
      rcases List.mem_cons.1 hm with rfl | hm
      · unfold byteOk; omega
      · refine ih (i + 1) (x / 128) (by omega) (by omega) ?_ b hm
        have hd : x = 128 * (x / 128) + x % 128 := (Int.mul_ediv_add_emod x 128).symm
        have hp := weight_pos i
        have e : x * weight i = x % 128 * weight i + x / 128 * weight (i + 1) := by
          rw [weight_succ, Int.mul_comm (weight i) 128, ← Int.mul_assoc, ← Int.add_mul]
          congr 1; omega
        have hnn : 0 ≤ x % 128 * weight i := Int.mul_nonneg hmo.1 (Int.le_of_lt hp)
        omega

theorem pNum_back (l : List Int) : ∀ (i : Nat) (acc v : Int) (r : List Int), i ≤ 9 → (∀ b ∈ l, byteOk b) → pNum i (weight i) acc l = some (v, r) →
    ∃ x, l = numB (10 - i) x ++ r ∧ v = acc + x * weight i ∧ 0 ≤ x ∧ (x ≠ 0 ∨ i = 0) ∧ x * weight i + weight i ≤ 18446744073709551616 := by
  induction l with
  | nil => intro i acc v r _ _ h; simp [pNum] at h
  | cons x l ih =>
    intro i acc v r hi hb h
    have hx : byteOk x := hb x List.mem_cons_self
    unfold byteOk at hx
    simp only [pNum] at h
    by_cases hbad : (9 ≤ i ∧ 1 < x) ∨ (x = 0 ∧ i ≠ 0)
    · rw [if_pos hbad] at h; cases h
    · rw [if_neg hbad] at h
      have hf : 10 - i = (9 - i) + 1 := by omega
      by_cases hs : x ≤ 127
      · rw [if_pos hs] at h
        cases h
        refine ⟨x, ?_, rfl, hx.1, by omega, ?_⟩
        · rw [hf]; unfold numB; rw [if_pos hs]; rfl
        · by_cases h9 : i = 9
          · subst h9; rw [weight_nine]; omega
          · have h8 := weight_mono (show i ≤ 8 by omega)
            have e8 : weight 8 = 72057594037927936 := by decide
            have := Int.mul_le_mul_of_nonneg_right (show x ≤ 127 by omega) (Int.le_of_lt (weight_pos i))
            omega
      · rw [if_neg hs, ← weight_succ] at h
        have hi9 : i ≠ 9 := by omega
        obtain ⟨y, hy1, hy2, hy3, hy4, hy5⟩ := ih (i + 1) _ v r (by omega) (fun b h => hb b (List.mem_cons_of_mem _ h)) h
        have hm : 0 ≤ x % 128 ∧ x % 128 < 128 := ⟨Int.emod_nonneg _ (by decide), Int.emod_lt_of_pos _ (by decide)⟩
        have hy0 : 1 ≤ y := by omega
        refine ⟨x % 128 + 128 * y, ?_, ?_, by omega, .inl (by omega), ?_⟩
        · rw [hf]; unfold numB
          rw [if_neg (by omega)]
          have e1 : (x % 128 + 128 * y) % 128 = x % 128 := by omega
          have e2 : (x % 128 + 128 * y) / 128 = y := by omega
          have e3 : 128 + x % 128 = x := by omega
          have e4 : 9 - i = 10 - (i + 1) := by omega
          rw [e1, e2, e3, hy1, e4]; rfl
        · rw [hy2, weight_succ, Int.add_mul, Int.mul_comm (weight i) 128, ← Int.mul_assoc, Int.mul_comm y 128]; omega
        · rw [weight_succ, Int.mul_comm (weight i) 128, ← Int.mul_assoc, Int.mul_comm y 128] at hy5
          rw [Int.add_mul]
          have hp := weight_pos i
          have : x % 128 * weight i ≤ 127 * weight i := Int.mul_le_mul_of_nonneg_right (by omega) (Int.le_of_lt hp)
          omega

end Go.Proofs.YtcfbcffmlinlaaaDoor
