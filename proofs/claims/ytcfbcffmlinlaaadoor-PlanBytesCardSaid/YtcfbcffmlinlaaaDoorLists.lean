/-
  Lists, no program in sight: the element at a place, as one word.
-/
namespace Go.Proofs.YtcfbcffmlinlaaaDoor

/-- The element at a place; 0 beyond the end. -/
def nth (l : List Int) (i : Nat) : Int := l.getD i 0

theorem nth_cons_zero (x : Int) (l : List Int) : nth (x :: l) 0 = x := rfl
theorem nth_cons_succ (x : Int) (l : List Int) (i : Nat) : nth (x :: l) (i + 1) = nth l i := by simp [nth]
theorem nth_getElem (l : List Int) (i : Nat) (h : i < l.length) : l[i] = nth l i := by simp [nth, List.getElem?_eq_getElem h]
theorem getElem?_nth (l : List Int) (i : Nat) (h : i < l.length) : l[i]? = some (nth l i) := by rw [List.getElem?_eq_getElem h, nth_getElem l i h]
theorem take_snoc (l : List Int) (k : Nat) (h : k < l.length) : l.take (k + 1) = l.take k ++ [nth l k] := by
  rw [List.take_succ_eq_append_getElem h, nth_getElem]
theorem drop_cons (l : List Int) (k : Nat) (h : k < l.length) : l.drop k = nth l k :: l.drop (k + 1) := by
  rw [List.drop_eq_getElem_cons h, nth_getElem]
theorem nth_append_left (a b : List Int) (i : Nat) (h : i < a.length) : nth (a ++ b) i = nth a i := by
  simp [nth, List.getElem?_append_left h]
theorem nth_append_at (a b : List Int) (x : Int) : nth (a ++ x :: b) a.length = x := by simp [nth]
theorem nth_ext {a b : List Int} (hl : a.length = b.length) (h : ∀ i, i < a.length → nth a i = nth b i) : a = b := by
  apply List.ext_getElem hl
  intro i h1 h2
  rw [nth_getElem a i h1, nth_getElem b i h2]; exact h i h1
theorem nth_mem (l : List Int) (i : Nat) (h : i < l.length) : nth l i ∈ l := by rw [← nth_getElem l i h]; exact List.getElem_mem h

/-- The element at a place of a list of whatever make; d beyond the end. -/
def nthD {α : Type} (d : α) (l : List α) (i : Nat) : α := l.getD i d
section
variable {α : Type} (d : α)
theorem nthD_getElem (l : List α) (i : Nat) (h : i < l.length) : l[i] = nthD d l i := by simp [nthD, List.getElem?_eq_getElem h]
theorem getElem?_nthD (l : List α) (i : Nat) (h : i < l.length) : l[i]? = some (nthD d l i) := by rw [List.getElem?_eq_getElem h, nthD_getElem d l i h]
theorem takeD_snoc (l : List α) (k : Nat) (h : k < l.length) : l.take (k + 1) = l.take k ++ [nthD d l k] := by
  rw [List.take_succ_eq_append_getElem h, nthD_getElem d]
theorem dropD_cons (l : List α) (k : Nat) (h : k < l.length) : l.drop k = nthD d l k :: l.drop (k + 1) := by
  rw [List.drop_eq_getElem_cons h, nthD_getElem d]
theorem nthD_append_left (a b : List α) (i : Nat) (h : i < a.length) : nthD d (a ++ b) i = nthD d a i := by
  simp [nthD, List.getElem?_append_left h]
theorem nthD_append_right (a b : List α) (i : Nat) : nthD d (a ++ b) (a.length + i) = nthD d b i := by
  simp [nthD, List.getElem?_append_right]
theorem nthD_append_at (a b : List α) (x : α) : nthD d (a ++ x :: b) a.length = x := by simp [nthD]
theorem nthD_cons_zero (x : α) (l : List α) : nthD d (x :: l) 0 = x := rfl
theorem nthD_cons_succ (x : α) (l : List α) (i : Nat) : nthD d (x :: l) (i + 1) = nthD d l i := by simp [nthD]
theorem nthD_mem (l : List α) (i : Nat) (h : i < l.length) : nthD d l i ∈ l := by rw [← nthD_getElem d l i h]; exact List.getElem_mem h
theorem nthD_ext {a b : List α} (hl : a.length = b.length) (h : ∀ i, i < a.length → nthD d a i = nthD d b i) : a = b := by
  apply List.ext_getElem hl
  intro i h1 h2
  rw [nthD_getElem d a i h1, nthD_getElem d b i h2]; exact h i h1
end

end Go.Proofs.YtcfbcffmlinlaaaDoor
