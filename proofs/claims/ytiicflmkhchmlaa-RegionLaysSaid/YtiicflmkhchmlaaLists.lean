/-
  Lists, no program in sight: the element at a place, as one word.
-/
namespace Go.Proofs.Ytiicflmkhchmlaa

/-- The element at a place; 0 beyond the end. -/
def nth (l : List Int) (i : Nat) : Int := l.getD i 0

theorem nth_cons_zero (x : Int) (l : List Int) : nth (x :: l) 0 = x := rfl
theorem nth_cons_succ (x : Int) (l : List Int) (i : Nat) : nth (x :: l) (i + 1) = nth l i := by simp [nth]
theorem nth_getElem (l : List Int) (i : Nat) (h : i < l.length) : l[i] = nth l i := by simp [nth, List.getElem?_eq_getElem h]
theorem getElem?_nth (l : List Int) (i : Nat) (h : i < l.length) : l[i]? = some (nth l i) := by rw [List.getElem?_eq_getElem h, nth_getElem l i h]
theorem take_snoc (l : List Int) (k : Nat) (h : k < l.length) : l.take (k + 1) = l.take k ++ [nth l k] := by
  rw [List.take_succ_eq_append_getElem h, nth_getElem]
theorem drop_cons (l : List Int) (k : Nat) (h : k < l.length) : l.drop k = nth l k :: l.drop (k + 1) := by
  rw [List.drop_eq_getElem_cons h, nth_getElem]
theorem nth_append_left (a b : List Int) (i : Nat) (h : i < a.length) : nth (a ++ b) i = nth a i := by
  simp [nth, List.getElem?_append_left h]
theorem nth_append_at (a b : List Int) (x : Int) : nth (a ++ x :: b) a.length = x := by simp [nth]
theorem nth_ext {a b : List Int} (hl : a.length = b.length) (h : ∀ i, i < a.length → nth a i = nth b i) : a = b := by
  apply List.ext_getElem hl
  intro i h1 h2
  rw [nth_getElem a i h1, nth_getElem b i h2]; exact h i h1
theorem nth_mem (l : List Int) (i : Nat) (h : i < l.length) : nth l i ∈ l := by rw [← nth_getElem l i h]; exact List.getElem_mem h

end Go.Proofs.Ytiicflmkhchmlaa
