/-
  What a merge's searches find; no program in sight.
-/
import Derived.Test.YthkfplkajlanoaaSrt
namespace Go.Proofs.Ythkfplkajlanoaa
open Srt (Sorted Lt Cmp Before)

/-- Where one is put among those in order. -/
theorem one_in {cf : Int → Int → Int} (C : Cmp cf) {B : List Int} {x : Int} (hs : Sorted cf B) (q : Nat) (hq : q ≤ B.length)
    (h1 : q = 0 ∨ Lt cf (nth B (q - 1)) x) (h2 : q = B.length ∨ Lt cf x (nth B q)) :
    Sorted cf (B.take q ++ x :: B.drop q) ∧ (B.take q ++ x :: B.drop q).Perm (x :: B) := by
  refine ⟨Srt.Sorted.mid C (by rw [List.take_append_drop]; exact hs) ?_ ?_, ?_⟩
  · rcases h1 with rfl | h1
    · simp
    · rcases Nat.eq_zero_or_pos q with rfl | hp
      · simp
      · have e : B.take q = B.take (q - 1) ++ [nth B (q - 1)] := by
          have := take_snoc B (q - 1) (by omega)
          rwa [show q - 1 + 1 = q by omega] at this
        have hs' : Sorted cf (B.take (q - 1) ++ [nth B (q - 1)]) := by rw [← e]; exact (List.pairwise_append.1 (by rw [List.take_append_drop]; exact hs : List.Pairwise (Lt cf) (B.take q ++ B.drop q))).1
        rw [e]
        exact Srt.Sorted.all_last C hs' h1
  · rcases h2 with rfl | h2
    · simp
    · by_cases hb : q = B.length
      · subst hb; simp
      · have e := drop_cons B q (by omega)
        have hs' : Sorted cf (nth B q :: B.drop (q + 1)) := by rw [← e]; exact (List.pairwise_append.1 (by rw [List.take_append_drop]; exact hs : List.Pairwise (Lt cf) (B.take q ++ B.drop q))).2.1
        rw [e]
        exact Srt.Sorted.all_first C hs' h2
  · refine List.perm_middle.trans ?_
    rw [List.take_append_drop]

/-- Both halves merged are the whole merged. -/
theorem sym_join {cf : Int → Int → Int} (C : Cmp cf) {A B X1 X2 : List Int} (ha : Sorted cf A) (hb : Sorted cf B) (i j : Nat) (hi : i ≤ A.length) (hj : j ≤ B.length)
    (h1 : i = 0 ∨ j = B.length ∨ Lt cf (nth A (i - 1)) (nth B j)) (h2 : i = A.length ∨ j = 0 ∨ Lt cf (nth B (j - 1)) (nth A i))
    (p1 : X1.Perm (A.take i ++ B.take j)) (p2 : X2.Perm (A.drop i ++ B.drop j)) (s1 : Sorted cf X1) (s2 : Sorted cf X2) :
    Sorted cf (X1 ++ X2) ∧ (X1 ++ X2).Perm (A ++ B) := by
  have ea : ∀ (L : List Int) (q : Nat), 0 < q → q ≤ L.length → L.take q = L.take (q - 1) ++ [nth L (q - 1)] := fun L q h0 h => by
    have := take_snoc L (q - 1) (by omega)
    rwa [show q - 1 + 1 = q by omega] at this
  have hv := Srt.halves C (a1 := A.take i) (a2 := A.drop i) (b1 := B.take j) (b2 := B.drop j) (by rw [List.take_append_drop]; exact ha) (by rw [List.take_append_drop]; exact hb)
    (by
      by_cases hi0 : i = 0
      · left; rw [hi0]; rfl
      · by_cases hjl : j = B.length
        · right; left; rw [hjl]; simp
        · right; right
          refine ⟨_, _, _, _, ea A i (by omega) hi, drop_cons B j (by omega), ?_⟩
          rcases h1 with h | h | h
          · exact absurd h hi0
          · exact absurd h hjl
          · exact h)
    (by
      by_cases hil : i = A.length
      · left; rw [hil]; simp
      · by_cases hj0 : j = 0
        · right; left; rw [hj0]; rfl
        · right; right
          refine ⟨_, _, _, _, ea B j (by omega) hj, drop_cons A i (by omega), ?_⟩
          rcases h2 with h | h | h
          · exact absurd h hil
          · exact absurd h hj0
          · exact h)
  refine ⟨Srt.Sorted.app.2 ⟨s1, s2, fun x hx y hy => hv x (p1.mem_iff.1 hx) y (p2.mem_iff.1 hy)⟩, ?_⟩
  refine (p1.append p2).trans ?_
  have e : (A.take i ++ B.take j ++ (A.drop i ++ B.drop j)).Perm ((A.take i ++ A.drop i) ++ (B.take j ++ B.drop j)) := by
    rw [List.append_assoc, List.append_assoc (A.take i)]
    refine List.Perm.append_left _ ?_
    rw [← List.append_assoc, ← List.append_assoc]
    exact List.Perm.append_right _ List.perm_append_comm
  rw [List.take_append_drop, List.take_append_drop] at e
  exact e

/-- A piece of one, and nothing of the other, is in order as it is. -/
theorem sorted_take {cf : Int → Int → Int} {A : List Int} (h : Sorted cf A) (i : Nat) : Sorted cf (A.take i) := List.Pairwise.sublist (List.take_sublist i A) h
theorem sorted_drop {cf : Int → Int → Int} {A : List Int} (h : Sorted cf A) (i : Nat) : Sorted cf (A.drop i) := List.Pairwise.sublist (List.drop_sublist i A) h

end Go.Proofs.Ythkfplkajlanoaa
