/-
  Sorting what is told apart by its number where keys are alike: plain lists, no program in sight.
-/
import Derived.Test.YthkfplkajlanoaaLists
namespace Go.Proofs.Ythkfplkajlanoaa
namespace Srt

/-- How things stand to one another: a number below, at or above nought, as Go's cmp tells it. -/
structure Cmp (cf : Int → Int → Int) : Prop where
  anti : ∀ x y, cf y x = - cf x y
  le : ∀ x y z, cf x y ≤ 0 → cf y z ≤ 0 → cf x z ≤ 0

/-- x stands ahead of y: by the key, or by the number where keys are alike. -/
def Lt (cf : Int → Int → Int) (x y : Int) : Prop := cf x y < 0 ∨ (cf x y = 0 ∧ x < y)

theorem Lt.yes {cf : Int → Int → Int} {x y : Int} (h : cf y x < 0) : Lt cf y x := .inl h

section
variable {cf : Int → Int → Int} (C : Cmp cf)
include C

theorem Cmp.self (x : Int) : cf x x = 0 := by have := C.anti x x; omega
theorem Cmp.lt_le {x y z : Int} (h : cf x y < 0) (k : cf y z ≤ 0) : cf x z < 0 := by
  have h1 := C.le x y z (by omega) k
  rcases Int.lt_or_eq_of_le h1 with h2 | h2
  · exact h2
  · have h3 := C.anti x z
    have h4 := C.le y z x k (by omega)
    have h5 := C.anti x y
    omega
theorem Cmp.le_lt {x y z : Int} (h : cf x y ≤ 0) (k : cf y z < 0) : cf x z < 0 := by
  have h1 := C.le x y z h (by omega)
  rcases Int.lt_or_eq_of_le h1 with h2 | h2
  · exact h2
  · have h3 := C.anti x z
    have h4 := C.le z x y (by omega) h
    have h5 := C.anti y z
    omega
theorem Cmp.irr (x : Int) : ¬ Lt cf x x := by
  have := C.self x
  rintro (h | ⟨_, h⟩) <;> omega
theorem Cmp.trans {x y z : Int} (h : Lt cf x y) (k : Lt cf y z) : Lt cf x z := by
  rcases h with h | ⟨h, h'⟩
  · rcases k with k | ⟨k, k'⟩
    · exact .inl (C.lt_le h (by omega))
    · exact .inl (C.lt_le h (by omega))
  · rcases k with k | ⟨k, k'⟩
    · exact .inl (C.le_lt (by omega) k)
    · have h1 := C.le x y z (by omega) (by omega)
      have h2 := C.anti x z
      have h3 := C.anti x y
      have h4 := C.anti y z
      have h5 := C.le z y x (by omega) (by omega)
      exact .inr ⟨by omega, by omega⟩
theorem Cmp.asymm {x y : Int} (h : Lt cf x y) : ¬ Lt cf y x := fun k => C.irr x (C.trans h k)
theorem Cmp.no {x y : Int} (hn : x < y) (h : ¬ cf y x < 0) : Lt cf x y := by
  have := C.anti x y
  by_cases h2 : cf x y < 0
  · exact .inl h2
  · exact .inr ⟨by omega, hn⟩
end

/-- In order. -/
def Sorted (cf : Int → Int → Int) (l : List Int) : Prop := l.Pairwise (Lt cf)

/-- All numbers of the one are below all of the other. -/
def Before (a b : List Int) : Prop := ∀ x ∈ a, ∀ y ∈ b, x < y

theorem Before.perm {a a' b b' : List Int} (h : Before a b) (pa : a'.Perm a) (pb : b'.Perm b) : Before a' b' :=
  fun x hx y hy => h x (pa.mem_iff.1 hx) y (pb.mem_iff.1 hy)

section
variable {cf : Int → Int → Int} (C : Cmp cf)

theorem Sorted.app {a b : List Int} : Sorted cf (a ++ b) ↔ Sorted cf a ∧ Sorted cf b ∧ ∀ x ∈ a, ∀ y ∈ b, Lt cf x y := List.pairwise_append

theorem Sorted.perm_pos {o ids : List Int} (hs : Sorted cf o) (C : Cmp cf) (hp : o.Perm ids) (p : Int → Int → Bool) (hpp : ∀ x y, p x y = true ↔ Lt cf x y) {i : Int} (hi : i ∈ ids) :
    ids.countP (fun k => p k i) < o.length ∧ nth o (ids.countP (fun k => p k i)) = i := by
  obtain ⟨o1, o2, rfl⟩ := List.append_of_mem (hp.mem_iff.2 hi)
  have h1 := Sorted.app.1 hs
  have h2 := List.pairwise_cons.1 h1.2.1
  have hc : ids.countP (fun k => p k i) = o1.length := by
    rw [← hp.countP_eq, List.countP_append, List.countP_cons]
    have a1 : o1.countP (fun k => p k i) = o1.length := List.countP_eq_length.2 (fun x hx => (hpp x i).2 (h1.2.2 x hx i (List.mem_cons_self ..)))
    have a2 : o2.countP (fun k => p k i) = 0 := List.countP_eq_zero.2 (fun x hx h => C.asymm (h2.1 x hx) ((hpp x i).1 h))
    have a3 : p i i = false := by
      cases h : p i i
      · rfl
      · exact absurd ((hpp i i).1 h) (C.irr i)
    rw [a1, a2, a3]; simp
  rw [hc]
  exact ⟨by simp, nth_append_at o1 o2 i⟩

/-- What is put between what stands ahead of it and what it stands ahead of. -/
theorem Sorted.mid {a b : List Int} {x : Int} (C : Cmp cf) (ha : Sorted cf (a ++ b)) (h1 : ∀ y ∈ a, Lt cf y x) (h2 : ∀ y ∈ b, Lt cf x y) : Sorted cf (a ++ x :: b) := by
  have h := Sorted.app.1 ha
  refine Sorted.app.2 ⟨h.1, List.pairwise_cons.2 ⟨h2, h.2.1⟩, fun y hy z hz => ?_⟩
  rcases List.mem_cons.1 hz with rfl | hz
  · exact h1 y hy
  · exact h.2.2 y hy z hz

/-- Of what is in order: all stand ahead of x if the last one does. -/
theorem Sorted.all_last {a : List Int} {l x : Int} (C : Cmp cf) (h : Sorted cf (a ++ [l])) (hl : Lt cf l x) : ∀ y ∈ a ++ [l], Lt cf y x := by
  intro y hy
  rcases List.mem_append.1 hy with hy | hy
  · exact C.trans ((Sorted.app.1 h).2.2 y hy l (by simp)) hl
  · rw [List.mem_singleton.1 hy]; exact hl
theorem Sorted.all_first {b : List Int} {f x : Int} (C : Cmp cf) (h : Sorted cf (f :: b)) (hl : Lt cf x f) : ∀ y ∈ f :: b, Lt cf x y := by
  intro y hy
  rcases List.mem_cons.1 hy with rfl | hy
  · exact hl
  · exact C.trans hl ((List.pairwise_cons.1 h).1 y hy)

/-- The two halves of a symmetric merge: what stands in the first one stands ahead of what stands in the other one. -/
theorem halves {a1 a2 b1 b2 : List Int} (C : Cmp cf) (ha : Sorted cf (a1 ++ a2)) (hb : Sorted cf (b1 ++ b2))
    (h1 : a1 = [] ∨ b2 = [] ∨ ∃ p x y q, a1 = p ++ [x] ∧ b2 = y :: q ∧ Lt cf x y)
    (h2 : a2 = [] ∨ b1 = [] ∨ ∃ p x y q, b1 = p ++ [x] ∧ a2 = y :: q ∧ Lt cf x y) :
    ∀ x ∈ a1 ++ b1, ∀ y ∈ a2 ++ b2, Lt cf x y := by
  have A := Sorted.app.1 ha
  have B := Sorted.app.1 hb
  have k1 : ∀ x ∈ a1, ∀ y ∈ b2, Lt cf x y := by
    rcases h1 with rfl | rfl | ⟨p, x, y, q, rfl, rfl, h⟩
    · simp
    · simp
    · intro u hu v hv
      exact Sorted.all_first C B.2.1 (Sorted.all_last C A.1 h u hu) v hv
  have k2 : ∀ x ∈ b1, ∀ y ∈ a2, Lt cf x y := by
    rcases h2 with rfl | rfl | ⟨p, x, y, q, rfl, rfl, h⟩
    · simp
    · simp
    · intro u hu v hv
      exact Sorted.all_first C A.2.1 (Sorted.all_last C B.1 h u hu) v hv
  intro x hx y hy
  rcases List.mem_append.1 hx with hx | hx <;> rcases List.mem_append.1 hy with hy | hy
  · exact A.2.2 x hx y hy
  · exact k1 x hx y hy
  · exact k2 x hx y hy
  · exact B.2.2 x hx y hy
end

/-! Pieces of a list -/

/-- From the i-th to the one ahead of the j-th. -/
def seg (d : List Int) (i j : Nat) : List Int := (d.drop i).take (j - i)

theorem seg_len (d : List Int) (i j : Nat) (h : j ≤ d.length) : (seg d i j).length = j - i := by
  unfold seg; rw [List.length_take, List.length_drop]; omega
theorem seg_app (d : List Int) {i m j : Nat} (h1 : i ≤ m) (h2 : m ≤ j) : seg d i m ++ seg d m j = seg d i j := by
  unfold seg
  rw [show j - i = (m - i) + (j - m) by omega, List.take_add, List.drop_drop, show i + (m - i) = m by omega]
theorem seg_all (d : List Int) (j : Nat) (h : d.length ≤ j) : seg d 0 j = d := by
  unfold seg; rw [List.drop_zero, List.take_of_length_le (by omega)]
theorem seg_parts (d : List Int) {i j : Nat} (h : i ≤ j) : d = d.take i ++ (seg d i j ++ d.drop j) := by
  unfold seg
  rw [show d.drop j = (d.drop i).drop (j - i) by rw [List.drop_drop, show i + (j - i) = j by omega], List.take_append_drop, List.take_append_drop]
theorem seg_over (d : List Int) (i j : Nat) (h : d.length ≤ j) : seg d i j = d.drop i := by
  unfold seg; rw [List.take_of_length_le (by rw [List.length_drop]; omega)]

/-- A list one piece of which is another one of the same length. -/
def put (d : List Int) (i j : Nat) (m : List Int) : List Int := d.take i ++ (m ++ d.drop j)

theorem put_len {d m : List Int} {i j : Nat} (h1 : i ≤ j) (h2 : j ≤ d.length) (hm : m.length = j - i) : (put d i j m).length = d.length := by
  unfold put; simp only [List.length_append, List.length_take, List.length_drop]; omega
theorem put_seg {d m : List Int} {i j : Nat} (h1 : i ≤ j) (h2 : j ≤ d.length) (hm : m.length = j - i) : seg (put d i j m) i j = m := by
  unfold put seg
  have e : (d.take i).length = i := by rw [List.length_take]; omega
  rw [List.drop_append_of_le_length (by omega), List.drop_of_length_le (by omega), List.nil_append, ← hm, List.take_left]
theorem put_ahead {d m : List Int} {i j : Nat} (h1 : i ≤ j) (h2 : j ≤ d.length) {x y : Nat} (h : y ≤ i) : seg (put d i j m) x y = seg d x y := by
  unfold put seg
  have e : (d.take i).length = i := by rw [List.length_take]; omega
  by_cases hx : x ≤ y
  · rw [List.drop_append_of_le_length (by omega), List.take_append_of_le_length (by rw [List.length_drop]; omega)]
    rw [List.drop_take, List.take_take, Nat.min_eq_left (by omega)]
  · rw [show y - x = 0 by omega]; simp
theorem put_behind {d m : List Int} {i j : Nat} (h1 : i ≤ j) (h2 : j ≤ d.length) (hm : m.length = j - i) {x y : Nat} (h : j ≤ x) : seg (put d i j m) x y = seg d x y := by
  unfold put seg
  congr 1
  rw [← List.append_assoc, List.drop_append, List.drop_of_length_le (by simp only [List.length_append, List.length_take]; omega), List.nil_append, List.drop_drop]
  congr 1
  simp only [List.length_append, List.length_take]; omega

/-- A piece is in order, and has what the same piece of the beginning had. -/
def Ok (cf : Int → Int → Int) (ids d : List Int) (i j : Nat) : Prop := Sorted cf (seg d i j) ∧ (seg d i j).Perm (seg ids i j)

theorem Ok.put {cf : Int → Int → Int} {ids d m : List Int} {i j : Nat} (h1 : i ≤ j) (h2 : j ≤ d.length) (hs : Sorted cf m) (hp : m.Perm (seg ids i j)) (hl : ids.length = d.length) : Ok cf ids (put d i j m) i j := by
  have hm : m.length = j - i := by rw [hp.length_eq, seg_len _ _ _ (by omega)]
  unfold Ok; rw [put_seg h1 h2 hm]; exact ⟨hs, hp⟩
theorem Ok.ahead {cf : Int → Int → Int} {ids d m : List Int} {i j x y : Nat} (h : Ok cf ids d x y) (h1 : i ≤ j) (h2 : j ≤ d.length) (hy : y ≤ i) : Ok cf ids (Srt.put d i j m) x y := by
  unfold Ok; rw [put_ahead h1 h2 hy]; exact h
theorem Ok.behind {cf : Int → Int → Int} {ids d m : List Int} {i j x y : Nat} (h : Ok cf ids d x y) (h1 : i ≤ j) (h2 : j ≤ d.length) (hm : m.length = j - i) (hx : j ≤ x) : Ok cf ids (Srt.put d i j m) x y := by
  unfold Ok; rw [put_behind h1 h2 hm hx]; exact h
theorem Ok.at_end {cf : Int → Int → Int} {ids d : List Int} {x y : Nat} (hd : ids.length = d.length) (h : d.length ≤ x) : Ok cf ids d x y := by
  unfold Ok seg; rw [List.drop_of_length_le h, List.drop_of_length_le (by omega)]; simp [Sorted]
theorem Ok.cut {cf : Int → Int → Int} {ids d : List Int} {x y z : Nat} (hd : ids.length = d.length) (h : Ok cf ids d x y) (hy : d.length ≤ y) (hz : d.length ≤ z) : Ok cf ids d x z := by
  unfold Ok at *; rw [seg_over d x y hy, seg_over ids x y (by omega)] at h; rw [seg_over d x z hz, seg_over ids x z (by omega)]; exact h

/-- The numbers 0 .. n - 1. -/
def ids (n : Nat) : List Int := (List.range n).map (fun i : Nat => (i : Int))
theorem ids_len (n : Nat) : (ids n).length = n := by simp [ids]
theorem ids_nth (n i : Nat) (h : i < n) : nth (ids n) i = i := by simp [ids, nth, List.getElem?_range h]
theorem ids_mem {n : Nat} {x : Int} : x ∈ ids n ↔ 0 ≤ x ∧ x < n := by
  unfold ids
  rw [List.mem_map]
  constructor
  · rintro ⟨i, hi, rfl⟩
    have := List.mem_range.1 hi
    omega
  · intro ⟨h0, h1⟩
    exact ⟨x.toNat, List.mem_range.2 (by omega), by omega⟩
theorem ids_seg_mem {n i j : Nat} {x : Int} (h : x ∈ seg (ids n) i j) : (i : Int) ≤ x ∧ x < j ∧ x < n := by
  obtain ⟨k, hk, rfl⟩ := List.getElem_of_mem h
  have hk' := hk
  unfold seg at hk'
  rw [List.length_take, List.length_drop, ids_len] at hk'
  simp only [seg, ids, List.getElem_take, List.getElem_drop, List.getElem_map, List.getElem_range]
  omega
theorem ids_before (n : Nat) {i m j : Nat} : Before (seg (ids n) i m) (seg (ids n) m j) := by
  intro x hx y hy
  have h1 := ids_seg_mem hx
  have h2 := ids_seg_mem hy
  omega

/-- Two pieces merged are one. -/
theorem Ok.merge {cf : Int → Int → Int} {n : Nat} {d m : List Int} {i k j : Nat} (hd : d.length = n) (h1 : i ≤ k) (h2 : k ≤ j) (h3 : j ≤ n) (ha : Ok cf (ids n) d i k) (hb : Ok cf (ids n) d k j) (hs : Sorted cf m) (hp : m.Perm (seg d i k ++ seg d k j)) :
    Ok cf (ids n) (Srt.put d i j m) i j := by
  refine Ok.put (by omega) (by omega) hs (hp.trans ?_) (by rw [ids_len, hd])
  rw [← seg_app (ids n) h1 h2]
  exact ha.2.append hb.2

end Srt
end Go.Proofs.Ythkfplkajlanoaa
