/-
  slices.stableCmpFunc, walked.
-/
import Derived.Test.YthkfplkajlanoaaWStab
import Derived.Deep.CutBlock
import Derived.Deep.DeepCutAuto
namespace Go.Proofs.Ythkfplkajlanoaa
open Go.RowKit
open Srt (Sorted Lt Before)

theorem vi {k : IntKind} {a b : Int} (h : a = b) : Value.int k a = Value.int k b := by rw [h]

/-- The first pieces are in order, the rest is as it was. -/
structure Part1 (cf : Int → Int → Int) (n t : Nat) (d : List Int) : Prop where
  len : d.length = n
  ok : ∀ u, u < t → Srt.Ok cf (Srt.ids n) d (u * 20) (u * 20 + 20)
  rest : d.drop (t * 20) = (Srt.ids n).drop (t * 20)

theorem Part1.step {cf : Int → Int → Int} {n t : Nat} {d m : List Int} (h : Part1 cf n t d) (hb : t * 20 + 20 ≤ n) (hm : m.length = t * 20 + 20 - t * 20) (hk : Srt.Ok cf (Srt.ids n) (Srt.put d (t * 20) (t * 20 + 20) m) (t * 20) (t * 20 + 20)) :
    Part1 cf n (t + 1) (Srt.put d (t * 20) (t * 20 + 20) m) := by
  have hl := h.len
  refine ⟨(Srt.put_len (by omega) (by omega) hm).trans hl, fun u hu => ?_, ?_⟩
  · by_cases e : u = t
    · subst e; exact hk
    · exact (h.ok u (by omega)).ahead (by omega) (by omega) (by omega)
  · have e1 : (Srt.put d (t * 20) (t * 20 + 20) m).drop ((t + 1) * 20) = d.drop ((t + 1) * 20) := by
      have := Srt.put_behind (d := d) (m := m) (i := t * 20) (j := t * 20 + 20) (by omega) (by omega) hm (x := (t + 1) * 20) (y := n) (by omega)
      rw [Srt.seg_over _ _ _ (by rw [Srt.put_len (by omega) (by omega) hm]; omega), Srt.seg_over _ _ _ (by omega)] at this
      exact this
    rw [e1]
    have h2 := congrArg (List.drop 20) h.rest
    rw [List.drop_drop, List.drop_drop, show t * 20 + 20 = (t + 1) * 20 by omega] at h2
    exact h2

theorem Part1.last {cf : Int → Int → Int} {n t : Nat} {d m : List Int} (h : Part1 cf n t d) (ht : t * 20 ≤ n) (hb : n < t * 20 + 20) (hm : m.length = n - t * 20) (hk : Srt.Ok cf (Srt.ids n) (Srt.put d (t * 20) n m) (t * 20) n) :
    (Srt.put d (t * 20) n m).length = n ∧ Runs cf n 20 0 (Srt.put d (t * 20) n m) := by
  have hl := h.len
  have hl2 : (Srt.put d (t * 20) n m).length = n := (Srt.put_len ht (by omega) hm).trans hl
  refine ⟨hl2, fun u _ => ?_⟩
  rcases Nat.lt_trichotomy u t with hu | hu | hu
  · exact (h.ok u hu).ahead (by omega) (by omega) (by omega)
  · subst hu; exact Srt.Ok.cut (by rw [Srt.ids_len, hl2]) hk (by omega) (by omega)
  · exact Srt.Ok.at_end (by rw [Srt.ids_len, hl2]) (by omega)

/-- The first pieces are merged in pairs, the rest waits. -/
structure Part2 (cf : Int → Int → Int) (n bs t a : Nat) (d : List Int) : Prop where
  ha : a = t * (2 * bs)
  len : d.length = n
  ok : ∀ u, u < t → Srt.Ok cf (Srt.ids n) d (u * (2 * bs)) (u * (2 * bs) + 2 * bs)
  rest : ∀ u, 2 * t ≤ u → Srt.Ok cf (Srt.ids n) d (u * bs) (u * bs + bs)

theorem Part2.zero {cf : Int → Int → Int} {n bs : Nat} {d : List Int} (hl : d.length = n) (h : Runs cf n bs 0 d) : Part2 cf n bs 0 0 d :=
  ⟨by simp, hl, fun u hu => by omega, fun u _ => h u (Nat.zero_le _)⟩
theorem Part2.left {cf : Int → Int → Int} {n bs t a : Nat} {d : List Int} (h : Part2 cf n bs t a d) : Srt.Ok cf (Srt.ids n) d a (a + bs) := by
  have := h.rest (2 * t) (Nat.le_refl _)
  rwa [show 2 * t * bs = a by rw [h.ha]; rw [Nat.mul_comm 2 t, Nat.mul_assoc]] at this
theorem Part2.right {cf : Int → Int → Int} {n bs t a : Nat} {d : List Int} (h : Part2 cf n bs t a d) : Srt.Ok cf (Srt.ids n) d (a + bs) (a + bs + bs) := by
  have := h.rest (2 * t + 1) (by omega)
  rwa [show (2 * t + 1) * bs = a + bs by rw [h.ha, Nat.add_mul, Nat.one_mul, Nat.mul_comm 2 t, Nat.mul_assoc]] at this
theorem mul_step {u t b : Nat} (h : u < t) : u * b + b ≤ t * b := by
  have := Nat.mul_le_mul_right b (show u + 1 ≤ t from h)
  rwa [Nat.add_mul, Nat.one_mul] at this
theorem Part2.step {cf : Int → Int → Int} {n bs t a : Nat} {d m : List Int} (h : Part2 cf n bs t a d) (hb : a + 2 * bs ≤ n) (hm : m.length = a + 2 * bs - a) (hk : Srt.Ok cf (Srt.ids n) (Srt.put d a (a + 2 * bs) m) a (a + 2 * bs)) :
    Part2 cf n bs (t + 1) (a + 2 * bs) (Srt.put d a (a + 2 * bs) m) := by
  have hl := h.len
  have ha := h.ha
  refine ⟨by rw [ha, Nat.add_mul, Nat.one_mul], (Srt.put_len (by omega) (by omega) hm).trans hl, fun u hu => ?_, fun u hu => ?_⟩
  · by_cases e : u = t
    · subst e; rw [← ha]; exact hk
    · have := mul_step (b := 2 * bs) (show u < t by omega)
      exact (h.ok u (by omega)).ahead (by omega) (by omega) (by omega)
  · have h1 : a + 2 * bs ≤ u * bs := by
      have := Nat.mul_le_mul_right bs hu
      rw [show 2 * (t + 1) * bs = a + 2 * bs by rw [ha, Nat.mul_comm 2 (t + 1), Nat.mul_assoc, Nat.add_mul, Nat.one_mul]] at this
      exact this
    exact (h.rest u (by omega)).behind (by omega) (by omega) hm h1
/-- Nothing is left to be merged with the last piece. -/
theorem Part2.done {cf : Int → Int → Int} {n bs t a : Nat} {d : List Int} (h : Part2 cf n bs t a d) (hb : n < a + 2 * bs) (hm : n ≤ a + bs) : Runs cf n (2 * bs) 0 d := by
  have hl := h.len
  have ha := h.ha
  have hd : (Srt.ids n).length = d.length := by rw [Srt.ids_len, hl]
  intro u _
  rcases Nat.lt_trichotomy u t with hu | hu | hu
  · exact h.ok u hu
  · subst hu; rw [← ha]; exact h.left.cut hd (by omega) (by omega)
  · have := mul_step (b := 2 * bs) hu
    exact Srt.Ok.at_end hd (by omega)
theorem Part2.last {cf : Int → Int → Int} {n bs t a : Nat} {d m : List Int} (h : Part2 cf n bs t a d) (hb : n < a + 2 * bs) (ha' : a ≤ n) (hm : m.length = n - a) (hk : Srt.Ok cf (Srt.ids n) (Srt.put d a n m) a n) :
    (Srt.put d a n m).length = n ∧ Runs cf n (2 * bs) 0 (Srt.put d a n m) := by
  have hl := h.len
  have ha := h.ha
  have hl2 : (Srt.put d a n m).length = n := (Srt.put_len ha' (by omega) hm).trans hl
  have hd : (Srt.ids n).length = (Srt.put d a n m).length := by rw [Srt.ids_len, hl2]
  refine ⟨hl2, fun u _ => ?_⟩
  rcases Nat.lt_trichotomy u t with hu | hu | hu
  · have := mul_step (b := 2 * bs) hu
    exact (h.ok u hu).ahead (by omega) (by omega) (by omega)
  · subst hu; rw [← ha]; exact hk.cut hd (by omega) (by omega)
  · have := mul_step (b := 2 * bs) hu
    exact Srt.Ok.at_end hd (by omega)
theorem Part2.right_cut {cf : Int → Int → Int} {n bs t a : Nat} {d : List Int} (h : Part2 cf n bs t a d) (hb : n < a + 2 * bs) : Srt.Ok cf (Srt.ids n) d (a + bs) n :=
  h.right.cut (by rw [Srt.ids_len, h.len]) (by have := h.len; omega) (by have := h.len; omega)

theorem Runs.all {cf : Int → Int → Int} {n bs : Nat} {d : List Int} (hl : d.length = n) (h : Runs cf n bs 0 d) (hb : n ≤ bs) : Sorted cf d ∧ d.Perm (Srt.ids n) := by
  have := h 0 (Nat.zero_le _)
  rw [Nat.zero_mul, Nat.zero_add] at this
  unfold Srt.Ok at this
  rwa [Srt.seg_all d bs (by omega), Srt.seg_all (Srt.ids n) bs (by rw [Srt.ids_len]; exact hb)] at this

end Go.Proofs.Ythkfplkajlanoaa
