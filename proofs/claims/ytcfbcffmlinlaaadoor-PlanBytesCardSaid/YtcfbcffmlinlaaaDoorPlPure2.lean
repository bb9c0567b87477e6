/-
  A plan's lines, and back; no program in sight.
-/
import Derived.Test.YtcfbcffmlinlaaaDoorPlPure
namespace Go.Proofs.YtcfbcffmlinlaaaDoor
namespace Pl

theorem words_none : ∀ {w : List UInt8}, (32 : UInt8) ∉ w → words w = [w]
  | [], _ => rfl
  | c :: t, h => by
    have h1 : c ≠ 32 := fun e => h (by rw [e]; exact List.mem_cons_self ..)
    have ih := words_none (w := t) (fun hm => h (List.mem_cons_of_mem _ hm))
    unfold words
    rw [if_neg h1, ih]
theorem words_app : ∀ {w : List UInt8} (t : List UInt8), (32 : UInt8) ∉ w → words (w ++ 32 :: t) = w :: words t
  | [], t, _ => by rw [List.nil_append]; rfl
  | c :: u, t, h => by
    have h1 : c ≠ 32 := fun e => h (by rw [e]; exact List.mem_cons_self ..)
    have ih := words_app (w := u) t (fun hm => h (List.mem_cons_of_mem _ hm))
    show (if c = 32 then [] :: words (u ++ 32 :: t) else match words (u ++ 32 :: t) with | [] => [[c]] | w :: r => (c :: w) :: r) = _
    rw [if_neg h1, ih]

theorem numsT_cons (x : Int) (l : List Int) : numsT (x :: l) = 32 :: (dg x ++ numsT l) := by
  unfold numsT; rw [List.flatMap_cons]; simp
theorem dg_no32 (x : Int) (h : 0 ≤ x ∧ x ≤ 18446744073709551615) (c : UInt8) (hc : c.toNat < 48) : c ∉ dg x := by
  intro hm
  have := Tx.digs_isD 20 x.toNat (Tx.big21 (by omega)) c hm
  unfold Tx.isD at this
  simp only [Bool.and_eq_true, decide_eq_true_eq] at this
  omega

def good (l : List Int) : Prop := ∀ x ∈ l, 0 ≤ x ∧ x ≤ 18446744073709551615

theorem words_line : ∀ (l : List Int) (w : List UInt8), (32 : UInt8) ∉ w → good l → words (w ++ numsT l) = w :: l.map dg
  | [], w, hw, _ => by
    show words (w ++ []) = [w]
    rw [List.append_nil]; exact words_none hw
  | x :: l, w, hw, hg => by
    rw [numsT_cons, words_app _ hw, words_line l (dg x) (dg_no32 x (hg x (List.mem_cons_self ..)) 32 (by decide)) (fun y hy => hg y (List.mem_cons_of_mem _ hy))]
    rfl

theorem numsP_dg : ∀ (l : List Int), good l → numsP (l.map dg) = some l
  | [], _ => rfl
  | x :: l, hg => by
    have h0 := hg x (List.mem_cons_self ..)
    have e : numP (dg x) = some x.toNat := numP_digs (by omega)
    rw [List.map_cons]
    unfold numsP
    rw [e, numsP_dg l (fun y hy => hg y (List.mem_cons_of_mem _ hy))]
    simp only [Option.some.injEq, List.cons.injEq, and_true]
    omega

theorem words_back : ∀ (t : List UInt8) (w : List UInt8) (ws : List (List UInt8)), words t = w :: ws → t = w ++ ws.flatMap (fun x => 32 :: x) ∧ (32 : UInt8) ∉ w
  | [], w, ws, h => by
    simp only [words, List.cons.injEq] at h
    obtain ⟨rfl, rfl⟩ := h
    simp
  | c :: t, w, ws, h => by
    have h : (if c = 32 then [] :: words t else match words t with | [] => [[c]] | w :: r => (c :: w) :: r) = w :: ws := h
    split at h
    · rename_i hc
      simp only [List.cons.injEq] at h
      obtain ⟨rfl, rfl⟩ := h
      subst hc
      cases hw : words t with
      | nil =>
        exfalso
        cases t with
        | nil => simp [words] at hw
        | cons d t =>
          have hw : (if d = 32 then [] :: words t else match words t with | [] => [[d]] | w :: r => (d :: w) :: r) = [] := hw
          split at hw
          · cases hw
          · split at hw <;> cases hw
      | cons v vs =>
        have ih := words_back t v vs hw
        refine ⟨?_, by simp⟩
        rw [List.flatMap_cons, List.nil_append, List.cons_append, ← ih.1]
    · rename_i hc
      cases hw : words t with
      | nil =>
        rw [hw] at h
        simp only [List.cons.injEq] at h
        obtain ⟨rfl, rfl⟩ := h
        exfalso
        cases t with
        | nil => simp [words] at hw
        | cons d t =>
          have hw : (if d = 32 then [] :: words t else match words t with | [] => [[d]] | w :: r => (d :: w) :: r) = [] := hw
          split at hw
          · cases hw
          · split at hw <;> cases hw
      | cons v vs =>
        rw [hw] at h
        simp only [List.cons.injEq] at h
        obtain ⟨rfl, rfl⟩ := h
        have ih := words_back t v vs hw
        refine ⟨by rw [List.cons_append, ← ih.1], fun hm => ?_⟩
        rcases List.mem_cons.1 hm with h | h
        · exact hc h.symm
        · exact ih.2 h

theorem numsP_back : ∀ (ws : List (List UInt8)) (l : List Int), numsP ws = some l → ws = l.map dg ∧ good l
  | [], l, h => by
    simp only [numsP, Option.some.injEq] at h
    subst h
    exact ⟨rfl, fun x hx => by cases hx⟩
  | w :: r, l, h => by
    unfold numsP at h
    split at h
    · cases h
    · rename_i x hx
      split at h
      · cases h
      · rename_i l' hl
        simp only [Option.some.injEq] at h
        subst h
        obtain ⟨e1, e2⟩ := numP_back hx
        obtain ⟨i1, i2⟩ := numsP_back r l' hl
        refine ⟨by rw [List.map_cons, ← i1, e1]; rfl, fun y hy => ?_⟩
        rcases List.mem_cons.1 hy with rfl | hy
        · omega
        · exact i2 y hy

theorem flat_dg (l : List Int) : (l.map dg).flatMap (fun x => 32 :: x) = numsT l := by
  unfold numsT; rw [List.flatMap_map]

theorem stepL_line (r : St) (w : List UInt8) (l : List Int) (hw : (32 : UInt8) ∉ w) (hg : good l) : stepL r (w ++ numsT l) = takeL r w l := by
  unfold stepL
  rw [words_line l w hw hg]
  simp only [numsP_dg l hg]
theorem stepL_back {r r' : St} {t : List UInt8} (h : stepL r t = (0, r')) : ∃ (w : List UInt8) (l : List Int), t = w ++ numsT l ∧ (32 : UInt8) ∉ w ∧ good l ∧ takeL r w l = (0, r') := by
  unfold stepL at h
  split at h
  · simp at h
  · rename_i w ws hw
    split at h
    · simp at h
    · rename_i l hl
      obtain ⟨e1, e2⟩ := words_back t w ws hw
      obtain ⟨i1, i2⟩ := numsP_back ws l hl
      exact ⟨w, l, by rw [e1, i1, flat_dg], e2, i2, h⟩

theorem cutL_app : ∀ (a b : List UInt8), (10 : UInt8) ∉ a → cutL (a ++ 10 :: b) = some (a, b)
  | [], b, _ => rfl
  | c :: a, b, h => by
    have h1 : c ≠ 10 := fun e => h (by rw [e]; exact List.mem_cons_self ..)
    show (if c = 10 then some ([], a ++ 10 :: b) else match cutL (a ++ 10 :: b) with | none => none | some (x, y) => some (c :: x, y)) = _
    rw [if_neg h1, cutL_app a b (fun hm => h (List.mem_cons_of_mem _ hm))]
theorem cutL_back : ∀ (t a b : List UInt8), cutL t = some (a, b) → t = a ++ 10 :: b ∧ (10 : UInt8) ∉ a
  | [], a, b, h => by simp [cutL] at h
  | c :: t, a, b, h => by
    have h : (if c = 10 then some ([], t) else match cutL t with | none => none | some (x, y) => some (c :: x, y)) = some (a, b) := h
    split at h
    · rename_i hc
      simp only [Option.some.injEq, Prod.mk.injEq] at h
      obtain ⟨rfl, rfl⟩ := h
      subst hc
      exact ⟨rfl, by simp⟩
    · rename_i hc
      cases hx : cutL t with
      | none => rw [hx] at h; cases h
      | some p =>
        obtain ⟨x, y⟩ := p
        rw [hx] at h
        simp only [Option.some.injEq, Prod.mk.injEq] at h
        obtain ⟨rfl, rfl⟩ := h
        obtain ⟨e1, e2⟩ := cutL_back t x y hx
        refine ⟨by rw [List.cons_append, ← e1], fun hm => ?_⟩
        rcases List.mem_cons.1 hm with h | h
        · exact hc h.symm
        · exact e2 h
theorem cutL_none : ∀ (t : List UInt8), cutL t = none → (10 : UInt8) ∉ t
  | [], _ => by simp
  | c :: t, h => by
    have h : (if c = 10 then some ([], t) else match cutL t with | none => none | some (x, y) => some (c :: x, y)) = none := h
    split at h
    · cases h
    · rename_i hc
      cases hx : cutL t with
      | none =>
        intro hm
        rcases List.mem_cons.1 hm with h | h
        · exact hc h.symm
        · exact cutL_none t hx h
      | some p => rw [hx] at h; cases h

end Pl
end Go.Proofs.YtcfbcffmlinlaaaDoor
