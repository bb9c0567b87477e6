/-
  Reading a plan back; no program in sight.
-/
import Derived.Test.YtcfbcffmlinlaaaDoorPlPure2
namespace Go.Proofs.YtcfbcffmlinlaaaDoor
namespace Pl

theorem picksT_nil (f : Nat) : picksT f [] = [] := by cases f <;> rfl
theorem picksT_fuel (f : Nat) : ∀ (g : Nat) (l : List Int), l.length ≤ f → l.length ≤ g → picksT f l = picksT g l := by
  induction f with
  | zero =>
    intro g l h1 h2
    rw [List.length_eq_zero_iff.1 (by omega : l.length = 0), picksT_nil, picksT_nil]
  | succ f ih =>
    intro g l h1 h2
    cases g with
    | zero => rw [List.length_eq_zero_iff.1 (by omega : l.length = 0), picksT_nil, picksT_nil]
    | succ g =>
      unfold picksT
      by_cases hl : l = []
      · rw [if_pos hl, if_pos hl]
      · rw [if_neg hl, if_neg hl, ih g (l.drop 16) (by have := List.length_pos_iff.2 hl; rw [List.length_drop]; omega) (by have := List.length_pos_iff.2 hl; rw [List.length_drop]; omega)]

theorem picksT_snoc (n : Nat) : ∀ (p l : List Int) (f g : Nat), p.length = 16 * n → l ≠ [] → l.length ≤ 16 → p.length + l.length ≤ f → p.length ≤ g → picksT f (p ++ l) = picksT g p ++ lineT wP l := by
  induction n with
  | zero =>
    intro p l f g hp hl h16 hf hg
    have hp0 : p = [] := List.length_eq_zero_iff.1 (by omega)
    subst hp0
    have hpos := List.length_pos_iff.2 hl
    obtain ⟨f', rfl⟩ : ∃ f', f = f' + 1 := ⟨f - 1, by simp at hf; omega⟩
    rw [List.nil_append, picksT_nil, List.nil_append]
    unfold picksT
    rw [if_neg hl, List.take_of_length_le h16, List.drop_of_length_le h16, picksT_nil, List.append_nil]
  | succ n ih =>
    intro p l f g hp hl h16 hf hg
    obtain ⟨f', rfl⟩ : ∃ f', f = f' + 1 := ⟨f - 1, by omega⟩
    obtain ⟨g', rfl⟩ : ∃ g', g = g' + 1 := ⟨g - 1, by omega⟩
    have hp0 : p ≠ [] := fun h => by rw [h] at hp; simp at hp
    have hpl : p ++ l ≠ [] := fun h => hp0 (List.append_eq_nil_iff.1 h).1
    unfold picksT
    rw [if_neg hpl, if_neg hp0, List.take_append_of_le_length (by omega), List.drop_append_of_le_length (by omega), List.append_assoc]
    congr 1
    exact ih (p.drop 16) l f' g' (by rw [List.length_drop]; omega) hl h16 (by rw [List.length_drop]; omega) (by rw [List.length_drop]; omega)

/-- What is read so far, and the text that it was read from. -/
structure Inv (r : St) (T : List UInt8) : Prop where
  zero : r.part = 0 → T = [] ∧ r.s = ⟨0, [], [], []⟩ ∧ r.last = false
  text : r.part ≠ 0 → T = planT r.s
  one : r.part = 1 → r.s.calls = [] ∧ r.s.picks = []
  two : r.part = 2 → r.s.picks = []
  full : r.last = false → ∃ n, r.s.picks.length = 16 * n
  ok : r.part ≠ 0 → r.s.ok
  wide : r.s.wide

theorem Inv.start : Inv st0 [] := ⟨fun _ => ⟨rfl, rfl, rfl⟩, fun h => absurd rfl h, (fun h => by simp [st0] at h), (fun h => by simp [st0] at h), fun _ => ⟨0, rfl⟩, fun h => absurd rfl h, fun c hc => by cases hc⟩

theorem list1 {l : List Int} (h : l.length = 1) : l = [nth l 0] := by
  match l, h with
  | [a], _ => rfl
theorem list3 {l : List Int} (h : l.length = 3) : l = [nth l 0, nth l 1, nth l 2] := by
  match l, h with
  | [a, b, c], _ => rfl
theorem list6 {l : List Int} (h : l.length = 6) : l = [nth l 0, nth l 1, nth l 2, nth l 3, nth l 4, nth l 5] := by
  match l, h with
  | [a, b, c, d, e, f], _ => rfl

set_option maxHeartbeats 1000000 in
theorem Inv.step {r r' : St} {T : List UInt8} {w : List UInt8} {l : List Int} (h : Inv r T) (hg : good l) (ht : takeL r w l = (0, r')) : Inv r' (T ++ lineT w l) := by
  unfold takeL at ht
  split at ht
  · rename_i hc
    obtain ⟨rfl, hp, hl⟩ := hc
    split at ht
    · rename_i hn
      simp only [Prod.mk.injEq, true_and] at ht
      subst ht
      obtain ⟨rfl, hs, hla⟩ := h.zero hp
      have h0 := list1 hl
      refine ⟨(fun h => by simp at h), fun _ => ?_, fun _ => by rw [hs]; exact ⟨rfl, rfl⟩, (fun h => by simp at h), fun _ => by rw [hs]; exact ⟨0, rfl⟩, fun _ => ?_, fun c hc => by rw [hs] at hc; cases hc⟩
      · rw [hs, List.nil_append]
        unfold planT
        rw [← h0]; simp [picksT]
      · rw [hs]
        exact ⟨hn, by simp, by simp, by simp, (fun x hx => by cases hx), (fun x hx => by cases hx), (fun x hx => by cases hx)⟩
    · simp at ht
  · split at ht
    · rename_i _ hc
      obtain ⟨rfl, hp, hl⟩ := hc
      split at ht
      · simp at ht
      · rename_i hr
        split at ht
        · simp at ht
        · rename_i hlen
          simp only [Prod.mk.injEq, true_and] at ht
          subst ht
          have hT := h.text (by omega)
          obtain ⟨hc0, hp0⟩ := h.one hp
          have hok := h.ok (by omega)
          have h0 := list3 hl
          have g0 := hg _ (nth_mem l 0 (by omega))
          have g1 := hg _ (nth_mem l 1 (by omega))
          have g2 := hg _ (nth_mem l 2 (by omega))
          rw [not_or, not_or] at hr
          refine ⟨(fun h => by simp at h), fun _ => ?_, fun _ => ⟨hc0, hp0⟩, (fun h => by simp at h), h.full, fun _ => ?_, h.wide⟩
          · rw [hT]
            unfold planT
            rw [hc0, hp0, List.flatMap_append]
            simp only [List.flatMap_nil, List.length_nil, picksT_nil, List.append_nil, List.flatMap_cons, List.append_assoc]
            congr 2
            unfold specT
            rw [← h0]
          · refine ⟨hok.1, by simp; omega, hok.2.2.1, hok.2.2.2.1, fun x hx => ?_, hok.2.2.2.2.2⟩
            rcases List.mem_append.1 hx with hx | hx
            · exact hok.2.2.2.2.1 x hx
            · rw [List.mem_singleton.1 hx]
              exact ⟨⟨g0.1, by show nth l 0 ≤ 255; omega⟩, ⟨g1.1, by show nth l 1 ≤ 65535; omega⟩, ⟨g2.1, by show nth l 2 ≤ 65535; omega⟩⟩
    · split at ht
      · rename_i _ _ hc
        obtain ⟨rfl, hp, hl⟩ := hc
        split at ht
        · simp at ht
        · rename_i hr
          split at ht
          · simp at ht
          · rename_i hlen
            simp only [Prod.mk.injEq, true_and] at ht
            subst ht
            have hT := h.text (by omega)
            have hp0 : r.s.picks = [] := by
              rcases hp with hp | hp
              · exact (h.one hp).2
              · exact h.two hp
            have hok := h.ok (by omega)
            have h0 := list6 hl
            have g0 := hg _ (nth_mem l 0 (by omega))
            have g1 := hg _ (nth_mem l 1 (by omega))
            have g2 := hg _ (nth_mem l 2 (by omega))
            have g3 := hg _ (nth_mem l 3 (by omega))
            have g4 := hg _ (nth_mem l 4 (by omega))
            have g5 := hg _ (nth_mem l 5 (by omega))
            rw [not_or, not_or] at hr
            refine ⟨(fun h => by simp at h), fun _ => ?_, (fun h => by simp at h), fun _ => hp0, h.full, fun _ => ?_, fun c hc => ?_⟩
            · rw [hT]
              unfold planT
              rw [hp0, List.flatMap_append]
              simp only [List.flatMap_nil, List.length_nil, picksT_nil, List.append_nil, List.flatMap_cons, List.append_assoc]
              congr 3
              unfold callT
              rw [← h0]
            · refine ⟨hok.1, hok.2.1, by simp; omega, hok.2.2.2.1, hok.2.2.2.2.1, fun x hx => ?_, hok.2.2.2.2.2.2⟩
              rcases List.mem_append.1 hx with hx | hx
              · exact hok.2.2.2.2.2.1 x hx
              · rw [List.mem_singleton.1 hx]
                exact ⟨⟨g0.1, by show nth l 0 < r.s.n; omega⟩, ⟨g1.1, by show nth l 1 ≤ 255; omega⟩, ⟨g2.1, by show nth l 2 ≤ 255; omega⟩⟩
            · rcases List.mem_append.1 hc with hc | hc
              · exact h.wide c hc
              · rw [List.mem_singleton.1 hc]
                exact ⟨⟨g3.1, by show nth l 3 < _; omega⟩, ⟨g4.1, by show nth l 4 < _; omega⟩, ⟨g5.1, by show nth l 5 < _; omega⟩⟩
      · split at ht
        · rename_i _ _ _ hc
          obtain ⟨rfl, hp, hla, hl1, hl16⟩ := hc
          split at ht
          · simp at ht
          · rename_i hr
            split at ht
            · simp at ht
            · rename_i hlen
              simp only [Prod.mk.injEq, true_and] at ht
              subst ht
              have hT := h.text (by omega)
              have hok := h.ok (by omega)
              obtain ⟨n, hn⟩ := h.full hla
              have hb : ∀ x ∈ l, x ≤ 255 := fun x hx => by
                have : ¬ (255 < x) := fun h255 => hr (List.any_eq_true.2 ⟨x, hx, decide_eq_true h255⟩)
                omega
              refine ⟨(fun h => by simp at h), fun _ => ?_, (fun h => by simp at h), (fun h => by simp at h), fun hf => ?_, fun _ => ?_, h.wide⟩
              · rw [hT]
                unfold planT
                simp only [List.append_assoc]
                congr 3
                rw [← picksT_snoc n r.s.picks l (r.s.picks ++ l).length r.s.picks.length hn (List.length_pos_iff.1 (by omega)) hl16 (by rw [List.length_append]; omega) (Nat.le_refl _)]
              · have : ¬ l.length < 16 := by simpa using hf
                exact ⟨n + 1, by show (r.s.picks ++ l).length = _; rw [List.length_append]; omega⟩
              · refine ⟨hok.1, hok.2.1, hok.2.2.1, by show (r.s.picks ++ l).length ≤ 65536; rw [List.length_append]; omega, hok.2.2.2.2.1, hok.2.2.2.2.2.1, fun x hx => ?_⟩
                rcases List.mem_append.1 hx with hx | hx
                · exact hok.2.2.2.2.2.2 x hx
                · exact ⟨(hg x hx).1, hb x hx⟩
        · simp at ht

theorem lineT_ne (w : List UInt8) (l : List Int) : lineT w l ≠ [] := by unfold lineT; simp
theorem Inv.part {r : St} {T : List UInt8} (h : Inv r T) (hT : T ≠ []) : r.part ≠ 0 := fun hp => hT (h.zero hp).1

theorem runL_succ (f : Nat) (r : St) (k : Int) (t : List UInt8) : runL (f + 1) r k t = match cutL t with
    | none => (k, 4, r)
    | some (a, b) => if (stepL r a).1 = 0 then (if b = [] then (0, 0, (stepL r a).2) else runL f (stepL r a).2 (k + 1) b) else (k, (stepL r a).1, r) := rfl

theorem runL_back (f : Nat) : ∀ (r : St) (k : Int) (t T : List UInt8) (e : Int) (r' : St), 1 ≤ k → Inv r T → runL f r k t = (0, e, r') → e = 0 ∧ Inv r' (T ++ t) ∧ r'.part ≠ 0 := by
  induction f with
  | zero =>
    intro r k t T e r' hk hi h
    simp only [runL, Prod.mk.injEq] at h
    omega
  | succ f ih =>
    intro r k t T e r' hk hi h
    rw [runL_succ] at h
    cases hc : cutL t with
    | none => rw [hc] at h; simp only [Prod.mk.injEq] at h; omega
    | some p =>
      obtain ⟨a, b⟩ := p
      rw [hc] at h
      simp only at h
      obtain ⟨e1, -⟩ := cutL_back t a b hc
      split at h
      · rename_i h0
        obtain ⟨w, l, ea, -, hg, ht⟩ := stepL_back (r := r) (r' := (stepL r a).2) (t := a) (by rw [← h0])
        have hi2 := hi.step hg ht
        have hT2 : T ++ t = (T ++ lineT w l) ++ b := by
          rw [e1, ea]; unfold lineT; simp
        split at h
        · rename_i hb
          simp only [Prod.mk.injEq, true_and] at h
          obtain ⟨rfl, rfl⟩ := h
          rw [hT2, hb, List.append_nil]
          exact ⟨rfl, hi2, hi2.part (by simp [lineT_ne])⟩
        · obtain ⟨h1, h2, h3⟩ := ih _ _ _ _ _ _ (by omega) hi2 h
          rw [hT2]
          exact ⟨h1, h2, h3⟩
      · simp only [Prod.mk.injEq] at h; omega

/-- What is read as a plan has that plan, and may be written. -/
theorem read_back {t : List UInt8} {e : Int} {r : St} (h : readP t = (0, e, r)) : e = 0 ∧ planT r.s = t ∧ r.s.ok ∧ r.s.wide := by
  obtain ⟨h1, h2, h3⟩ := runL_back _ _ _ _ [] _ _ (by decide) Inv.start h
  exact ⟨h1, by have := h2.text h3; rw [List.nil_append] at this; exact this.symm, h2.ok h3, h2.wide⟩

/-- Reading on, if anything is left. -/
def runR (f : Nat) (r : St) (k : Int) (t : List UInt8) : Int × Int × St := if t = [] then (0, 0, r) else runL f r k t

theorem no10 {w : List UInt8} {l : List Int} (hw : (10 : UInt8) ∉ w) (hg : good l) : (10 : UInt8) ∉ w ++ numsT l := by
  intro hm
  rcases List.mem_append.1 hm with h | h
  · exact hw h
  · unfold numsT at h
    obtain ⟨x, hx, hc⟩ := List.mem_flatMap.1 h
    rcases List.mem_cons.1 hc with h | h
    · cases h
    · exact dg_no32 x (hg x hx) 10 (by decide) h

theorem runR_line {r r' : St} {w : List UInt8} {l : List Int} (f : Nat) (k : Int) (rest : List UInt8) (h32 : (32 : UInt8) ∉ w) (h10 : (10 : UInt8) ∉ w) (hg : good l) (ht : takeL r w l = (0, r')) :
    runR (f + 1) r k (lineT w l ++ rest) = runR f r' (k + 1) rest := by
  unfold runR
  rw [if_neg (by simp [lineT_ne]), runL_succ]
  have e : lineT w l ++ rest = (w ++ numsT l) ++ 10 :: rest := by unfold lineT; simp
  rw [e, cutL_app _ _ (no10 h10 hg)]
  simp only [stepL_line r w l h32 hg, ht]
  rfl

end Pl
end Go.Proofs.YtcfbcffmlinlaaaDoor
