/-
  Reading a plan back; no program in sight.
  A plan that is written is read as it was; no program in sight.
  plan.Write, walked.
-/
import Derived.Test.YtcfbcffmlinlaaaDoorJ02
import Derived.Test.YtcfbcffmlinlaaaDoorJ06
import Derived.Test.YtcfbcffmlinlaaaDoorJ07
set_option linter.unusedVariables false
namespace Go.Proofs.YtcfbcffmlinlaaaDoor
namespace Pl

theorem picksT_nil (f : Nat) : picksT f [] = [] := by cases f <;> rfl
theorem picksT_fuel (f : Nat) : ∀ (g : Nat) (l : List Int), l.length ≤ f → l.length ≤ g → picksT f l = picksT g l := by
  induction f with
  | zero =>
    intro g l h1 h2
    rw [List.length_eq_zero_iff.1 (by omega : l.length = 0), picksT_nil, picksT_nil]
  | succ f ih =>
    intro g l h1 h2
    cases g with
    | zero => rw [List.length_eq_zero_iff.1 (by omega : l.length = 0), picksT_nil, picksT_nil]
    | succ g =>
      unfold picksT
      by_cases hl : l = []
      · rw [if_pos hl, if_pos hl]
      · rw [if_neg hl, if_neg hl, ih g (l.drop 16) (by have := List.length_pos_iff.2 hl; rw [List.length_drop]; omega) (by have := List.length_pos_iff.2 hl; rw [List.length_drop]; omega)]

theorem picksT_snoc (n : Nat) : ∀ (p l : List Int) (f g : Nat), p.length = 16 * n → l ≠ [] → l.length ≤ 16 → p.length + l.length ≤ f → p.length ≤ g → picksT f (p ++ l) = picksT g p ++ lineT wP l := by
  induction n with
  | zero =>
    intro p l f g hp hl h16 hf hg
    have hp0 : p = [] := List.length_eq_zero_iff.1 (by omega)
    subst hp0
    have hpos := List.length_pos_iff.2 hl
    obtain ⟨f', rfl⟩ : ∃ f', f = f' + 1 := ⟨f - 1, by simp at hf; omega⟩
    rw [List.nil_append, picksT_nil, List.nil_append]
    unfold picksT
    rw [if_neg hl, List.take_of_length_le h16, List.drop_of_length_le h16, picksT_nil, List.append_nil]
  | succ n ih =>
    intro p l f g hp hl h16 hf hg
    obtain ⟨f', rfl⟩ : ∃ f', f = f' + 1 := ⟨f - 1, by omega⟩
    obtain ⟨g', rfl⟩ : ∃ g', g = g' + 1 := ⟨g - 1, by omega⟩
    have hp0 : p ≠ [] := fun h => by rw [h] at hp; simp at hp
    have hpl : p ++ l ≠ [] := fun h => hp0 (List.append_eq_nil_iff.1 h).1
    unfold picksT
    rw [if_neg hpl, if_neg hp0, List.take_append_of_le_length (by omega), List.drop_append_of_le_length (by omega), List.append_assoc]
    congr 1
    exact ih (p.drop 16) l f' g' (by rw [List.length_drop]; omega) hl h16 (by rw [List.length_drop]; omega) (by rw [List.length_drop]; omega)

/-- What is read so far, and the text that it was read from. -/
structure Inv (r : St) (T : List UInt8) : Prop where
  zero : r.part = 0 → T = [] ∧ r.s = ⟨0, [], [], []⟩ ∧ r.last = false
  text : r.part ≠ 0 → T = planT r.s
  one : r.part = 1 → r.s.calls = [] ∧ r.s.picks = []
  two : r.part = 2 → r.s.picks = []
  full : r.last = false → ∃ n, r.s.picks.length = 16 * n
  ok : r.part ≠ 0 → r.s.ok
  wide : r.s.wide

theorem Inv.start : Inv st0 [] := ⟨fun _ => ⟨rfl, rfl, rfl⟩, fun h => absurd rfl h, (fun h => by simp [st0] at h), (fun h => by simp [st0] at h), fun _ => ⟨0, rfl⟩, fun h => absurd rfl h, fun c hc => by cases hc⟩

theorem list1 {l : List Int} (h : l.length = 1) : l = [nth l 0] := by
  match l, h with
  | [a], _ => rfl
theorem list3 {l : List Int} (h : l.length = 3) : l = [nth l 0, nth l 1, nth l 2] := by
  match l, h with
  | [a, b, c], _ => rfl
theorem list6 {l : List Int} (h : l.length = 6) : l = [nth l 0, nth l 1, nth l 2, nth l 3, nth l 4, nth l 5] := by
  match l, h with
  | [a, b, c, d, e, f], _ => rfl

set_option maxHeartbeats 1000000 in
theorem Inv.step {r r' : St} {T : List UInt8} {w : List UInt8} {l : List Int} (h : Inv r T) (hg : good l) (ht : takeL r w l = (0, r')) : Inv r' (T ++ lineT w l) := by
  unfold takeL at ht
  split at ht
  · rename_i hc
    obtain ⟨rfl, hp, hl⟩ := hc
    split at ht
    · rename_i hn
      simp only [Prod.mk.injEq, true_and] at ht
      subst ht
      obtain ⟨rfl, hs, hla⟩ := h.zero hp
      have h0 := list1 hl
      refine ⟨(fun h => by simp at h), fun _ => ?_, fun _ => by rw [hs]; exact ⟨rfl, rfl⟩, (fun h => by simp at h), fun _ => by rw [hs]; exact ⟨0, rfl⟩, fun _ => ?_, fun c hc => by rw [hs] at hc; cases hc⟩
      · rw [hs, List.nil_append]
        unfold planT
        rw [← h0]; simp [picksT]
      · rw [hs]
        exact ⟨hn, by simp, by simp, by simp, (fun x hx => by cases hx), (fun x hx => by cases hx), (fun x hx => by cases hx)⟩
    · simp at ht
  · split at ht
    · rename_i _ hc
      obtain ⟨rfl, hp, hl⟩ := hc
      split at ht
      · simp at ht
      · rename_i hr
        split at ht
        · simp at ht
        · rename_i hlen
          simp only [Prod.mk.injEq, true_and] at ht
          subst ht
          have hT := h.text (by omega)
          obtain ⟨hc0, hp0⟩ := h.one hp
          have hok := h.ok (by omega)
          have h0 := list3 hl
          have g0 := hg _ (nth_mem l 0 (by omega))
          have g1 := hg _ (nth_mem l 1 (by omega))
          have g2 := hg _ (nth_mem l 2 (by omega))
          rw [not_or, not_or] at hr
          refine ⟨(fun h => by simp at h), fun _ => ?_, fun _ => ⟨hc0, hp0⟩, (fun h => by simp at h), h.full, fun _ => ?_, h.wide⟩
          · rw [hT]
            unfold planT
            rw [hc0, hp0, List.flatMap_append]
            simp only [List.flatMap_nil, List.length_nil, picksT_nil, List.append_nil, List.flatMap_cons, List.append_assoc]
            congr 2
            unfold specT
            rw [← h0]
          · refine ⟨hok.1, by simp; omega, hok.2.2.1, hok.2.2.2.1, fun x hx => ?_, hok.2.2.2.2.2⟩
            rcases List.mem_append.1 hx with hx | hx
            · exact hok.2.2.2.2.1 x hx
            · rw [List.mem_singleton.1 hx]
              exact ⟨⟨g0.1, by show nth l 0 ≤ 255; omega⟩, ⟨g1.1, by show nth l 1 ≤ 65535; omega⟩, ⟨g2.1, by show nth l 2 ≤ 65535; omega⟩⟩
    · split at ht
      · rename_i _ _ hc
        obtain ⟨rfl, hp, hl⟩ := hc
        split at ht
        · simp at ht
        · rename_i hr
          split at ht
          · simp at ht
          · rename_i hlen
            simp only [Prod.mk.injEq, true_and] at ht
            subst ht
            have hT := h.text (by omega)
            have hp0 : r.s.picks = [] := by
              rcases hp with hp | hp
              · exact (h.one hp).2
              · exact h.two hp
            have hok := h.ok (by omega)
            have h0 := list6 hl
            have g0 := hg _ (nth_mem l 0 (by omega))
            have g1 := hg _ (nth_mem l 1 (by omega))
            have g2 := hg _ (nth_mem l 2 (by omega))
            have g3 := hg _ (nth_mem l 3 (by omega))
            have g4 := hg _ (nth_mem l 4 (by omega))
            have g5 := hg _ (nth_mem l 5 (by omega))
            rw [not_or, not_or] at hr
            refine ⟨(fun h => by simp at h), fun _ => ?_, (fun h => by simp at h), fun _ => hp0, h.full, fun _ => ?_, fun c hc => ?_⟩
            · rw [hT]
              unfold planT
              rw [hp0, List.flatMap_append]
              simp only [List.flatMap_nil, List.length_nil, picksT_nil, List.append_nil, List.flatMap_cons, List.append_assoc]
              congr 3
              unfold callT
              rw [← h0]
            · refine ⟨hok.1, hok.2.1, by simp; omega, hok.2.2.2.1, hok.2.2.2.2.1, fun x hx => ?_, hok.2.2.2.2.2.2⟩
              rcases List.mem_append.1 hx with hx | hx
              · exact hok.2.2.2.2.2.1 x hx
              · rw [List.mem_singleton.1 hx]
                exact ⟨⟨g0.1, by show nth l 0 < r.s.n; omega⟩, ⟨g1.1, by show nth l 1 ≤ 255; omega⟩, ⟨g2.1, by show nth l 2 ≤ 255; omega⟩⟩
            · rcases List.mem_append.1 hc with hc | hc
              · exact h.wide c hc
              · rw [List.mem_singleton.1 hc]
                exact ⟨⟨g3.1, by show nth l 3 < _; omega⟩, ⟨g4.1, by show nth l 4 < _; omega⟩, ⟨g5.1, by show nth l 5 < _; omega⟩⟩
      · split at ht
        · rename_i _ _ _ hc
          obtain ⟨rfl, hp, hla, hl1, hl16⟩ := hc
          split at ht
          · simp at ht
          · rename_i hr
            split at ht
            · simp at ht
            · rename_i hlen
              simp only [Prod.mk.injEq, true_and] at ht
              subst ht
              have hT := h.text (by omega)
              have hok := h.ok (by omega)
              obtain ⟨n, hn⟩ := h.full hla
              have hb : ∀ x ∈ l, x ≤ 255 := fun x hx => by
                have : ¬ (255 < x) := fun h255 => hr (List.any_eq_true.2 ⟨x, hx, decide_eq_true h255⟩)
                omega
              refine ⟨(fun h => by simp at h), fun _ => ?_, (fun h => by simp at h), (fun h => by simp at h), fun hf => ?_, fun _ => ?_, h.wide⟩
              · rw [hT]
                unfold planT
                simp only [List.append_assoc]
                congr 3
                rw [← picksT_snoc n r.s.picks l (r.s.picks ++ l).length r.s.picks.length hn (List.length_pos_iff.1 (by omega)) hl16 (by rw [List.length_append]; omega) (Nat.le_refl _)]
              · have : ¬ l.length < 16 := by simpa using hf
                exact ⟨n + 1, by show (r.s.picks ++ l).length = _; rw [List.length_append]; omega⟩
              · refine ⟨hok.1, hok.2.1, hok.2.2.1, by show (r.s.picks ++ l).length ≤ 65536; rw [List.length_append]; omega, hok.2.2.2.2.1, hok.2.2.2.2.2.1, fun x hx => ?_⟩
                rcases List.mem_append.1 hx with hx | hx
                · exact hok.2.2.2.2.2.2 x hx
                · exact ⟨(hg x hx).1, hb x hx⟩
        · simp at ht

theorem lineT_ne (w : List UInt8) (l : List Int) : lineT w l ≠ [] := by unfold lineT; simp
theorem Inv.part {r : St} {T : List UInt8} (h : Inv r T) (hT : T ≠ []) : r.part ≠ 0 := fun hp => hT (h.zero hp).1

theorem runL_succ (f : Nat) (r : St) (k : Int) (t : List UInt8) : runL (f + 1) r k t = match cutL t with
    | none => (k, 4, r)
    | some (a, b) => if (stepL r a).1 = 0 then (if b = [] then (0, 0, (stepL r a).2) else runL f (stepL r a).2 (k + 1) b) else (k, (stepL r a).1, r) := rfl

theorem runL_back (f : Nat) : ∀ (r : St) (k : Int) (t T : List UInt8) (e : Int) (r' : St), 1 ≤ k → Inv r T → runL f r k t = (0, e, r') → e = 0 ∧ Inv r' (T ++ t) ∧ r'.part ≠ 0 := by
  induction f with
  | zero =>
    intro r k t T e r' hk hi h
    simp only [runL, Prod.mk.injEq] at h
    omega
  | succ f ih =>
    intro r k t T e r' hk hi h
    rw [runL_succ] at h
    cases hc : cutL t with
    | none => rw [hc] at h; simp only [Prod.mk.injEq] at h; omega
    | some p =>
      obtain ⟨a, b⟩ := p
      rw [hc] at h
      simp only at h
      obtain ⟨e1, -⟩ := cutL_back t a b hc
      split at h
      · rename_i h0
        obtain ⟨w, l, ea, -, hg, ht⟩ := stepL_back (r := r) (r' := (stepL r a).2) (t := a) (by rw [← h0])
        have hi2 := hi.step hg ht
        have hT2 : T ++ t = (T ++ lineT w l) ++ b := by
          rw [e1, ea]; unfold lineT; simp
        split at h
        · rename_i hb
          simp only [Prod.mk.injEq, true_and] at h
          obtain ⟨rfl, rfl⟩ := h
          rw [hT2, hb, List.append_nil]
          exact ⟨rfl, hi2, hi2.part (by simp [lineT_ne])⟩
        · obtain ⟨h1, h2, h3⟩ := ih _ _ _ _ _ _ (by omega) hi2 h
          rw [hT2]
          exact ⟨h1, h2, h3⟩
      · simp only [Prod.mk.injEq] at h; omega

/-- What is read as a plan has that plan, and may be written. -/
theorem read_back {t : List UInt8} {e : Int} {r : St} (h : readP t = (0, e, r)) : e = 0 ∧ planT r.s = t ∧ r.s.ok ∧ r.s.wide := by
  obtain ⟨h1, h2, h3⟩ := runL_back _ _ _ _ [] _ _ (by decide) Inv.start h
  exact ⟨h1, by have := h2.text h3; rw [List.nil_append] at this; exact this.symm, h2.ok h3, h2.wide⟩

/-- Reading on, if anything is left. -/
def runR (f : Nat) (r : St) (k : Int) (t : List UInt8) : Int × Int × St := if t = [] then (0, 0, r) else runL f r k t

theorem no10 {w : List UInt8} {l : List Int} (hw : (10 : UInt8) ∉ w) (hg : good l) : (10 : UInt8) ∉ w ++ numsT l := by
  intro hm
  rcases List.mem_append.1 hm with h | h
  · exact hw h
  · unfold numsT at h
    obtain ⟨x, hx, hc⟩ := List.mem_flatMap.1 h
    rcases List.mem_cons.1 hc with h | h
    · cases h
    · exact dg_no32 x (hg x hx) 10 (by decide) h

theorem runR_line {r r' : St} {w : List UInt8} {l : List Int} (f : Nat) (k : Int) (rest : List UInt8) (h32 : (32 : UInt8) ∉ w) (h10 : (10 : UInt8) ∉ w) (hg : good l) (ht : takeL r w l = (0, r')) :
    runR (f + 1) r k (lineT w l ++ rest) = runR f r' (k + 1) rest := by
  unfold runR
  rw [if_neg (by simp [lineT_ne]), runL_succ]
  have e : lineT w l ++ rest = (w ++ numsT l) ++ 10 :: rest := by unfold lineT; simp
  rw [e, cutL_app _ _ (no10 h10 hg)]
  simp only [stepL_line r w l h32 hg, ht]
  rfl

end Pl
end Go.Proofs.YtcfbcffmlinlaaaDoor

namespace Go.Proofs.YtcfbcffmlinlaaaDoor
namespace Pl

theorem good_of {l : List Int} (h : ∀ x ∈ l, 0 ≤ x ∧ x ≤ 18446744073709551615) : good l := h

theorem run_specs : ∀ (ss : List Spc) (f : Nat) (k : Int) (r : St) (rest : List UInt8), r.part = 1 → (∀ x ∈ ss, x.ok) → r.s.specs.length + ss.length ≤ 8 →
    runR (f + ss.length) r k (ss.flatMap specT ++ rest) = runR f ⟨⟨r.s.n, r.s.specs ++ ss, r.s.calls, r.s.picks⟩, 1, r.last⟩ (k + ss.length) rest
  | [], f, k, r, rest, hp, _, _ => by
    obtain ⟨⟨n, sp, ca, pi⟩, part, last⟩ := r
    simp only at hp
    subst hp
    simp
  | x :: ss, f, k, r, rest, hp, hok, hl => by
    obtain ⟨⟨a1, a2⟩, ⟨b1, b2⟩, ⟨c1, c2⟩⟩ := hok x (List.mem_cons_self ..)
    rw [List.length_cons] at hl
    have ht : takeL r wO [x.kind, x.p, x.q] = (0, ⟨⟨r.s.n, r.s.specs ++ [x], r.s.calls, r.s.picks⟩, 1, r.last⟩) := by
      unfold takeL
      rw [if_neg (by simp [hp]), if_pos ⟨rfl, hp, rfl⟩, if_neg (by simp [nth]; omega), if_neg (by omega)]
      rfl
    rw [List.flatMap_cons, List.append_assoc, List.length_cons, ← Nat.add_assoc]
    show runR (f + ss.length + 1) r k (lineT wO [x.kind, x.p, x.q] ++ (ss.flatMap specT ++ rest)) = _
    rw [runR_line (f + ss.length) k _ (by decide) (by decide) (good_of (by intro y hy; simp at hy; omega)) ht]
    rw [run_specs ss f (k + 1) _ rest rfl (fun y hy => hok y (List.mem_cons_of_mem _ hy)) (by simp; omega)]
    simp only [List.append_assoc, List.singleton_append]
    congr 1
    push_cast
    omega

theorem run_calls : ∀ (cs : List Cll) (f : Nat) (k : Int) (r : St) (rest : List UInt8), (r.part = 1 ∨ r.part = 2) → (∀ c ∈ cs, c.ok r.s.n) → (∀ c ∈ cs, c.wide) → r.s.n ≤ 16 → r.s.calls.length + cs.length ≤ 1000 →
    ∃ p : Int, (p = 1 ∨ p = 2) ∧ runR (f + cs.length) r k (cs.flatMap callT ++ rest) = runR f ⟨⟨r.s.n, r.s.specs, r.s.calls ++ cs, r.s.picks⟩, p, r.last⟩ (k + cs.length) rest
  | [], f, k, r, rest, hp, _, _, _, _ => by
    obtain ⟨⟨n, sp, ca, pi⟩, part, last⟩ := r
    exact ⟨part, hp, by simp⟩
  | c :: cs, f, k, r, rest, hp, hok, hw, hn, hl => by
    obtain ⟨⟨a1, a2⟩, ⟨b1, b2⟩, ⟨c1, c2⟩⟩ := hok c (List.mem_cons_self ..)
    obtain ⟨⟨d1, d2⟩, ⟨e1, e2⟩, ⟨f1, f2⟩⟩ := hw c (List.mem_cons_self ..)
    rw [List.length_cons] at hl
    have ht : takeL r wC [c.thread, c.obj, c.kind, c.a, c.b, c.c] = (0, ⟨⟨r.s.n, r.s.specs, r.s.calls ++ [c], r.s.picks⟩, 2, r.last⟩) := by
      unfold takeL
      rw [if_neg (by simp [wC, wT]), if_neg (by simp [wC, wO]), if_pos ⟨rfl, hp, rfl⟩, if_neg (by simp [nth]; omega), if_neg (by omega)]
      rfl
    obtain ⟨p, hp2, ih⟩ := run_calls cs f (k + 1) ⟨⟨r.s.n, r.s.specs, r.s.calls ++ [c], r.s.picks⟩, 2, r.last⟩ rest (.inr rfl) (fun y hy => hok y (List.mem_cons_of_mem _ hy)) (fun y hy => hw y (List.mem_cons_of_mem _ hy)) hn (by simp; omega)
    refine ⟨p, hp2, ?_⟩
    rw [List.flatMap_cons, List.append_assoc, List.length_cons, ← Nat.add_assoc]
    show runR (f + cs.length + 1) r k (lineT wC [c.thread, c.obj, c.kind, c.a, c.b, c.c] ++ (cs.flatMap callT ++ rest)) = _
    rw [runR_line (f + cs.length) k _ (by decide) (by decide) (good_of (by intro y hy; simp at hy; omega)) ht, ih]
    simp only [List.append_assoc, List.singleton_append]
    congr 1
    push_cast
    omega

theorem run_picks (F : Nat) : ∀ (l : List Int) (f : Nat) (k : Int) (r : St), F ≤ f → l.length ≤ F → 0 < r.part → r.last = false → (∀ x ∈ l, byteOk x) → r.s.picks.length + l.length ≤ 65536 →
    ∃ r' : St, runR f r k (picksT F l) = (0, 0, r') ∧ r'.s = ⟨r.s.n, r.s.specs, r.s.calls, r.s.picks ++ l⟩ := by
  induction F with
  | zero =>
    intro l f k r hf hl hp hla hb hlen
    have : l = [] := List.length_eq_zero_iff.1 (by omega)
    subst this
    exact ⟨r, rfl, by simp⟩
  | succ F ih =>
    intro l f k r hf hl hp hla hb hlen
    by_cases h0 : l = []
    · subst h0
      rw [picksT_nil]
      exact ⟨r, rfl, by simp⟩
    · have hpos := List.length_pos_iff.2 h0
      obtain ⟨f', rfl⟩ : ∃ f', f = f' + 1 := ⟨f - 1, by omega⟩
      have htl : (l.take 16).length ≤ 16 := by rw [List.length_take]; omega
      have htl1 : 1 ≤ (l.take 16).length := by rw [List.length_take]; omega
      have htl2 : (l.take 16).length ≤ l.length := by rw [List.length_take]; omega
      have hbt : ∀ x ∈ l.take 16, byteOk x := fun x hx => hb x (List.take_subset _ _ hx)
      have ht : takeL r wP (l.take 16) = (0, ⟨⟨r.s.n, r.s.specs, r.s.calls, r.s.picks ++ l.take 16⟩, 3, decide ((l.take 16).length < 16)⟩) := by
        unfold takeL
        rw [if_neg (by simp [wP, wT]), if_neg (by simp [wP, wO]), if_neg (by simp [wP, wC]), if_pos ⟨rfl, hp, hla, htl1, htl⟩, if_neg, if_neg (by omega)]
        intro hany
        obtain ⟨x, hx, h255⟩ := List.any_eq_true.1 hany
        have := (hbt x hx).2
        simp at h255; omega
      have e : picksT (F + 1) l = lineT wP (l.take 16) ++ picksT F (l.drop 16) := by
        show (if l = [] then [] else lineT wP (l.take 16) ++ picksT F (l.drop 16)) = _
        rw [if_neg h0]
      rw [e, runR_line f' k _ (by decide) (by decide) (good_of (fun x hx => by have := hbt x hx; unfold byteOk at this; omega)) ht]
      by_cases h16 : l.length ≤ 16
      · rw [List.drop_of_length_le h16, picksT_nil, List.take_of_length_le h16]
        exact ⟨_, rfl, rfl⟩
      · have hd : decide ((l.take 16).length < 16) = false := decide_eq_false (by rw [List.length_take]; omega)
        rw [hd]
        obtain ⟨r', h1, h2⟩ := ih (l.drop 16) f' (k + 1) ⟨⟨r.s.n, r.s.specs, r.s.calls, r.s.picks ++ l.take 16⟩, 3, false⟩ (by omega) (by rw [List.length_drop]; omega) (by show (0 : Int) < 3; decide) rfl (fun x hx => hb x (List.drop_subset _ _ hx)) (by
          show (r.s.picks ++ l.take 16).length + (l.drop 16).length ≤ 65536
          rw [List.length_append, List.length_take, List.length_drop]; omega)
        refine ⟨r', h1, ?_⟩
        rw [h2]
        show (⟨r.s.n, r.s.specs, r.s.calls, (r.s.picks ++ l.take 16) ++ l.drop 16⟩ : Scr) = _
        rw [List.append_assoc, List.take_append_drop]

theorem lineT_len (w : List UInt8) (l : List Int) : l.length + 1 ≤ (lineT w l).length := by
  have : ∀ l : List Int, l.length ≤ (numsT l).length := by
    intro l
    induction l with
    | nil => simp
    | cons x l ih => rw [numsT_cons]; simp; omega
  have h := this l
  unfold lineT
  simp; omega
theorem flat_len {α : Type} (g : α → List UInt8) (hg : ∀ x, 1 ≤ (g x).length) : ∀ l : List α, l.length ≤ (l.flatMap g).length
  | [] => by simp
  | x :: l => by
    have := flat_len g hg l
    have := hg x
    rw [List.flatMap_cons, List.length_append, List.length_cons]; omega
theorem picksT_len (F : Nat) : ∀ l : List Int, l.length ≤ F → l.length ≤ (picksT F l).length := by
  induction F with
  | zero => intro l h; omega
  | succ F ih =>
    intro l h
    by_cases h0 : l = []
    · subst h0; simp
    · show l.length ≤ (if l = [] then [] else lineT wP (l.take 16) ++ picksT F (l.drop 16)).length
      rw [if_neg h0, List.length_append]
      have h1 := lineT_len wP (l.take 16)
      have hpos := List.length_pos_iff.2 h0
      have h2 := ih (l.drop 16) (by rw [List.length_drop]; omega)
      rw [List.length_take] at h1
      rw [List.length_drop] at h2
      omega

/-- What is written is read as it was. -/
theorem read_plan (s : Scr) (hok : s.ok) (hw : s.wide) : ∃ r : St, readP (planT s) = (0, 0, r) ∧ r.s = s := by
  obtain ⟨⟨n1, n2⟩, h1, h2, h3, h4, h5, h6⟩ := hok
  obtain ⟨n, sp, ca, pi⟩ := s
  simp only at n1 n2 h1 h2 h3 h4 h5 h6
  have hne : planT ⟨n, sp, ca, pi⟩ ≠ [] := by unfold planT; simp [lineT_ne]
  have hR : readP (planT ⟨n, sp, ca, pi⟩) = runR ((planT ⟨n, sp, ca, pi⟩).length + 1) st0 1 (planT ⟨n, sp, ca, pi⟩) := by
    unfold readP runR; rw [if_neg hne]
  have hlen : (planT ⟨n, sp, ca, pi⟩).length = (lineT wT [n]).length + ((sp.flatMap specT).length + ((ca.flatMap callT).length + (picksT pi.length pi).length)) := by
    unfold planT; simp only [List.length_append]
  have l0 := lineT_len wT [n]
  have l1 := flat_len specT (fun x => by have := lineT_len wO [x.kind, x.p, x.q]; unfold specT; omega) sp
  have l2 := flat_len callT (fun c => by have := lineT_len wC [c.thread, c.obj, c.kind, c.a, c.b, c.c]; unfold callT; omega) ca
  have l3 := picksT_len pi.length pi (Nat.le_refl _)
  obtain ⟨f, hf, hfp⟩ : ∃ f, (planT ⟨n, sp, ca, pi⟩).length + 1 = (f + ca.length + sp.length) + 1 ∧ pi.length ≤ f := ⟨(planT ⟨n, sp, ca, pi⟩).length - ca.length - sp.length, by omega, by omega⟩
  rw [hR, hf]
  have ht : takeL st0 wT [n] = (0, ⟨⟨n, [], [], []⟩, 1, false⟩) := by
    unfold takeL
    rw [if_pos ⟨rfl, rfl, rfl⟩, if_pos ⟨n1, n2⟩]; rfl
  show ∃ r, runR _ st0 1 (lineT wT [n] ++ (sp.flatMap specT ++ (ca.flatMap callT ++ picksT pi.length pi))) = (0, 0, r) ∧ _
  rw [runR_line _ _ _ (by decide) (by decide) (good_of (by intro y hy; simp at hy; omega)) ht]
  rw [run_specs sp (f + ca.length) _ ⟨⟨n, [], [], []⟩, 1, false⟩ _ rfl h4 (by simpa using h1)]
  obtain ⟨p, hp, hc⟩ := run_calls ca f (1 + 1 + (sp.length : Int)) ⟨⟨n, [] ++ sp, [], []⟩, 1, false⟩ (picksT pi.length pi) (.inl rfl) h5 hw n2 (by simpa using h2)
  rw [hc]
  obtain ⟨r', e1, e2⟩ := run_picks pi.length pi f (1 + 1 + (sp.length : Int) + (ca.length : Int)) ⟨⟨n, [] ++ sp, [] ++ ca, []⟩, p, false⟩ hfp (Nat.le_refl _) (by show 0 < p; omega) rfl h6 (by simpa using h3)
  exact ⟨r', e1, by rw [e2]; simp⟩

end Pl
end Go.Proofs.YtcfbcffmlinlaaaDoor

namespace Go.Proofs.YtcfbcffmlinlaaaDoor
open Go.RowKit

theorem numsT_len' (l : List Int) : (Pl.numsT l).length ≤ 22 * l.length := numsT_len l
theorem lineT_len' (wd : List UInt8) (l : List Int) : (Pl.lineT wd l).length ≤ wd.length + 22 * l.length + 1 := by
  have := numsT_len l
  unfold Pl.lineT
  simp only [List.length_append, List.length_cons, List.length_nil]; omega
theorem flat_le {α : Type} (g : α → List UInt8) (k : Nat) (hg : ∀ x, (g x).length ≤ k) : ∀ l : List α, (l.flatMap g).length ≤ k * l.length
  | [] => by simp
  | x :: r => by
    have := flat_le g k hg r
    have := hg x
    rw [List.flatMap_cons, List.length_append, List.length_cons, Nat.mul_succ]; omega
theorem picksT_le (f : Nat) : ∀ l : List Int, (Pl.picksT f l).length ≤ 28 * l.length := by
  induction f with
  | zero => intro l; simp [Pl.picksT]
  | succ f ih =>
    intro l
    unfold Pl.picksT
    split
    · simp
    · rename_i h
      have h1 := ih (l.drop 16)
      have h2 := lineT_len' Pl.wP (l.take 16)
      have h3 : Pl.wP.length = 5 := rfl
      have h4 : 0 < l.length := List.length_pos_iff.2 h
      rw [List.length_append]
      rw [List.length_drop] at h1
      rw [List.length_take] at h2
      omega
theorem planT_len {s : Scr} (h : s.ok) : (Pl.planT s).length ≤ 10000000 := by
  obtain ⟨-, h1, h2, h3, -⟩ := h
  have e0 := lineT_len' Pl.wT [s.n]
  have e1 := flat_le Pl.specT 100 (fun x => by have := lineT_len' Pl.wO [x.kind, x.p, x.q]; have h6 : Pl.wO.length = 6 := rfl; unfold Pl.specT; simp at this; omega) s.specs
  have e2 := flat_le Pl.callT 200 (fun x => by have := lineT_len' Pl.wC [x.thread, x.obj, x.kind, x.a, x.b, x.c]; have h6 : Pl.wC.length = 4 := rfl; unfold Pl.callT; simp at this; omega) s.calls
  have e3 := picksT_le s.picks.length s.picks
  have h7 : Pl.wT.length = 7 := rfl
  unfold Pl.planT
  simp only [List.length_append]
  simp at e0
  omega

theorem picksT_step {f : Nat} {l : List Int} (h : l ≠ []) (hf : l.length ≤ f) : Pl.picksT f l = Pl.lineT Pl.wP (l.take 16) ++ Pl.picksT f (l.drop 16) := by
  have hp : 0 < l.length := List.length_pos_iff.2 h
  obtain ⟨g, rfl⟩ : ∃ g, f = g + 1 := ⟨f - 1, by omega⟩
  show (if l = [] then [] else Pl.lineT Pl.wP (l.take 16) ++ Pl.picksT g (l.drop 16)) = _
  rw [if_neg h, Pl.picksT_fuel g (g + 1) (l.drop 16) (by simp; omega) (by simp; omega)]

/-- What plan.Write answers. -/
def WrPost (s : Scr) (w : World) (e : Ending) (w' : World) : Prop :=
  Ext w w' ∧ ((errF s ≠ 0 ∧ e = .returned (.tuple #[.string (St []), .int .i64 (errF s)])) ∨ (errF s = 0 ∧ e = .returned (.tuple #[.string (St (Pl.planT s)), .int .i64 0])))

theorem drop_spec (l : List Spc) (i : Nat) (h : i < l.length) (R : List UInt8) : (l.drop i).flatMap Pl.specT ++ R = Pl.specT (nthD spc0 l i) ++ ((l.drop (i + 1)).flatMap Pl.specT ++ R) := by
  rw [dropD_cons spc0 l i h, List.flatMap_cons, List.append_assoc]
theorem drop_call (l : List Cll) (i : Nat) (h : i < l.length) (R : List UInt8) : (l.drop i).flatMap Pl.callT ++ R = Pl.callT (nthD cll0 l i) ++ ((l.drop (i + 1)).flatMap Pl.callT ++ R) := by
  rw [dropD_cons cll0 l i h, List.flatMap_cons, List.append_assoc]
theorem text_le {P T R : List UInt8} (h : P = T ++ R) (hp : P.length ≤ 10000000) : T.length ≤ 10000000 := by
  have := congrArg List.length h
  rw [List.length_append] at this; omega

set_option maxRecDepth 100000 in
set_option maxHeartbeats 4000000 in
theorem pwrite_any (s : Scr) (m : Lies) (w : World) (hf : Fits s) (hwd : s.wide) (hm : LiesAt s m w) (hpc : s.picks.length ≤ m.pc) :
    Calls Tryd.prog 8 #[.agg #[.int .i64 s.n, .slice m.sa s.specs.length m.sc, .slice m.ca s.calls.length m.cc, .slice m.pa s.picks.length m.pc]] w (WrPost s w) := by
  have hx0 := (Ext.refl w).alloc (.cells #[.int .i64 s.n, .slice m.sa s.specs.length m.sc, .slice m.ca s.calls.length m.cc, .slice m.pa s.picks.length m.pc] 26)
  have hb0 := Blk.new w #[.int .i64 s.n, .slice m.sa s.specs.length m.sc, .slice m.ca s.calls.length m.cc, .slice m.pa s.picks.length m.pc] 26
  have HENC := Lib.hid (encode_any s m (w.alloc (.cells #[.int .i64 s.n, .slice m.sa s.specs.length m.sc, .slice m.ca s.calls.length m.cc, .slice m.pa s.picks.length m.pc] 26)) hf hwd (hm.ext hx0))
  have HM := Lib.hid (hm.ext hx0)
  obtain ⟨⟨fn1, fn2⟩, fsl, fcl, fpl⟩ := hf
  have HWD := Lib.hid hwd
  clear hm hwd
  obtain ⟨sa, sc, ca, cc, pa, pc⟩ := m
  simp only at hx0 hb0 HENC hpc
  go_enter Tryd.func8, Tryd.ntmps8
  go_upto_region 1 with (fail)
  generalize w.alloc (.cells #[.int .i64 s.n, .slice sa s.specs.length sc, .slice ca s.calls.length cc, .slice pa s.picks.length pc] 26) = W0 at *
  have q0 := hb0.cell 0 (v := .int .i64 s.n) rfl
  have q1 := hb0.cell 1 (v := .slice sa s.specs.length sc) rfl
  have q2 := hb0.cell 2 (v := .slice ca s.calls.length cc) rfl
  have q3 := hb0.cell 3 (v := .slice pa s.picks.length pc) rfl
  have HB0 := Lib.hid hb0
  have HX0 := Lib.hid hx0
  clear hb0 hx0
  go_wp2_with fail
  refine HENC.out.mono ?_
  rintro e w1 ⟨hx1, ⟨he, rfl⟩ | ⟨he, a, cap, rfl, -, -⟩⟩
  · have HX1 := Lib.hid (HX0.out.trans hx1)
    have HE := Lib.hid he
    have he1 : (errF s != 0) = true := by simpa using he
    clear he hx1 HENC q0 q1 q2 q3
    go_wp2_with fail
    go_ret2
    exact ⟨HX1.out, .inl ⟨HE.out, rfl⟩⟩
  · have hok := (errF_zero s).1 he
    have HE := Lib.hid he
    have HOK := Lib.hid hok
    have HX1 := Lib.hid (HX0.out.trans hx1)
    have HM1 := Lib.hid (HM.out.ext hx1)
    have HB1 := Lib.hid (HB0.out.ext hx1)
    have HTL := Lib.hid (planT_len hok)
    obtain ⟨⟨n1, n2⟩, k1, k2, k3, -, -, -⟩ := hok
    have HT0 : Hid (Pl.planT s = Pl.lineT Pl.wT [s.n] ++ (s.specs.flatMap Pl.specT ++ (s.calls.flatMap Pl.callT ++ Pl.picksT s.picks.length s.picks))) := Lib.hid rfl
    have hs1 : w.heap.size < w1.heap.size := HB1.out.lt
    clear he hx1 HENC q0 q1 q2 q3 HB0 HX0 HM fsl fcl fpl fn1 fn2
    have q0 := HB1.out.cell 0 (v := .int .i64 s.n) rfl
    go_wp2_with fail
    have hbd := Bd.new w1.heap.size w1 (Nat.le_refl _)
    have hbw : Below w1.heap.size w1 (w1.alloc (.cells #[.pointer none, .slice none 0 0] 52)) := (Ext.refl _).alloc _
    have HBD := Lib.hid hbd
    have HBW := Lib.hid hbw
    clear hbd hbw
    have hin := ints_fresh .u64 (w1.alloc (.cells #[.pointer none, .slice none 0 0] 52)) [s.n] #[.int .u64 s.n] rfl 47 (w1.heap.size + 1) (by simp)
    have HIN := Lib.hid hin
    clear hin
    refine (line_any Pl.wT [s.n] _ _ _ HIN.out (by intro x hx; simp only [List.mem_singleton] at hx; omega) (by simp) (by decide)).mono ?_
    rintro e w2 ⟨rfl, rfl⟩
    clear HIN
    have HBD2 := Lib.hid (HBD.out.ext ((Ext.refl _).alloc (.cells #[.int .u64 s.n] 47)))
    have HBW2 : Hid (Below w1.heap.size w1 ((w1.alloc (.cells #[.pointer none, .slice none 0 0] 52)).alloc (.cells #[.int .u64 s.n] 47))) := Lib.hid (Ext.alloc HBW.out _)
    clear HBD HBW
    generalize (w1.alloc (.cells #[.pointer none, .slice none 0 0] 52)).alloc (.cells #[.int .u64 s.n] 47) = w2 at *
    have ht0 := text_le HT0.out HTL.out
    generalize Pl.lineT Pl.wT [s.n] = T0 at *
    have hsz2 := HBW2.out.size
    go_wp2_with fail
    refine (write_any w1.heap.size w1.heap.size [] T0 _ HBD2.out (by simp) (by omega) hsz2).mono ?_
    rintro e w3 ⟨rfl, hbd, hbw, -⟩
    rw [List.nil_append] at hbd
    have HBD3 := Lib.hid hbd
    have HBW3 := Lib.hid (Below.trans HBW2.out hbw)
    clear hbd hbw HBD2 HBW2 hsz2 ht0 q0
    have hB1 : Hid (w.heap.size < w1.heap.size) := Lib.hid hs1
    clear hs1
    generalize hBe : w1.heap.size = B1 at *
    have HBE := Lib.hid hBe
    clear hBe
    have q1 := (HB1.out.below HBW3.out hB1.out).cell 1 (v := .slice sa s.specs.length sc) rfl
    go_wp2_with fail
    go_loopw [32] (fun v wr => ∃ (i : Nat) (T : List UInt8), i ≤ s.specs.length ∧ v = .int .i64 (i : Int) ∧ Hid (Bd B1 B1 T wr) ∧ Hid (Below B1 w1 wr) ∧ Hid (Pl.planT s = T ++ ((s.specs.drop i).flatMap Pl.specT ++ (s.calls.flatMap Pl.callT ++ Pl.picksT s.picks.length s.picks)))) (fun v _ => s.specs.length - (intOf v).toNat)
    case atStart => exact ⟨0, T0, Nat.zero_le _, rfl, HBD3, HBW3, HT0⟩
    case round =>
      clear HBD3 HBW3 HT0 q1
      obtain ⟨i, T, hi, rfl, HBD, HBW, HT⟩ := hrel
      by_cases hlt : i < s.specs.length
      · have hxi : Ext w1 wr := by unfold Ext; rw [HBE.out]; exact HBW.out
        obtain ⟨b, off, rfl, e0, e1, e2⟩ := (HM1.out.specs.ext hxi).at hlt
        have q1 := (HB1.out.below HBW.out hB1.out).cell 1 (v := .slice (some ⟨b, off, none⟩) s.specs.length sc) rfl
        have HD := Lib.hid (drop_spec s.specs i hlt (s.calls.flatMap Pl.callT ++ Pl.picksT s.picks.length s.picks))
        have hxok := HOK.out.2.2.2.2.1 _ (nthD_mem spc0 s.specs i hlt)
        generalize nthD spc0 s.specs i = x at *
        obtain ⟨x0, x1, x2⟩ := x
        obtain ⟨⟨g0, g1⟩, ⟨g2, g3⟩, ⟨g4, g5⟩⟩ := hxok
        simp only at e0 e1 e2 g0 g1 g2 g3 g4 g5
        have HT2 : Hid (Pl.planT s = (T ++ Pl.specT ⟨x0, x1, x2⟩) ++ ((s.specs.drop (i + 1)).flatMap Pl.specT ++ (s.calls.flatMap Pl.callT ++ Pl.picksT s.picks.length s.picks))) := Lib.hid (by rw [HT.out, HD.out, List.append_assoc])
        have hT1 := text_le HT.out HTL.out
        have hT2 := text_le HT2.out HTL.out
        rw [List.length_append] at hT2
        have hsz := HBW.out.size
        have HX := Lib.hid hxi
        clear hxi HD HT
        go_wp2_with fail
        have HIN := Lib.hid (ints_fresh .u64 (wr.alloc (.cells #[.int .i64 x0, .int .i64 x1, .int .i64 x2] 59)) [x0, x1, x2] #[.int .u64 x0, .int .u64 x1, .int .u64 x2] rfl 47 (wr.heap.size + 1) (by simp))
        refine (line_any Pl.wO [x0, x1, x2] _ _ _ HIN.out (by intro y hy; simp only [List.mem_cons, List.mem_nil_iff, or_false] at hy; rcases hy with rfl | rfl | rfl <;> omega) (by simp) (by decide)).mono ?_
        rintro e w4 ⟨rfl, rfl⟩
        clear HIN
        have HBD4 := Lib.hid ((HBD.out.ext ((Ext.refl _).alloc (.cells #[.int .i64 x0, .int .i64 x1, .int .i64 x2] 59))).ext ((Ext.refl _).alloc (.cells #[.int .u64 x0, .int .u64 x1, .int .u64 x2] 47)))
        have HBW4 : Hid (Below B1 w1 ((wr.alloc (.cells #[.int .i64 x0, .int .i64 x1, .int .i64 x2] 59)).alloc (.cells #[.int .u64 x0, .int .u64 x1, .int .u64 x2] 47))) := Lib.hid (by have := (HX.out.alloc (.cells #[.int .i64 x0, .int .i64 x1, .int .i64 x2] 59)).alloc (.cells #[.int .u64 x0, .int .u64 x1, .int .u64 x2] 47); unfold Ext at this; rw [HBE.out] at this; exact this)
        have hsz4 : B1 ≤ ((wr.alloc (.cells #[.int .i64 x0, .int .i64 x1, .int .i64 x2] 59)).alloc (.cells #[.int .u64 x0, .int .u64 x1, .int .u64 x2] 47)).heap.size := by have := HBE.out; simp; omega
        clear HBD HBW HX e0 e1 e2 q1
        generalize (wr.alloc (.cells #[.int .i64 x0, .int .i64 x1, .int .i64 x2] 59)).alloc (.cells #[.int .u64 x0, .int .u64 x1, .int .u64 x2] 47) = w4 at *
        have HSP : Hid (Pl.specT ⟨x0, x1, x2⟩ = Pl.lineT Pl.wO [x0, x1, x2]) := Lib.hid rfl
        rw [HSP.out] at HT2 hT2
        generalize Pl.lineT Pl.wO [x0, x1, x2] = L at *
        clear HSP
        go_wp2_with fail
        refine (write_any B1 B1 T L _ HBD4.out (by omega) (by omega) hsz4).mono ?_
        rintro e w5 ⟨rfl, hbd, hbw, -⟩
        have HBD5 := Lib.hid hbd
        have HBW5 := Lib.hid (Below.trans HBW4.out hbw)
        clear hbd hbw HBD4 HBW4 hsz4
        go_wp2_with fail
        go_roundw
        case rel => exact ⟨i + 1, T ++ L, by omega, by go_num, HBD5, HBW5, HT2⟩
        case measure => simp [intOf]; omega
      · obtain rfl : i = s.specs.length := by omega
        rw [List.drop_length, List.flatMap_nil, List.nil_append] at HT
        have q2 := (HB1.out.below HBW.out hB1.out).cell 2 (v := .slice ca s.calls.length cc) rfl
        go_wp2_with fail
        obtain ⟨wo, rfl⟩ : ∃ wo : World, wo = wr := ⟨_, rfl⟩
        go_loopw [52] (fun v wr => ∃ (i : Nat) (T : List UInt8), i ≤ s.calls.length ∧ v = .int .i64 (i : Int) ∧ Hid (Bd B1 B1 T wr) ∧ Hid (Below B1 w1 wr) ∧ Hid (Pl.planT s = T ++ ((s.calls.drop i).flatMap Pl.callT ++ Pl.picksT s.picks.length s.picks))) (fun v _ => s.calls.length - (intOf v).toNat)
        case atStart => exact ⟨0, T, Nat.zero_le _, rfl, HBD, HBW, HT⟩
        case round =>
          clear HBD HBW HT q2 hi
          obtain ⟨i, T, hi, rfl, HBD, HBW, HT⟩ := hrel
          by_cases hlt : i < s.calls.length
          · have hxi : Ext w1 wr := by unfold Ext; rw [HBE.out]; exact HBW.out
            obtain ⟨b, off, rfl, e0, e1, e2, e3, e4, e5⟩ := (HM1.out.calls.ext hxi).at hlt
            have q1 := (HB1.out.below HBW.out hB1.out).cell 2 (v := .slice (some ⟨b, off, none⟩) s.calls.length cc) rfl
            have HD := Lib.hid (drop_call s.calls i hlt (Pl.picksT s.picks.length s.picks))
            have hxok := HOK.out.2.2.2.2.2.1 _ (nthD_mem cll0 s.calls i hlt)
            have hxw := HWD.out _ (nthD_mem cll0 s.calls i hlt)
            generalize nthD cll0 s.calls i = x at *
            obtain ⟨x0, x1, x2, x3, x4, x5⟩ := x
            obtain ⟨⟨g0, g1⟩, ⟨g2, g3⟩, ⟨g4, g5⟩⟩ := hxok
            obtain ⟨⟨g6, g7⟩, ⟨g8, g9⟩, ⟨g10, g11⟩⟩ := hxw
            simp only at e0 e1 e2 e3 e4 e5 g0 g1 g2 g3 g4 g5 g6 g7 g8 g9 g10 g11
            have HT2 : Hid (Pl.planT s = (T ++ Pl.callT ⟨x0, x1, x2, x3, x4, x5⟩) ++ ((s.calls.drop (i + 1)).flatMap Pl.callT ++ Pl.picksT s.picks.length s.picks)) := Lib.hid (by rw [HT.out, HD.out, List.append_assoc])
            have hT1 := text_le HT.out HTL.out
            have hT2 := text_le HT2.out HTL.out
            rw [List.length_append] at hT2
            have hsz := HBW.out.size
            have HX := Lib.hid hxi
            clear hxi HD HT
            go_wp2_with fail
            have HIN := Lib.hid (ints_fresh .u64 (wr.alloc (.cells #[.int .i64 x0, .int .i64 x1, .int .i64 x2, .int .u64 x3, .int .u64 x4, .int .u64 x5] 49)) [x0, x1, x2, x3, x4, x5] #[.int .u64 x0, .int .u64 x1, .int .u64 x2, .int .u64 x3, .int .u64 x4, .int .u64 x5] rfl 47 (wr.heap.size + 1) (by simp))
            refine (line_any Pl.wC [x0, x1, x2, x3, x4, x5] _ _ _ HIN.out (by intro y hy; simp only [List.mem_cons, List.mem_nil_iff, or_false] at hy; rcases hy with rfl | rfl | rfl | rfl | rfl | rfl <;> omega) (by simp) (by decide)).mono ?_
            rintro e w4 ⟨rfl, rfl⟩
            clear HIN
            have HBD4 := Lib.hid ((HBD.out.ext ((Ext.refl _).alloc (.cells #[.int .i64 x0, .int .i64 x1, .int .i64 x2, .int .u64 x3, .int .u64 x4, .int .u64 x5] 49))).ext ((Ext.refl _).alloc (.cells #[.int .u64 x0, .int .u64 x1, .int .u64 x2, .int .u64 x3, .int .u64 x4, .int .u64 x5] 47)))
            have HBW4 : Hid (Below B1 w1 ((wr.alloc (.cells #[.int .i64 x0, .int .i64 x1, .int .i64 x2, .int .u64 x3, .int .u64 x4, .int .u64 x5] 49)).alloc (.cells #[.int .u64 x0, .int .u64 x1, .int .u64 x2, .int .u64 x3, .int .u64 x4, .int .u64 x5] 47))) := Lib.hid (by have := (HX.out.alloc (.cells #[.int .i64 x0, .int .i64 x1, .int .i64 x2, .int .u64 x3, .int .u64 x4, .int .u64 x5] 49)).alloc (.cells #[.int .u64 x0, .int .u64 x1, .int .u64 x2, .int .u64 x3, .int .u64 x4, .int .u64 x5] 47); unfold Ext at this; rw [HBE.out] at this; exact this)
            have hsz4 : B1 ≤ ((wr.alloc (.cells #[.int .i64 x0, .int .i64 x1, .int .i64 x2, .int .u64 x3, .int .u64 x4, .int .u64 x5] 49)).alloc (.cells #[.int .u64 x0, .int .u64 x1, .int .u64 x2, .int .u64 x3, .int .u64 x4, .int .u64 x5] 47)).heap.size := by have := HBE.out; simp; omega
            clear HBD HBW HX e0 e1 e2 e3 e4 e5 q1
            generalize (wr.alloc (.cells #[.int .i64 x0, .int .i64 x1, .int .i64 x2, .int .u64 x3, .int .u64 x4, .int .u64 x5] 49)).alloc (.cells #[.int .u64 x0, .int .u64 x1, .int .u64 x2, .int .u64 x3, .int .u64 x4, .int .u64 x5] 47) = w4 at *
            have HSP : Hid (Pl.callT ⟨x0, x1, x2, x3, x4, x5⟩ = Pl.lineT Pl.wC [x0, x1, x2, x3, x4, x5]) := Lib.hid rfl
            rw [HSP.out] at HT2 hT2
            generalize Pl.lineT Pl.wC [x0, x1, x2, x3, x4, x5] = L at *
            clear HSP
            go_wp2_with fail
            refine (write_any B1 B1 T L _ HBD4.out (by omega) (by omega) hsz4).mono ?_
            rintro e w5 ⟨rfl, hbd, hbw, -⟩
            have HBD5 := Lib.hid hbd
            have HBW5 := Lib.hid (Below.trans HBW4.out hbw)
            clear hbd hbw HBD4 HBW4 hsz4
            go_wp2_with fail
            go_roundw
            case rel => exact ⟨i + 1, T ++ L, by omega, by go_num, HBD5, HBW5, HT2⟩
            case measure => simp [intOf]; omega
          · obtain rfl : i = s.calls.length := by omega
            rw [List.drop_length, List.flatMap_nil, List.nil_append] at HT
            go_wp2_with fail
            obtain ⟨wo, rfl⟩ : ∃ wo : World, wo = wr := ⟨_, rfl⟩
            go_loopw [11] (fun v wr => ∃ (fr : Nat) (T : List UInt8), fr ≤ s.picks.length + 16 ∧ v = .int .i64 (fr : Int) ∧ Hid (Bd B1 B1 T wr) ∧ Hid (Below B1 w1 wr) ∧ Hid (Pl.planT s = T ++ Pl.picksT s.picks.length (s.picks.drop fr))) (fun v _ => s.picks.length + 16 - (intOf v).toNat)
            case atStart => exact ⟨0, T, Nat.zero_le _, rfl, HBD, HBW, HT⟩
            case round =>
              clear HBD HBW HT hi
              obtain ⟨fr, T, hfr, rfl, HBD, HBW, HT⟩ := hrel
              have q3 := (HB1.out.below HBW.out hB1.out).cell 3 (v := .slice pa s.picks.length pc) rfl
              by_cases hlt : fr < s.picks.length
              · have hxi : Ext w1 wr := by unfold Ext; rw [HBE.out]; exact HBW.out
                obtain ⟨b, off, rfl, -⟩ := (HM1.out.picks.ext hxi).at hlt
                have HX := Lib.hid hxi
                clear hxi
                have hne : s.picks.drop fr ≠ [] := fun h => by have := List.drop_eq_nil_iff.1 h; omega
                have HPS := Lib.hid (picksT_step (f := s.picks.length) hne (by rw [List.length_drop]; omega))
                clear hne
                obtain ⟨K, hK, hK1, hK2⟩ : ∃ K : Nat, ((min ((fr : Int) + 16) (s.picks.length : Int)).toNat - fr) = K ∧ K ≤ 16 ∧ fr + K ≤ s.picks.length := ⟨_, rfl, by omega, by omega⟩
                have HKE : Hid ((s.picks.drop fr).take 16 = (s.picks.drop fr).take K) := Lib.hid (by
                  by_cases h16 : fr + 16 ≤ s.picks.length
                  · rw [show K = 16 by omega]
                  · rw [List.take_of_length_le (by rw [List.length_drop]; omega), List.take_of_length_le (by rw [List.length_drop]; omega)])
                have HK := Lib.hid hK
                clear hK
                go_wp2_with fail
                simp only [HK.out]
                have hpc : ∀ k, k < K → wr.cell? ⟨b, off + fr + k, none⟩ = some (.int .i64 (nth (s.picks.drop fr) k)) := fun k hk => by
                  obtain ⟨b', off', e1, e2⟩ := (HM1.out.picks.ext HX.out).at (i := fr + k) (by omega)
                  simp only [Option.some.injEq, Addr.mk.injEq, and_true] at e1
                  obtain ⟨rfl, rfl⟩ := e1
                  rw [Nat.add_assoc, e2]
                  simp [nth, List.getElem?_drop]
                have hpb : ∀ k, k < K → 0 ≤ nth (s.picks.drop fr) k ∧ nth (s.picks.drop fr) k ≤ 255 := fun k hk =>
                  HOK.out.2.2.2.2.2.2 _ (List.mem_of_mem_drop (nth_mem (s.picks.drop fr) k (by rw [List.length_drop]; omega)))
                have HPC := Lib.hid hpc
                have HPB := Lib.hid hpb
                have HDL : Hid (fr + K ≤ s.picks.length ∧ (s.picks.drop fr).length = s.picks.length - fr) := Lib.hid ⟨hK2, by rw [List.length_drop]⟩
                clear hpc hpb q3
                obtain ⟨wo, rfl⟩ : ∃ wo : World, wo = wr := ⟨_, rfl⟩
                go_loopw [12, 93] (fun u v wr => ∃ k : Nat, k ≤ K ∧ v = .int .i64 (k : Int) ∧ Hid (Ext wo wr) ∧ Hid (wr.ownsRow wo.heap.size 47 1 u k (((s.picks.drop fr).take k).map (Value.int .u64)))) (fun _ v _ => K - (intOf v).toNat)
                case atStart => exact ⟨0, Nat.zero_le _, rfl, Lib.hid (Ext.refl _), Lib.hid (World.ownsRow_nil _ _ _ _)⟩
                case round =>
                  obtain ⟨k, hk, rfl, HXK, HO⟩ := hrel
                  obtain ⟨va, vc, rfl, -⟩ := own_slice HO.out
                  by_cases hkl : k < K
                  · have e1 := HXK.out.cell (HPC.out k hkl)
                    obtain ⟨x0, x1⟩ := HPB.out k hkl
                    have HS := Lib.hid (take_snoc (s.picks.drop fr) k (by have := HDL.out; omega))
                    generalize nth (s.picks.drop fr) k = x at *
                    go_wp2_with (at_builtin; refine wpList_app1 rfl (.tmp 97) (.tmp 100) 60 rfl wo.heap.size 47 _ 8 Tryd.underlying60 Tryd.infoU64 rfl _ _ _ (.int .u64 x) _ rfl (own_ext HO.out ((Ext.refl _).alloc _)) rfl ?_ rfl ?_ ?_ ?_ ?_; rotate_right; intro v' w3 ho3 hg3 hb3)
                    any_goals (first | (rw [World.cell?_alloc_at _ _ _ _ (by simp)]; rfl) | (unfold maxLen; omega) | omega | (have := HXK.out.size; simp; omega))
                    go_roundw
                    case rel => exact ⟨k + 1, by omega, by go_num, Lib.hid (Below.trans (HXK.out.alloc _) hb3), Lib.hid (by rw [HS.out, List.map_append]; exact ho3)⟩
                    case measure => simp [intOf]; omega
                  · obtain rfl : k = K := by omega
                    have htl : ((s.picks.drop fr).take k).length = k := by have := HDL.out; rw [List.length_take]; omega
                    obtain ⟨a', c', e1, -, -, hin, -⟩ := IsInts.ownK (xs := (s.picks.drop fr).take k) HO.out
                    simp only [Value.slice.injEq] at e1
                    obtain ⟨rfl, -, rfl⟩ := e1
                    have hgl : ∀ x ∈ (s.picks.drop fr).take k, 0 ≤ x ∧ x ≤ 18446744073709551615 := fun x hx => by
                      have := HOK.out.2.2.2.2.2.2 _ (List.mem_of_mem_drop (List.mem_of_mem_take hx))
                      unfold byteOk at this; omega
                    have HLN := Lib.hid (line_any Pl.wP ((s.picks.drop fr).take k) va vc wr hin hgl (by rw [htl]; omega) (by decide))
                    rw [htl] at HLN
                    have HT2 : Hid (Pl.planT s = (T ++ Pl.lineT Pl.wP ((s.picks.drop fr).take k)) ++ Pl.picksT s.picks.length (s.picks.drop (fr + 16))) := Lib.hid (by rw [HT.out, HPS.out, HKE.out, List.drop_drop, List.append_assoc])
                    have hT1 := text_le HT.out HTL.out
                    have hT2 := text_le HT2.out HTL.out
                    rw [List.length_append] at hT2
                    have HBDk := Lib.hid (HBD.out.ext HXK.out)
                    have HBWk : Hid (Below B1 w1 wr) := Lib.hid (Below.trans HBW.out (HXK.out.mono (by have := HBE.out; have := HBW.out.size; omega)))
                    have hszk : B1 ≤ wr.heap.size := by have := HBE.out; have := HBWk.out.size; omega
                    clear htl hin hgl HPC HPB HXK HO HT HPS HKE
                    generalize Pl.lineT Pl.wP ((s.picks.drop fr).take k) = L at *
                    go_wp2_with fail
                    refine HLN.out.mono ?_
                    rintro e w4 ⟨rfl, rfl⟩
                    go_wp2_with fail
                    refine (write_any B1 B1 T L _ HBDk.out (by omega) (by omega) hszk).mono ?_
                    rintro e w5 ⟨rfl, hbd, hbw, -⟩
                    have HBD5 := Lib.hid hbd
                    have HBW5 := Lib.hid (Below.trans HBWk.out hbw)
                    clear hbd hbw HBDk HBWk hszk HLN
                    go_wp2_with fail
                    go_roundw
                    case rel => exact ⟨fr + 16, T ++ L, by omega, by go_num, HBD5, HBW5, HT2⟩
                    case measure => simp [intOf]; omega
              · have HE2 : Hid (Pl.planT s = T) := Lib.hid (by rw [HT.out, List.drop_of_length_le (by omega), Pl.picksT_nil, List.append_nil])
                go_wp2_with fail
                have hsz := HBW.out.size
                refine (told_any B1 B1 T _ HBD.out (by have := HBE.out; omega)).mono ?_
                rintro e w5 ⟨rfl, hbw⟩
                have HBW5 := Lib.hid (Below.trans HBW.out hbw)
                have HX5 : Hid (Ext w w5) := Lib.hid (HX1.out.trans (by unfold Ext; rw [HBE.out]; exact HBW5.out))
                go_wp2_with fail
                go_ret2
                exact ⟨HX5.out, .inr ⟨HE.out, by rw [HE2.out]; rfl⟩⟩

end Go.Proofs.YtcfbcffmlinlaaaDoor
