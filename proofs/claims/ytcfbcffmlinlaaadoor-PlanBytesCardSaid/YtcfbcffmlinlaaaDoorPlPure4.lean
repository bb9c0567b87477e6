/-
  A plan that is written is read as it was; no program in sight.
-/
import Derived.Test.YtcfbcffmlinlaaaDoorPlPure3
namespace Go.Proofs.YtcfbcffmlinlaaaDoor
namespace Pl

theorem good_of {l : List Int} (h : ∀ x ∈ l, 0 ≤ x ∧ x ≤ 18446744073709551615) : good l := h

theorem run_specs : ∀ (ss : List Spc) (f : Nat) (k : Int) (r : St) (rest : List UInt8), r.part = 1 → (∀ x ∈ ss, x.ok) → r.s.specs.length + ss.length ≤ 8 →
    runR (f + ss.length) r k (ss.flatMap specT ++ rest) = runR f ⟨⟨r.s.n, r.s.specs ++ ss, r.s.calls, r.s.picks⟩, 1, r.last⟩ (k + ss.length) rest
  | [], f, k, r, rest, hp, _, _ => by
    obtain ⟨⟨n, sp, ca, pi⟩, part, last⟩ := r
    simp only at hp
    subst hp
    simp
  | x :: ss, f, k, r, rest, hp, hok, hl => by
    obtain ⟨⟨a1, a2⟩, ⟨b1, b2⟩, ⟨c1, c2⟩⟩ := hok x (List.mem_cons_self ..)
    rw [List.length_cons] at hl
    have ht : takeL r wO [x.kind, x.p, x.q] = (0, ⟨⟨r.s.n, r.s.specs ++ [x], r.s.calls, r.s.picks⟩, 1, r.last⟩) := by
      unfold takeL
      rw [if_neg (by simp [hp]), if_pos ⟨rfl, hp, rfl⟩, if_neg (by simp [nth]; omega), if_neg (by omega)]
      rfl
    rw [List.flatMap_cons, List.append_assoc, List.length_cons, ← Nat.add_assoc]
    show runR (f + ss.length + 1) r k (lineT wO [x.kind, x.p, x.q] ++ (ss.flatMap specT ++ rest)) = _
    rw [runR_line (f + ss.length) k _ (by decide) (by decide) (good_of (by intro y hy; simp at hy; omega)) ht]
    rw [run_specs ss f (k + 1) _ rest rfl (fun y hy => hok y (List.mem_cons_of_mem _ hy)) (by simp; omega)]
    simp only [List.append_assoc, List.singleton_append]
    congr 1
    push_cast
    omega

theorem run_calls : ∀ (cs : List Cll) (f : Nat) (k : Int) (r : St) (rest : List UInt8), (r.part = 1 ∨ r.part = 2) → (∀ c ∈ cs, c.ok r.s.n) → (∀ c ∈ cs, c.wide) → r.s.n ≤ 16 → r.s.calls.length + cs.length ≤ 1000 →
    ∃ p : Int, (p = 1 ∨ p = 2) ∧ runR (f + cs.length) r k (cs.flatMap callT ++ rest) = runR f ⟨⟨r.s.n, r.s.specs, r.s.calls ++ cs, r.s.picks⟩, p, r.last⟩ (k + cs.length) rest
  | [], f, k, r, rest, hp, _, _, _, _ => by
    obtain ⟨⟨n, sp, ca, pi⟩, part, last⟩ := r
    exact ⟨part, hp, by simp⟩
  | c :: cs, f, k, r, rest, hp, hok, hw, hn, hl => by
    obtain ⟨⟨a1, a2⟩, ⟨b1, b2⟩, ⟨c1, c2⟩⟩ := hok c (List.mem_cons_self ..)
    obtain ⟨⟨d1, d2⟩, ⟨e1, e2⟩, ⟨f1, f2⟩⟩ := hw c (List.mem_cons_self ..)
    rw [List.length_cons] at hl
    have ht : takeL r wC [c.thread, c.obj, c.kind, c.a, c.b, c.c] = (0, ⟨⟨r.s.n, r.s.specs, r.s.calls ++ [c], r.s.picks⟩, 2, r.last⟩) := by
      unfold takeL
      rw [if_neg (by simp [wC, wT]), if_neg (by simp [wC, wO]), if_pos ⟨rfl, hp, rfl⟩, if_neg (by simp [nth]; omega), if_neg (by omega)]
      rfl
    obtain ⟨p, hp2, ih⟩ := run_calls cs f (k + 1) ⟨⟨r.s.n, r.s.specs, r.s.calls ++ [c], r.s.picks⟩, 2, r.last⟩ rest (.inr rfl) (fun y hy => hok y (List.mem_cons_of_mem _ hy)) (fun y hy => hw y (List.mem_cons_of_mem _ hy)) hn (by simp; omega)
    refine ⟨p, hp2, ?_⟩
    rw [List.flatMap_cons, List.append_assoc, List.length_cons, ← Nat.add_assoc]
    show runR (f + cs.length + 1) r k (lineT wC [c.thread, c.obj, c.kind, c.a, c.b, c.c] ++ (cs.flatMap callT ++ rest)) = _
    rw [runR_line (f + cs.length) k _ (by decide) (by decide) (good_of (by intro y hy; simp at hy; omega)) ht, ih]
    simp only [List.append_assoc, List.singleton_append]
    congr 1
    push_cast
    omega

theorem run_picks (F : Nat) : ∀ (l : List Int) (f : Nat) (k : Int) (r : St), F ≤ f → l.length ≤ F → 0 < r.part → r.last = false → (∀ x ∈ l, byteOk x) → r.s.picks.length + l.length ≤ 65536 →
    ∃ r' : St, runR f r k (picksT F l) = (0, 0, r') ∧ r'.s = ⟨r.s.n, r.s.specs, r.s.calls, r.s.picks ++ l⟩ := by
  induction F with
  | zero =>
    intro l f k r hf hl hp hla hb hlen
    have : l = [] := List.length_eq_zero_iff.1 (by omega)
    subst this
    exact ⟨r, rfl, by simp⟩
  | succ F ih =>
    intro l f k r hf hl hp hla hb hlen
    by_cases h0 : l = []
    · subst h0
      rw [picksT_nil]
      exact ⟨r, rfl, by simp⟩
    · have hpos := List.length_pos_iff.2 h0
      obtain ⟨f', rfl⟩ : ∃ f', f = f' + 1 := ⟨f - 1, by omega⟩
      have htl : (l.take 16).length ≤ 16 := by rw [List.length_take]; omega
      have htl1 : 1 ≤ (l.take 16).length := by rw [List.length_take]; omega
      have htl2 : (l.take 16).length ≤ l.length := by rw [List.length_take]; omega
      have hbt : ∀ x ∈ l.take 16, byteOk x := fun x hx => hb x (List.take_subset _ _ hx)
      have ht : takeL r wP (l.take 16) = (0, ⟨⟨r.s.n, r.s.specs, r.s.calls, r.s.picks ++ l.take 16⟩, 3, decide ((l.take 16).length < 16)⟩) := by
        unfold takeL
        rw [if_neg (by simp [wP, wT]), if_neg (by simp [wP, wO]), if_neg (by simp [wP, wC]), if_pos ⟨rfl, hp, hla, htl1, htl⟩, if_neg, if_neg (by omega)]
        intro hany
        obtain ⟨x, hx, h255⟩ := List.any_eq_true.1 hany
        have := (hbt x hx).2
        simp at h255; omega
      have e : picksT (F + 1) l = lineT wP (l.take 16) ++ picksT F (l.drop 16) := by
        show (if l = [] then [] else lineT wP (l.take 16) ++ picksT F (l.drop 16)) = _
        rw [if_neg h0]
      rw [e, runR_line f' k _ (by decide) (by decide) (good_of (fun x hx => by have := hbt x hx; unfold byteOk at this; omega)) ht]
      by_cases h16 : l.length ≤ 16
      · rw [List.drop_of_length_le h16, picksT_nil, List.take_of_length_le h16]
        exact ⟨_, rfl, rfl⟩
      · have hd : decide ((l.take 16).length < 16) = false := decide_eq_false (by rw [List.length_take]; omega)
        rw [hd]
        obtain ⟨r', h1, h2⟩ := ih (l.drop 16) f' (k + 1) ⟨⟨r.s.n, r.s.specs, r.s.calls, r.s.picks ++ l.take 16⟩, 3, false⟩ (by omega) (by rw [List.length_drop]; omega) (by show (0 : Int) < 3; decide) rfl (fun x hx => hb x (List.drop_subset _ _ hx)) (by
          show (r.s.picks ++ l.take 16).length + (l.drop 16).length ≤ 65536
          rw [List.length_append, List.length_take, List.length_drop]; omega)
        refine ⟨r', h1, ?_⟩
        rw [h2]
        show (⟨r.s.n, r.s.specs, r.s.calls, (r.s.picks ++ l.take 16) ++ l.drop 16⟩ : Scr) = _
        rw [List.append_assoc, List.take_append_drop]

theorem lineT_len (w : List UInt8) (l : List Int) : l.length + 1 ≤ (lineT w l).length := by
  have : ∀ l : List Int, l.length ≤ (numsT l).length := by
    intro l
    induction l with
    | nil => simp
    | cons x l ih => rw [numsT_cons]; simp; omega
  have h := this l
  unfold lineT
  simp; omega
theorem flat_len {α : Type} (g : α → List UInt8) (hg : ∀ x, 1 ≤ (g x).length) : ∀ l : List α, l.length ≤ (l.flatMap g).length
  | [] => by simp
  | x :: l => by
    have := flat_len g hg l
    have := hg x
    rw [List.flatMap_cons, List.length_append, List.length_cons]; omega
theorem picksT_len (F : Nat) : ∀ l : List Int, l.length ≤ F → l.length ≤ (picksT F l).length := by
  induction F with
  | zero => intro l h; omega
  | succ F ih =>
    intro l h
    by_cases h0 : l = []
    · subst h0; simp
    · show l.length ≤ (if l = [] then [] else lineT wP (l.take 16) ++ picksT F (l.drop 16)).length
      rw [if_neg h0, List.length_append]
      have h1 := lineT_len wP (l.take 16)
      have hpos := List.length_pos_iff.2 h0
      have h2 := ih (l.drop 16) (by rw [List.length_drop]; omega)
      rw [List.length_take] at h1
      rw [List.length_drop] at h2
      omega

/-- What is written is read as it was. -/
theorem read_plan (s : Scr) (hok : s.ok) (hw : s.wide) : ∃ r : St, readP (planT s) = (0, 0, r) ∧ r.s = s := by
  obtain ⟨⟨n1, n2⟩, h1, h2, h3, h4, h5, h6⟩ := hok
  obtain ⟨n, sp, ca, pi⟩ := s
  simp only at n1 n2 h1 h2 h3 h4 h5 h6
  have hne : planT ⟨n, sp, ca, pi⟩ ≠ [] := by unfold planT; simp [lineT_ne]
  have hR : readP (planT ⟨n, sp, ca, pi⟩) = runR ((planT ⟨n, sp, ca, pi⟩).length + 1) st0 1 (planT ⟨n, sp, ca, pi⟩) := by
    unfold readP runR; rw [if_neg hne]
  have hlen : (planT ⟨n, sp, ca, pi⟩).length = (lineT wT [n]).length + ((sp.flatMap specT).length + ((ca.flatMap callT).length + (picksT pi.length pi).length)) := by
    unfold planT; simp only [List.length_append]
  have l0 := lineT_len wT [n]
  have l1 := flat_len specT (fun x => by have := lineT_len wO [x.kind, x.p, x.q]; unfold specT; omega) sp
  have l2 := flat_len callT (fun c => by have := lineT_len wC [c.thread, c.obj, c.kind, c.a, c.b, c.c]; unfold callT; omega) ca
  have l3 := picksT_len pi.length pi (Nat.le_refl _)
  obtain ⟨f, hf, hfp⟩ : ∃ f, (planT ⟨n, sp, ca, pi⟩).length + 1 = (f + ca.length + sp.length) + 1 ∧ pi.length ≤ f := ⟨(planT ⟨n, sp, ca, pi⟩).length - ca.length - sp.length, by omega, by omega⟩
  rw [hR, hf]
  have ht : takeL st0 wT [n] = (0, ⟨⟨n, [], [], []⟩, 1, false⟩) := by
    unfold takeL
    rw [if_pos ⟨rfl, rfl, rfl⟩, if_pos ⟨n1, n2⟩]; rfl
  show ∃ r, runR _ st0 1 (lineT wT [n] ++ (sp.flatMap specT ++ (ca.flatMap callT ++ picksT pi.length pi))) = (0, 0, r) ∧ _
  rw [runR_line _ _ _ (by decide) (by decide) (good_of (by intro y hy; simp at hy; omega)) ht]
  rw [run_specs sp (f + ca.length) _ ⟨⟨n, [], [], []⟩, 1, false⟩ _ rfl h4 (by simpa using h1)]
  obtain ⟨p, hp, hc⟩ := run_calls ca f (1 + 1 + (sp.length : Int)) ⟨⟨n, [] ++ sp, [], []⟩, 1, false⟩ (picksT pi.length pi) (.inl rfl) h5 hw n2 (by simpa using h2)
  rw [hc]
  obtain ⟨r', e1, e2⟩ := run_picks pi.length pi f (1 + 1 + (sp.length : Int) + (ca.length : Int)) ⟨⟨n, [] ++ sp, [] ++ ca, []⟩, p, false⟩ hfp (Nat.le_refl _) (by show 0 < p; omega) rfl h6 (by simpa using h3)
  exact ⟨r', e1, by rw [e2]; simp⟩

end Pl
end Go.Proofs.YtcfbcffmlinlaaaDoor
