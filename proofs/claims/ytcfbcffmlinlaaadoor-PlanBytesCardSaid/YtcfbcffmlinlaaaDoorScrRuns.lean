/-
  Picks as runs, and a whole script as bytes: no program in sight.
-/
import Derived.Test.YtcfbcffmlinlaaaDoorScrPure
namespace Go.Proofs.YtcfbcffmlinlaaaDoor

/-- how many of the first k are x. -/
def lead (x : Int) : List Int → Nat → Nat
  | _, 0 => 0
  | [], _ + 1 => 0
  | y :: r, k + 1 => if y = x then lead x r k + 1 else 0

theorem lead_le (x : Int) (l : List Int) : ∀ k, lead x l k ≤ k ∧ lead x l k ≤ l.length := by
  induction l with
  | nil => intro k; cases k <;> simp [lead]
  | cons y r ih =>
    intro k
    cases k with
    | zero => simp [lead]
    | succ k =>
      have := ih k
      unfold lead; split <;> simp <;> omega

theorem lead_take (x : Int) (l : List Int) : ∀ k, l.take (lead x l k) = List.replicate (lead x l k) x := by
  induction l with
  | nil => intro k; cases k <;> simp [lead]
  | cons y r ih =>
    intro k
    cases k with
    | zero => simp [lead]
    | succ k =>
      unfold lead
      split
      · rename_i h; subst h; simp [List.replicate_succ, ih k]
      · simp

theorem lead_split (x : Int) (l : List Int) (k : Nat) : l = List.replicate (lead x l k) x ++ l.drop (lead x l k) := by
  conv => lhs; rw [← List.take_append_drop (lead x l k) l]
  rw [lead_take]

theorem lead_max (x : Int) (l : List Int) : ∀ k, lead x l k < k → (l.drop (lead x l k)).head? ≠ some x := by
  induction l with
  | nil => intro k _; simp
  | cons y r ih =>
    intro k h
    cases k with
    | zero => omega
    | succ k =>
      unfold lead at h ⊢
      by_cases hy : y = x
      · rw [if_pos hy] at h ⊢
        simpa using ih k (by omega)
      · rw [if_neg hy]; simp [hy]

theorem lead_rep (x : Int) (l : List Int) (m : Nat) : ∀ k, m ≤ k → (k = m ∨ l.head? ≠ some x) → lead x (List.replicate m x ++ l) k = m := by
  induction m with
  | zero =>
    intro k _ h
    simp only [List.replicate_zero, List.nil_append]
    rcases h with rfl | h
    · cases l <;> rfl
    · cases l with
      | nil => cases k <;> rfl
      | cons y r =>
        cases k with
        | zero => rfl
        | succ k => unfold lead; rw [if_neg (by simpa using h)]
  | succ m ih =>
    intro k hk h
    obtain ⟨k, rfl⟩ : ∃ j, k = j + 1 := ⟨k - 1, by omega⟩
    simp only [List.replicate_succ, List.cons_append]
    unfold lead
    rw [if_pos rfl, ih k (by omega) (by rcases h with h | h; exact .inl (by omega); exact .inr h)]

/-- picks as runs. -/
def encRuns : Nat → List Int → List Int
  | 0, _ => []
  | _ + 1, [] => []
  | f + 1, x :: r => x :: (((lead x r 254 : Nat) : Int) + 1) :: encRuns f (r.drop (lead x r 254))

theorem encRuns_fuel (f : Nat) : ∀ (g : Nat) (l : List Int), l.length ≤ f → l.length ≤ g → encRuns f l = encRuns g l := by
  induction f with
  | zero =>
    intro g l h1 h2
    have : l = [] := List.length_eq_zero_iff.1 (by omega)
    subst this; cases g <;> rfl
  | succ f ih =>
    intro g l h1 h2
    cases l with
    | nil => cases g <;> rfl
    | cons x r =>
      cases g with
      | zero => simp at h2
      | succ g =>
        simp only [encRuns]
        have hl : (r.drop (lead x r 254)).length ≤ r.length := by rw [List.length_drop]; omega
        simp at h1 h2
        rw [ih g _ (by omega) (by omega)]

/-- runs that are read up to the end. -/
def pPicks (thread : Int) (full : Bool) (out : List Int) : List Int → Option (List Int)
  | [] => some out
  | [_] => none
  | p :: n :: r => if 1 ≤ n ∧ (p ≠ thread ∨ full = true) ∧ n ≤ 65536 - (out.length : Int) then pPicks p (n == 255) (out ++ List.replicate n.toNat p) r else none

theorem pPicks_enc (f : Nat) : ∀ (l : List Int) (thread : Int) (full : Bool) (out : List Int), l.length ≤ f → out.length + l.length ≤ 65536 → (l.head? ≠ some thread ∨ full = true) →
    pPicks thread full out (encRuns f l) = some (out ++ l) := by
  induction f with
  | zero =>
    intro l thread full out h _ _
    have : l = [] := List.length_eq_zero_iff.1 (by omega)
    subst this; simp [encRuns, pPicks]
  | succ f ih =>
    intro l thread full out h1 h2 h3
    cases l with
    | nil => simp [encRuns, pPicks]
    | cons x r =>
      simp only [encRuns, pPicks]
      have hl := lead_le x r 254
      simp at h1 h2
      have hc : (1 : Int) ≤ ((lead x r 254 : Nat) : Int) + 1 ∧ (x ≠ thread ∨ full = true) ∧ ((lead x r 254 : Nat) : Int) + 1 ≤ 65536 - (out.length : Int) := by
        refine ⟨by omega, ?_, by omega⟩
        rcases h3 with h | h
        · exact .inl (by simpa using h)
        · exact .inr h
      rw [if_pos hc]
      have et : (((lead x r 254 : Nat) : Int) + 1).toNat = lead x r 254 + 1 := by omega
      rw [et]
      have hd : (r.drop (lead x r 254)).length = r.length - lead x r 254 := List.length_drop
      rw [ih (r.drop (lead x r 254)) x _ _ (by omega) (by rw [List.length_append, List.length_replicate]; omega) ?_]
      · have e := lead_split x r 254
        rw [List.append_assoc, List.replicate_succ, List.cons_append]
        congr 2
        rw [← e]
      · by_cases h254 : lead x r 254 < 254
        · exact .inl (lead_max x r 254 h254)
        · right
          have : lead x r 254 = 254 := by omega
          rw [this]; rfl

theorem pPicks_back (m : Nat) : ∀ (l : List Int) (thread : Int) (full : Bool) (out res : List Int), l.length ≤ m → (∀ b ∈ l, byteOk b) → out.length ≤ 65536 → pPicks thread full out l = some res →
    ∃ ps, res = out ++ ps ∧ encRuns ps.length ps = l ∧ (ps.head? ≠ some thread ∨ full = true) ∧ (∀ p ∈ ps, byteOk p) ∧ out.length + ps.length ≤ 65536 := by
  induction m with
  | zero =>
    intro l thread full out res h _ ho hp
    have : l = [] := List.length_eq_zero_iff.1 (by omega)
    subst this
    simp [pPicks] at hp; subst hp
    exact ⟨[], by simp, rfl, .inl (by simp), (by intro p hp; cases hp), by simpa using ho⟩
  | succ m ih =>
    intro l thread full out res h hb ho hp
    match l, h, hb, hp with
    | [], _, _, hp =>
      simp [pPicks] at hp; subst hp
      exact ⟨[], by simp, rfl, .inl (by simp), (by intro p hp; cases hp), by simpa using ho⟩
    | [_], _, _, hp => simp [pPicks] at hp
    | p :: n :: r, h, hb, hp =>
      simp only [pPicks] at hp
      by_cases hc : 1 ≤ n ∧ (p ≠ thread ∨ full = true) ∧ n ≤ 65536 - (out.length : Int)
      · rw [if_pos hc] at hp
        have bn := hb n (by simp)
        have bp := hb p (by simp)
        unfold byteOk at bn
        simp at h
        obtain ⟨ps, h1, h2, h3, h4, h5⟩ := ih r p (n == 255) _ res (by omega) (fun b hm => hb b (by simp [hm])) (by rw [List.length_append, List.length_replicate]; omega) hp
        rw [List.length_append, List.length_replicate] at h5
        obtain ⟨k, hk⟩ : ∃ k : Nat, n = (k : Int) + 1 := ⟨(n - 1).toNat, by omega⟩
        have hkn : n.toNat = k + 1 := by omega
        have hlead : lead p (List.replicate k p ++ ps) 254 = k := by
          refine lead_rep p ps k 254 (by omega) ?_
          rcases h3 with h3 | h3
          · exact .inr h3
          · left; simp at h3; omega
        refine ⟨List.replicate (k + 1) p ++ ps, ?_, ?_, ?_, ?_, ?_⟩
        · rw [h1, hkn, List.append_assoc]
        · simp only [List.replicate_succ, List.cons_append, List.length_cons, encRuns, hlead]
          have hdrop : (List.replicate k p ++ ps).drop k = ps := by
            rw [List.drop_append_of_le_length (by simp)]; simp
          rw [hdrop, ← hk]
          rw [encRuns_fuel _ ps.length ps (by rw [List.length_append]; omega) (Nat.le_refl _), h2]
        · rcases hc.2.1 with hc | hc
          · left; simp [List.replicate_succ]; exact hc
          · exact .inr hc
        · intro q hq
          rcases List.mem_append.1 hq with hq | hq
          · rw [(List.mem_replicate.1 hq).2]; exact bp
          · exact h4 q hq
        · rw [List.length_append, List.length_replicate]; omega
      · rw [if_neg hc] at hp; cases hp

/-! ### The whole script -/

def encTwo (n : Int) : List Int := [n / 256, n % 256]
def encSpec (s : Spc) : List Int := s.kind :: (encTwo s.p ++ encTwo s.q)
def encCall (c : Cll) : List Int := c.thread :: c.obj :: c.kind :: (numB 10 c.a ++ (numB 10 c.b ++ numB 10 c.c))
def encS (s : Scr) : List Int := s.n :: (s.specs.length : Int) :: (s.specs.flatMap encSpec ++ (encTwo s.calls.length ++ (s.calls.flatMap encCall ++ encRuns s.picks.length s.picks)))

def pTwo : List Int → Option (Int × List Int)
  | h :: l :: r => some (256 * h + l, r)
  | _ => none
def pSpec : List Int → Option (Spc × List Int)
  | [] => none
  | k :: l => match pTwo l with
    | none => none
    | some (p, l) => match pTwo l with
      | none => none
      | some (q, l) => some (⟨k, p, q⟩, l)
def pSpecs : Nat → List Int → Option (List Spc × List Int)
  | 0, l => some ([], l)
  | k + 1, l => match pSpec l with
    | none => none
    | some (s, l) => match pSpecs k l with
      | none => none
      | some (ss, l) => some (s :: ss, l)
def pCall (n : Int) : List Int → Option (Cll × List Int)
  | t :: o :: k :: l => if t < n then match pNum 0 1 0 l with
      | none => none
      | some (a, l) => match pNum 0 1 0 l with
        | none => none
        | some (b, l) => match pNum 0 1 0 l with
          | none => none
          | some (c, l) => some (⟨t, o, k, a, b, c⟩, l)
    else none
  | _ => none
def pCalls (n : Int) : Nat → List Int → Option (List Cll × List Int)
  | 0, l => some ([], l)
  | k + 1, l => match pCall n l with
    | none => none
    | some (c, l) => match pCalls n k l with
      | none => none
      | some (cs, l) => some (c :: cs, l)
def pS : List Int → Option Scr
  | n :: m :: l => if 1 ≤ n ∧ n ≤ 16 ∧ m ≤ 8 then match pSpecs m.toNat l with
      | none => none
      | some (ss, l) => match pTwo l with
        | none => none
        | some (many, l) => if many ≤ 1000 then match pCalls n many.toNat l with
            | none => none
            | some (cs, l) => match pPicks (-1) true [] l with
              | none => none
              | some ps => some ⟨n, ss, cs, ps⟩
          else none
    else none
  | _ => none

theorem pTwo_enc (n : Int) (r : List Int) : pTwo (encTwo n ++ r) = some (n, r) := by
  unfold encTwo
  simp only [List.cons_append, List.nil_append, pTwo]
  have := Int.mul_ediv_add_emod n 256
  congr 2

theorem pSpecs_enc (ss : List Spc) (r : List Int) : pSpecs ss.length (ss.flatMap encSpec ++ r) = some (ss, r) := by
  induction ss with
  | nil => rfl
  | cons s ss ih =>
    simp only [List.length_cons, pSpecs, List.flatMap_cons, encSpec, List.cons_append, List.append_assoc, pSpec, pTwo_enc, ih]

theorem pNum_start (x : Int) (h : u64Ok x) (r : List Int) : pNum 0 1 0 (numB 10 x ++ r) = some (x, r) := by
  unfold u64Ok at h
  have := pNum_numB 10 0 x 0 r (by omega) h.1 (by rw [weight_zero]; omega) (.inr rfl)
  rw [weight_zero] at this
  rw [this]; congr 2; omega

theorem pCalls_enc (n : Int) (cs : List Cll) (r : List Int) (h : ∀ c ∈ cs, c.ok n) (hw : ∀ c ∈ cs, c.wide) : pCalls n cs.length (cs.flatMap encCall ++ r) = some (cs, r) := by
  induction cs with
  | nil => rfl
  | cons c cs ih =>
    obtain ⟨w1, w2, w3⟩ := hw c List.mem_cons_self
    have ht := (h c List.mem_cons_self).1.2
    simp only [List.length_cons, pCalls, List.flatMap_cons, encCall, List.cons_append, List.append_assoc, pCall, if_pos ht, pNum_start _ w1, pNum_start _ w2, pNum_start _ w3]
    rw [ih (fun c hc => h c (List.mem_cons_of_mem _ hc)) (fun c hc => hw c (List.mem_cons_of_mem _ hc))]

/-- WHAT IS WRITTEN IS READ AS IT WAS. -/
theorem pS_enc (s : Scr) (h : s.ok) (hw : s.wide) : pS (encS s) = some s := by
  obtain ⟨h1, h2, h3, h4, h5, h6, h7⟩ := h
  unfold encS
  simp only [pS]
  rw [if_pos ⟨h1.1, h1.2, by omega⟩, Int.toNat_natCast, pSpecs_enc]
  simp only [pTwo_enc]
  rw [if_pos (by omega), Int.toNat_natCast, pCalls_enc _ _ _ h6 hw]
  simp only
  have hne : s.picks.head? ≠ some (-1) ∨ (true = true) := .inr rfl
  rw [pPicks_enc s.picks.length s.picks (-1) true [] (Nat.le_refl _) (by simpa using h4) hne]
  rfl

theorem pTwo_back {l r : List Int} {v : Int} (hb : ∀ b ∈ l, byteOk b) (h : pTwo l = some (v, r)) : l = encTwo v ++ r ∧ wordOk v ∧ ∀ b ∈ r, byteOk b := by
  match l, hb, h with
  | x :: y :: l, hb, h =>
    simp only [pTwo, Option.some.injEq, Prod.mk.injEq] at h
    obtain ⟨rfl, rfl⟩ := h
    have b1 := hb x (by simp)
    have b2 := hb y (by simp)
    unfold byteOk at b1 b2
    refine ⟨?_, by unfold wordOk; omega, fun b hm => hb b (by simp [hm])⟩
    unfold encTwo
    have e1 : (256 * x + y) / 256 = x := by omega
    have e2 : (256 * x + y) % 256 = y := by omega
    rw [e1, e2]; rfl

theorem pSpec_back {l r : List Int} {s : Spc} (hb : ∀ b ∈ l, byteOk b) (h : pSpec l = some (s, r)) : l = encSpec s ++ r ∧ s.ok ∧ ∀ b ∈ r, byteOk b := by
  cases l with
  | nil => simp [pSpec] at h
  | cons k l =>
    simp only [pSpec] at h
    have hk := hb k (by simp)
    have hb1 : ∀ b ∈ l, byteOk b := fun b hm => hb b (by simp [hm])
    cases h1 : pTwo l with
    | none => rw [h1] at h; cases h
    | some x =>
      obtain ⟨p, l1⟩ := x
      rw [h1] at h
      simp only at h
      obtain ⟨e1, w1, hb2⟩ := pTwo_back hb1 h1
      cases h2 : pTwo l1 with
      | none => rw [h2] at h; cases h
      | some x =>
        obtain ⟨q, l2⟩ := x
        rw [h2] at h
        simp only [Option.some.injEq, Prod.mk.injEq] at h
        obtain ⟨rfl, rfl⟩ := h
        obtain ⟨e2, w2, hb3⟩ := pTwo_back hb2 h2
        exact ⟨by rw [e1, e2]; simp [encSpec], ⟨hk, w1, w2⟩, hb3⟩

theorem pSpecs_back (k : Nat) : ∀ {l r : List Int} {ss : List Spc}, (∀ b ∈ l, byteOk b) → pSpecs k l = some (ss, r) → l = ss.flatMap encSpec ++ r ∧ ss.length = k ∧ (∀ s ∈ ss, s.ok) ∧ ∀ b ∈ r, byteOk b := by
  induction k with
  | zero =>
    intro l r ss hb h
    simp only [pSpecs, Option.some.injEq, Prod.mk.injEq] at h
    obtain ⟨rfl, rfl⟩ := h
    exact ⟨rfl, rfl, (by intro s hs; cases hs), hb⟩
  | succ k ih =>
    intro l r ss hb h
    simp only [pSpecs] at h
    cases h1 : pSpec l with
    | none => rw [h1] at h; cases h
    | some x =>
      obtain ⟨s, l1⟩ := x
      rw [h1] at h
      simp only at h
      obtain ⟨e1, w1, hb2⟩ := pSpec_back hb h1
      cases h2 : pSpecs k l1 with
      | none => rw [h2] at h; cases h
      | some x =>
        obtain ⟨ss', l2⟩ := x
        rw [h2] at h
        simp only [Option.some.injEq, Prod.mk.injEq] at h
        obtain ⟨rfl, rfl⟩ := h
        obtain ⟨e2, hl, w2, hb3⟩ := ih hb2 h2
        refine ⟨by rw [e1, e2]; simp, by simp [hl], ?_, hb3⟩
        intro s' hs
        rcases List.mem_cons.1 hs with rfl | hs
        · exact w1
        · exact w2 s' hs

theorem pNum_first {l r : List Int} {v : Int} (hb : ∀ b ∈ l, byteOk b) (h : pNum 0 1 0 l = some (v, r)) : l = numB 10 v ++ r ∧ u64Ok v ∧ ∀ b ∈ r, byteOk b := by
  obtain ⟨x, h1, h2, h3, _, h5⟩ := pNum_back l 0 0 v r (by omega) hb h
  rw [weight_zero] at h2 h5
  have : v = x := by omega
  subst this
  refine ⟨h1, ⟨h3, by omega⟩, fun b hm => hb b (by rw [h1]; exact List.mem_append_right _ hm)⟩

theorem pCall_back {n : Int} {l r : List Int} {c : Cll} (hb : ∀ b ∈ l, byteOk b) (h : pCall n l = some (c, r)) : l = encCall c ++ r ∧ c.ok n ∧ c.wide ∧ ∀ b ∈ r, byteOk b := by
  match l, hb, h with
  | [], _, h => simp [pCall] at h
  | [_], _, h => simp [pCall] at h
  | [_, _], _, h => simp [pCall] at h
  | t :: o :: k :: l, hb, h =>
    simp only [pCall] at h
    have bt := hb t (by simp)
    have bo := hb o (by simp)
    have bk := hb k (by simp)
    have hb1 : ∀ b ∈ l, byteOk b := fun b hm => hb b (by simp [hm])
    by_cases ht : t < n
    · rw [if_pos ht] at h
      cases h1 : pNum 0 1 0 l with
      | none => rw [h1] at h; cases h
      | some x =>
        obtain ⟨a, l1⟩ := x
        rw [h1] at h; simp only at h
        obtain ⟨e1, w1, hb2⟩ := pNum_first hb1 h1
        cases h2 : pNum 0 1 0 l1 with
        | none => rw [h2] at h; cases h
        | some x =>
          obtain ⟨b, l2⟩ := x
          rw [h2] at h; simp only at h
          obtain ⟨e2, w2, hb3⟩ := pNum_first hb2 h2
          cases h3 : pNum 0 1 0 l2 with
          | none => rw [h3] at h; cases h
          | some x =>
            obtain ⟨c', l3⟩ := x
            rw [h3] at h
            simp only [Option.some.injEq, Prod.mk.injEq] at h
            obtain ⟨rfl, rfl⟩ := h
            obtain ⟨e3, w3, hb4⟩ := pNum_first hb3 h3
            refine ⟨by rw [e1, e2, e3]; simp [encCall], ⟨⟨bt.1, ht⟩, bo, bk⟩, ⟨w1, w2, w3⟩, hb4⟩
    · rw [if_neg ht] at h; cases h

theorem pCalls_back {n : Int} (k : Nat) : ∀ {l r : List Int} {cs : List Cll}, (∀ b ∈ l, byteOk b) → pCalls n k l = some (cs, r) → l = cs.flatMap encCall ++ r ∧ cs.length = k ∧ (∀ c ∈ cs, c.ok n) ∧ (∀ c ∈ cs, c.wide) ∧ ∀ b ∈ r, byteOk b := by
  induction k with
  | zero =>
    intro l r cs hb h
    simp only [pCalls, Option.some.injEq, Prod.mk.injEq] at h
    obtain ⟨rfl, rfl⟩ := h
    exact ⟨rfl, rfl, (by intro s hs; cases hs), (by intro s hs; cases hs), hb⟩
  | succ k ih =>
    intro l r cs hb h
    simp only [pCalls] at h
    cases h1 : pCall n l with
    | none => rw [h1] at h; cases h
    | some x =>
      obtain ⟨c, l1⟩ := x
      rw [h1] at h
      simp only at h
      obtain ⟨e1, w1, v1, hb2⟩ := pCall_back hb h1
      cases h2 : pCalls n k l1 with
      | none => rw [h2] at h; cases h
      | some x =>
        obtain ⟨cs', l2⟩ := x
        rw [h2] at h
        simp only [Option.some.injEq, Prod.mk.injEq] at h
        obtain ⟨rfl, rfl⟩ := h
        obtain ⟨e2, hl, w2, v2, hb3⟩ := ih hb2 h2
        refine ⟨by rw [e1, e2]; simp, by simp [hl], ?_, ?_, hb3⟩
        · intro c' hc
          rcases List.mem_cons.1 hc with rfl | hc
          · exact w1
          · exact w2 c' hc
        · intro c' hc
          rcases List.mem_cons.1 hc with rfl | hc
          · exact v1
          · exact v2 c' hc

/-- WHAT IS READ IS WRITTEN IN THE SAME BYTES. -/
theorem pS_back {l : List Int} {s : Scr} (hb : ∀ b ∈ l, byteOk b) (h : pS l = some s) : encS s = l ∧ s.ok ∧ s.wide := by
  match l, hb, h with
  | [], _, h => simp [pS] at h
  | [_], _, h => simp [pS] at h
  | n :: m :: l, hb, h =>
    simp only [pS] at h
    have bm := hb m (by simp)
    unfold byteOk at bm
    have hb1 : ∀ b ∈ l, byteOk b := fun b hm => hb b (by simp [hm])
    by_cases hn : 1 ≤ n ∧ n ≤ 16 ∧ m ≤ 8
    · rw [if_pos hn] at h
      cases h1 : pSpecs m.toNat l with
      | none => rw [h1] at h; cases h
      | some x =>
        obtain ⟨ss, l1⟩ := x
        rw [h1] at h; simp only at h
        obtain ⟨e1, hl1, w1, hb2⟩ := pSpecs_back _ hb1 h1
        cases h2 : pTwo l1 with
        | none => rw [h2] at h; cases h
        | some x =>
          obtain ⟨many, l2⟩ := x
          rw [h2] at h; simp only at h
          obtain ⟨e2, w2, hb3⟩ := pTwo_back hb2 h2
          unfold wordOk at w2
          by_cases hm : many ≤ 1000
          · rw [if_pos hm] at h
            cases h3 : pCalls n many.toNat l2 with
            | none => rw [h3] at h; cases h
            | some x =>
              obtain ⟨cs, l3⟩ := x
              rw [h3] at h; simp only at h
              obtain ⟨e3, hl3, w3, v3, hb4⟩ := pCalls_back _ hb3 h3
              cases h4 : pPicks (-1) true [] l3 with
              | none => rw [h4] at h; cases h
              | some ps =>
                rw [h4] at h
                simp only [Option.some.injEq] at h
                subst h
                obtain ⟨ps', q1, q2, _, q4, q5⟩ := pPicks_back l3.length l3 (-1) true [] ps (Nat.le_refl _) hb4 (by simp) h4
                have : ps = ps' := by simpa using q1
                subst this
                refine ⟨?_, ⟨⟨hn.1, hn.2.1⟩, ?_, ?_, ?_, w1, w3, q4⟩, v3⟩
                · unfold encS
                  simp only
                  have em : ((ss.length : Nat) : Int) = m := by rw [hl1]; omega
                  have ec : ((cs.length : Nat) : Int) = many := by rw [hl3]; omega
                  rw [em, ec, q2, ← e3, ← e2, ← e1]
                · show ss.length ≤ 8
                  omega
                · show cs.length ≤ 1000
                  omega
                · simpa using q5
          · rw [if_neg hm] at h; cases h
    · rw [if_neg hn] at h; cases h

end Go.Proofs.YtcfbcffmlinlaaaDoor
