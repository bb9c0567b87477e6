/-
  Plans as texts, and reading them; no program in sight.
-/
import Derived.Test.YtcfbcffmlinlaaaDoorLists
import Derived.Test.YtcfbcffmlinlaaaDoorScrRuns
import Derived.Test.YtcfbcffmlinlaaaDoorTxPure
namespace Go.Proofs.YtcfbcffmlinlaaaDoor
namespace Pl

/-- A number's digits. -/
def dg (x : Int) : List UInt8 := Tx.digs 20 x.toNat
/-- A line of a word and numbers. -/
def numsT (l : List Int) : List UInt8 := l.flatMap (fun x => 32 :: dg x)
def lineT (word : List UInt8) (l : List Int) : List UInt8 := word ++ (numsT l ++ [10])
def wT : List UInt8 := [116, 104, 114, 101, 97, 100, 115]
def wO : List UInt8 := [111, 98, 106, 101, 99, 116]
def wC : List UInt8 := [99, 97, 108, 108]
def wP : List UInt8 := [112, 105, 99, 107, 115]

def specT (x : Spc) : List UInt8 := lineT wO [x.kind, x.p, x.q]
def callT (c : Cll) : List UInt8 := lineT wC [c.thread, c.obj, c.kind, c.a, c.b, c.c]
def picksT : Nat → List Int → List UInt8
  | 0, _ => []
  | f + 1, l => if l = [] then [] else lineT wP (l.take 16) ++ picksT f (l.drop 16)
/-- A script's plan. -/
def planT (s : Scr) : List UInt8 := lineT wT [s.n] ++ (s.specs.flatMap specT ++ (s.calls.flatMap callT ++ picksT s.picks.length s.picks))

/-- What stands between blanks. -/
def words : List UInt8 → List (List UInt8)
  | [] => [[]]
  | c :: t => if c = 32 then [] :: words t else match words t with
    | [] => [[c]]
    | w :: r => (c :: w) :: r

/-- A number's digits, read on. -/
def numGo : List UInt8 → Nat → Option Nat
  | [], x => some x
  | c :: t, x => if Tx.isD c = true ∧ x * 10 + Tx.dv c ≤ 18446744073709551615 then numGo t (x * 10 + Tx.dv c) else none
def numP (w : List UInt8) : Option Nat := if w = [] ∨ (1 < w.length ∧ w.head? = some 48) then none else numGo w 0

/-- The numbers of words, if all are numbers. -/
def numsP : List (List UInt8) → Option (List Int)
  | [] => some []
  | w :: r => match numP w with
    | none => none
    | some x => match numsP r with
      | none => none
      | some l => some ((x : Int) :: l)

/-- How far a plan is read. -/
structure St where
  s : Scr
  part : Int
  last : Bool
def st0 : St := ⟨⟨0, [], [], []⟩, 0, false⟩

/-- One line of a word and numbers: the error, and what is read then. -/
def takeL (r : St) (w : List UInt8) (l : List Int) : Int × St :=
  if w = wT ∧ r.part = 0 ∧ l.length = 1 then
    if 1 ≤ nth l 0 ∧ nth l 0 ≤ 16 then (0, ⟨⟨nth l 0, r.s.specs, r.s.calls, r.s.picks⟩, 1, r.last⟩) else (1, r)
  else if w = wO ∧ r.part = 1 ∧ l.length = 3 then
    if 255 < nth l 0 ∨ 65535 < nth l 1 ∨ 65535 < nth l 2 then (10, r)
    else if 8 ≤ r.s.specs.length then (3, r)
    else (0, ⟨⟨r.s.n, r.s.specs ++ [⟨nth l 0, nth l 1, nth l 2⟩], r.s.calls, r.s.picks⟩, 1, r.last⟩)
  else if w = wC ∧ (r.part = 1 ∨ r.part = 2) ∧ l.length = 6 then
    if r.s.n ≤ nth l 0 ∨ 255 < nth l 1 ∨ 255 < nth l 2 then (10, r)
    else if 1000 ≤ r.s.calls.length then (3, r)
    else (0, ⟨⟨r.s.n, r.s.specs, r.s.calls ++ [⟨nth l 0, nth l 1, nth l 2, nth l 3, nth l 4, nth l 5⟩], r.s.picks⟩, 2, r.last⟩)
  else if w = wP ∧ 0 < r.part ∧ r.last = false ∧ 1 ≤ l.length ∧ l.length ≤ 16 then
    if l.any (fun x => decide (255 < x)) = true then (10, r)
    else if 65536 < r.s.picks.length + l.length then (3, r)
    else (0, ⟨⟨r.s.n, r.s.specs, r.s.calls, r.s.picks ++ l⟩, 3, decide (l.length < 16)⟩)
  else (5, r)

/-- One line. -/
def stepL (r : St) (line : List UInt8) : Int × St :=
  match words line with
  | [] => (5, r)
  | w :: ws => match numsP ws with
    | none => (5, r)
    | some l => takeL r w l

/-- Up to the first byte 10, and what stands behind it. -/
def cutL : List UInt8 → Option (List UInt8 × List UInt8)
  | [] => none
  | c :: t => if c = 10 then some ([], t) else match cutL t with
    | none => none
    | some (a, b) => some (c :: a, b)

theorem cutL_lt : ∀ {l a b : List UInt8}, cutL l = some (a, b) → b.length < l.length
  | [], _, _, h => by simp [cutL] at h
  | c :: t, a, b, h => by
    unfold cutL at h
    split at h
    · simp only [Option.some.injEq, Prod.mk.injEq] at h
      obtain ⟨-, rfl⟩ := h
      simp
    · split at h
      · cases h
      · rename_i a' b' h2
        simp only [Option.some.injEq, Prod.mk.injEq] at h
        obtain ⟨-, rfl⟩ := h
        have := cutL_lt h2
        simp; omega

/-- Lines read on: the first line that is wrong (0: none), the error, and what was read. -/
def runL : Nat → St → Int → List UInt8 → Int × Int × St
  | 0, r, k, _ => (k, 4, r)
  | f + 1, r, k, t => match cutL t with
    | none => (k, 4, r)
    | some (a, b) => if (stepL r a).1 = 0 then (if b = [] then (0, 0, (stepL r a).2) else runL f (stepL r a).2 (k + 1) b) else (k, (stepL r a).1, r)
def readP (t : List UInt8) : Int × Int × St := runL (t.length + 1) st0 1 t

/-! A number's digits and back -/
theorem numGo_cons (c : UInt8) (t : List UInt8) (x : Nat) : numGo (c :: t) x = if Tx.isD c = true ∧ x * 10 + Tx.dv c ≤ 18446744073709551615 then numGo t (x * 10 + Tx.dv c) else none := rfl
theorem numGo_app : ∀ (a b : List UInt8) (x : Nat), numGo (a ++ b) x = match numGo a x with
    | none => none
    | some y => numGo b y
  | [], b, x => rfl
  | c :: t, b, x => by
    rw [List.cons_append, numGo_cons, numGo_cons]
    split
    · exact numGo_app t b _
    · rfl
theorem numGo_one {c : UInt8} {x : Nat} : numGo [c] x = if Tx.isD c = true ∧ x * 10 + Tx.dv c ≤ 18446744073709551615 then some (x * 10 + Tx.dv c) else none := rfl

theorem numGo_digs (x : Nat) : x ≤ 18446744073709551615 → numGo (Tx.digs 20 x) 0 = some x := by
  induction x using Nat.strongRecOn with
  | _ x ih =>
    intro hx
    by_cases h : x < 10
    · rw [Tx.digs_small h, numGo_one, Tx.dv_ch h, if_pos ⟨Tx.isD_ch h, by omega⟩]
      simp
    · rw [Tx.digs_big (by omega) (Tx.big21 (by omega)), numGo_app, ih (x / 10) (by omega) (by omega)]
      show numGo [Tx.ch (x % 10)] (x / 10) = some x
      rw [numGo_one, Tx.dv_ch (by omega), if_pos ⟨Tx.isD_ch (by omega), by omega⟩]
      congr 1; omega

theorem numGo_le : ∀ (l : List UInt8) (x v : Nat), x ≤ 18446744073709551615 → numGo l x = some v → v ≤ 18446744073709551615
  | [], x, v, hx, h => by simp only [numGo, Option.some.injEq] at h; omega
  | c :: t, x, v, hx, h => by
    unfold numGo at h
    split at h
    · rename_i hc
      exact numGo_le t _ v hc.2 h
    · cases h

theorem numGo_back (n : Nat) : ∀ (l : List UInt8) (v : Nat), l.length = n → l ≠ [] → ¬ (1 < l.length ∧ l.head? = some 48) → numGo l 0 = some v → l = Tx.digs 20 v := by
  induction n with
  | zero => intro l v hl hn; exact absurd (List.length_eq_zero_iff.1 hl) hn
  | succ n ih =>
    intro l v hl hn hz h
    rcases List.eq_nil_or_concat l with rfl | ⟨a, c, rfl⟩
    · exact absurd rfl hn
    rw [List.concat_eq_append] at *
    rw [numGo_app] at h
    cases hu : numGo a 0 with
    | none => rw [hu] at h; cases h
    | some u =>
      rw [hu] at h
      have h : numGo [c] u = some v := h
      rw [numGo_one] at h
      split at h
      · rename_i hc
        simp only [Option.some.injEq] at h
        obtain ⟨e1, e2⟩ := Tx.ch_dv hc.1
        by_cases ha : a = []
        · subst ha
          simp only [numGo, Option.some.injEq] at hu
          subst hu
          rw [← h, Nat.zero_mul, Nat.zero_add, Tx.digs_small e2, e1]; rfl
        · have hl2 : a.length = n := by simp at hl; exact hl
          have hpos : 0 < a.length := List.length_pos_iff.2 ha
          have hh : a.head? ≠ some 48 := fun h48 => hz ⟨by simp; omega, by
            cases a with
            | nil => exact absurd rfl ha
            | cons y r => simpa using h48⟩
          have ea := ih a u hl2 ha (fun h => hh h.2) hu
          have hup : 0 < u := by
            rcases Nat.eq_zero_or_pos u with rfl | h
            · rw [ea] at hh; exact absurd (by decide) hh
            · exact h
          have hv : v ≤ 18446744073709551615 := by have := hc.2; omega
          rw [← h, show u * 10 + Tx.dv c = 10 * u + Tx.dv c by omega, Tx.digs_step hup e2 (Tx.big21 (by omega)), e1, ← ea]
      · cases h

theorem digs_head0 {x : Nat} (hx : x ≤ 18446744073709551615) : ¬ (1 < (Tx.digs 20 x).length ∧ (Tx.digs 20 x).head? = some 48) := by
  rcases Nat.eq_zero_or_pos x with rfl | h
  · rintro ⟨h1, -⟩
    exact absurd h1 (by decide)
  · rintro ⟨-, h2⟩
    exact Tx.digs_head_pos 20 x h (Tx.big21 (by omega)) h2

/-- Words that are numbers are the numbers' digits. -/
theorem numP_digs {x : Nat} (hx : x ≤ 18446744073709551615) : numP (Tx.digs 20 x) = some x := by
  unfold numP
  rw [if_neg, numGo_digs x hx]
  rintro (h | h)
  · exact Tx.digs_ne _ _ h
  · exact digs_head0 hx h
theorem numP_back {w : List UInt8} {v : Nat} (h : numP w = some v) : w = Tx.digs 20 v ∧ v ≤ 18446744073709551615 := by
  unfold numP at h
  split at h
  · cases h
  · rename_i hn
    rw [not_or] at hn
    exact ⟨numGo_back w.length w v rfl hn.1 hn.2 h, numGo_le w 0 v (by omega) h⟩

end Pl
end Go.Proofs.YtcfbcffmlinlaaaDoor
