/-
  Runs that are counted pick by pick: no program in sight.
-/
import Derived.Test.YtmnkkmgfkodmhaaScrEnc
namespace Go.Proofs.Ytmnkkmgfkodmhaa

/-- Up to a run that began at s and has n picks, done is written. -/
structure RunInv (l done : List Int) (s n : Nat) : Prop where
  full : encRuns l.length l = done ++ encRuns (l.length - s) (l.drop s)
  same : n = 0 ∨ (s + n < l.length ∧ nth l (s + n) = nth l s)
  cnt : s < l.length → lead (nth l s) (l.drop (s + 1)) 254 + 1 = n + lead (nth l s) (l.drop (s + n)) (255 - n)

theorem cnt_zero (l : List Int) (s : Nat) (h : s < l.length) : lead (nth l s) (l.drop (s + 1)) 254 + 1 = 0 + lead (nth l s) (l.drop (s + 0)) (255 - 0) := by
  have := lead_step (nth l s) l s 0 (by decide) h rfl
  rw [this]
  have e : s + (0 + 1) = s + 1 := by omega
  rw [e]
  show _ = 0 + (1 + lead _ _ 254)
  omega

theorem RunInv.start (l : List Int) : RunInv l [] 0 0 := ⟨by simp, .inl rfl, cnt_zero l 0⟩

theorem RunInv.next {l done : List Int} {s n : Nat} (h : RunInv l done s n) (hi : s + n < l.length) : nth l (s + n) = nth l s := by
  rcases h.same with h1 | h1
  · subst h1; rfl
  · exact h1.2

theorem RunInv.more {l done : List Int} {s n : Nat} (h : RunInv l done s n) (h1 : n + 1 < 255) (h2 : s + (n + 1) < l.length) (h3 : nth l (s + (n + 1)) = nth l (s + n)) : RunInv l done s (n + 1) := by
  have hx := h.next (by omega)
  refine ⟨h.full, .inr ⟨h2, h3.trans hx⟩, fun hs => ?_⟩
  rw [h.cnt hs, lead_step (nth l s) l s n (by omega) (by omega) hx]
  omega

theorem RunInv.emit {l done : List Int} {s n : Nat} (h : RunInv l done s n) (hn : n ≤ 254) (hi : s + n < l.length) (hs : n + 1 = 255 ∨ s + (n + 1) = l.length ∨ (s + (n + 1) < l.length ∧ nth l (s + (n + 1)) ≠ nth l (s + n))) :
    RunInv l (done ++ [nth l (s + n), (n : Int) + 1]) (s + (n + 1)) 0 := by
  have hx := h.next hi
  have hc := h.cnt (by omega)
  rw [lead_step (nth l s) l s n (by omega) hi hx, lead_stop (nth l s) l s (n + 1) (by rw [hx] at hs; omega)] at hc
  refine ⟨?_, .inl rfl, fun hl => cnt_zero l _ hl⟩
  rw [h.full, encRuns_at l s (by omega)]
  have e : lead (nth l s) (l.drop (s + 1)) 254 + 1 = n + 1 := by omega
  have e2 : ((lead (nth l s) (l.drop (s + 1)) 254 : Nat) : Int) + 1 = (n : Int) + 1 := by omega
  rw [e, e2, hx]; simp

theorem RunInv.fin {l done : List Int} {s n : Nat} (h : RunInv l done s n) (hi : s + n = l.length) : done = encRuns l.length l := by
  rcases h.same with h1 | h1
  · rw [h.full]
    have : s = l.length := by omega
    rw [this, Nat.sub_self]; simp [encRuns]
  · omega

end Go.Proofs.Ytmnkkmgfkodmhaa
