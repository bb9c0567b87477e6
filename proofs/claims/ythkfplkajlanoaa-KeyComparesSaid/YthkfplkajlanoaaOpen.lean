/-
  What came in as a slice of floats reads as a list of words.
-/
import Derived.Test.YthkfplkajlanoaaBase
import Derived.ProofKit
import Derived.Deep.Slices
namespace Go.Proofs.Ythkfplkajlanoaa
open Go.RowKit Go.Deep Go.ChangeShapes Go.WideShapes

section
variable {H : Type} {enc : TypeId × Value → H} {P : Program} {w : World} {base : Nat} {spare : Nat → Bool} {held : Bool}

theorem trod_float {t : TypeId} {k : FloatKind} {fuel : Nat} {cs : List Value} {x : DataW H × List MemPlace} (ht : P.underlying t = some (.float k)) (h : DataW.trod enc P w base spare held fuel t cs = some x) :
    ∃ b, cs = [.float k b] ∧ (Lit.float k b).wf = true := by
  cases fuel with
  | zero => simp [DataW.trod] at h
  | succ n =>
    unfold DataW.trod at h
    rw [ht] at h
    split at h <;> simp_all

/-- A slice of one-cell things, each with a property that its own reading gives. -/
theorem open_one {α : Type} [Inhabited α] {t e : TypeId} {fuel : Nat} {cs : List Value} {x : DataW H × List MemPlace} (mk : α → Value) (good : α → Prop) (ht : P.underlying t = some (.slice e)) (hc : P.cellsOf e = 1)
    (hel : ∀ (n : Nat) (v : Value) y, DataW.trod enc P w base spare held n e [v] = some y → ∃ b, v = mk b ∧ good b)
    (h : DataW.trod enc P w base spare held fuel t cs = some x) :
    ∃ (a : Option Addr) (len cap : Nat) (l : List α), cs = [.slice a len cap] ∧ len ≤ cap ∧ cap ≤ maxLen ∧ (a = none → cap = 0) ∧ l.length = len ∧
      (∀ b ∈ l, good b) ∧ ∀ i, i < len → ∃ bb off, a = some ⟨bb, off, none⟩ ∧ w.cell? ⟨bb, off + i, none⟩ = some (mk (l.getD i default)) := by
  rcases open_slice1 ht hc h with ⟨rfl, _⟩ | ⟨a, len, cap, m, n, V, D, Pl, rfl, hb, hl, hm, hmm, _, hx⟩
  · exact ⟨none, 0, 0, [], rfl, Nat.le_refl _, by decide, fun _ => rfl, rfl, (by intro b hb; cases hb), (by intro i hi; omega)⟩
  · have hlm : len ≤ m := by rw [hmm]; split <;> omega
    obtain ⟨f, hf⟩ := choose_lt (α := α) (p := fun i b => V i = mk b ∧ good b) (fun i (hi : i < len) => hel n (V i) _ (hx i (by omega)).2)
    refine ⟨some a, len, cap, (List.range len).map f, rfl, hl, hm, fun h => (by cases h), by simp, ?_, ?_⟩
    · intro b hb
      obtain ⟨i, hi, rfl⟩ := List.mem_map.1 hb
      exact (hf i (List.mem_range.1 hi)).2
    · intro i hi
      have h1 := (hx i (by omega)).1
      obtain ⟨bb, off, spot⟩ := a
      have h0 := (hx 0 (by omega)).1
      have hsp : spot = none := by simpa [Addr.add] using World.cell?_spot h0
      subst hsp
      refine ⟨bb, off, rfl, ?_⟩
      rw [addr_add] at h1
      rw [h1, (hf i hi).1]
      simp [List.getElem?_range hi]
end

end Go.Proofs.Ythkfplkajlanoaa
