/-
  What came in as a slice of integers reads as a list.
-/
import Derived.Test.YtnknlamcdeaacaaBase
import Derived.OpenShut
namespace Go.Proofs.Ytnknlamcdeaacaa
open Go.RowKit

theorem wf_i64_bounds {n : Int} (h : (Lit.int .i64 n).wf = true) : -9223372036854775808 ≤ n ∧ n ≤ 9223372036854775807 := by
  exact bounds_i64 h

theorem args_i64 {w : World} {a : Option Addr} {len cap : Nat} {zs : List Int}
    (h : (a = none ∧ len = 0 ∧ cap = 0 ∧ zs = []) ∨
      ∃ x, a = some x ∧ len ≤ cap ∧ cap ≤ maxLen ∧ zs.length = cap ∧ (∀ i, i < zs.length → w.cell? (x.add i) = some (.int .i64 (zs.getD i 0))) ∧ ∀ n ∈ zs, (Lit.int .i64 n).wf = true) :
    ∃ l : List Int, l.length = len ∧ IsInts .i64 w a l ∧ ∀ i, i < l.length → -9223372036854775808 ≤ nth l i ∧ nth l i ≤ 9223372036854775807 := by
  rcases h with ⟨rfl, rfl, rfl, rfl⟩ | ⟨⟨b, off, spot⟩, rfl, hl, hm, hz, hc, hw⟩
  · exact ⟨[], rfl, .inl rfl, fun i hi => by simp at hi⟩
  · refine ⟨zs.take len, by rw [List.length_take]; omega, ?_, ?_⟩
    · by_cases h0 : len = 0
      · subst h0; exact .inl (by simp)
      · have c0 := hc 0 (by omega)
        have hsp : spot = none := by simpa [Addr.add] using World.cell?_spot c0
        subst hsp
        refine .inr ⟨b, off, rfl, fun i hi => ?_⟩
        rw [List.length_take] at hi
        have := hc i (by omega)
        rw [addr_add] at this
        rw [this]
        simp only [nth]
        rw [List.getD_eq_getElem?_getD, List.getD_eq_getElem?_getD, List.getElem?_take_of_lt (by omega)]
    · intro i hi
      have hi2 := hi
      rw [List.length_take] at hi2
      apply wf_i64_bounds
      apply hw
      exact List.mem_of_mem_take (nth_mem _ i hi)

theorem args_cap {k : IntKind} {w : World} {a : Option Addr} {len cap : Nat} {zs : List Int}
    (h : (a = none ∧ len = 0 ∧ cap = 0 ∧ zs = []) ∨
      ∃ x, a = some x ∧ len ≤ cap ∧ cap ≤ maxLen ∧ zs.length = cap ∧ (∀ i, i < zs.length → w.cell? (x.add i) = some (.int k (zs.getD i 0))) ∧ ∀ n ∈ zs, (Lit.int k n).wf = true) :
    len ≤ cap ∧ cap ≤ 9223372036854775807 ∧ (a = none → cap = 0) := by
  rcases h with ⟨rfl, rfl, rfl, rfl⟩ | ⟨x, rfl, hl, hm, _, _, _⟩
  · exact ⟨Nat.le_refl _, by omega, fun _ => rfl⟩
  · unfold maxLen at hm
    exact ⟨hl, by omega, fun h => by cases h⟩

end Go.Proofs.Ytnknlamcdeaacaa
