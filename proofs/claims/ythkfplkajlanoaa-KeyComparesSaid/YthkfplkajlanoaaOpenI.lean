/-
  What came in as a slice of integers of whatever kind reads as a list.
-/
import Derived.Test.YthkfplkajlanoaaOpen
import Derived.Test.YthkfplkajlanoaaScrPure
namespace Go.Proofs.Ythkfplkajlanoaa
open Go.RowKit Go.Deep Go.ChangeShapes Go.WideShapes

section
variable {H : Type} {enc : TypeId × Value → H} {P : Program} {w : World} {base : Nat} {spare : Nat → Bool} {held : Bool}

theorem trod_intk {t : TypeId} {k : IntKind} {fuel : Nat} {cs : List Value} {x : DataW H × List MemPlace} (ht : P.underlying t = some (.int k)) (h : DataW.trod enc P w base spare held fuel t cs = some x) :
    ∃ b, cs = [.int k b] ∧ (Lit.int k b).wf = true := by
  cases fuel with
  | zero => simp [DataW.trod] at h
  | succ n =>
    unfold DataW.trod at h
    rw [ht] at h
    split at h <;> simp_all

theorem open_intk {t e : TypeId} {k : IntKind} {fuel : Nat} {cs : List Value} {x : DataW H × List MemPlace} (ht : P.underlying t = some (.slice e)) (he : P.underlying e = some (.int k)) (hc : P.cellsOf e = 1) (h : DataW.trod enc P w base spare held fuel t cs = some x) :
    ∃ (a : Option Addr) (len cap : Nat) (l : List Int), cs = [.slice a len cap] ∧ len ≤ cap ∧ cap ≤ maxLen ∧ (a = none → cap = 0) ∧ l.length = len ∧ (∀ b ∈ l, (Lit.int k b).wf = true) ∧ IsInts k w a l := by
  obtain ⟨a, len, cap, l, hcs, h1, h2, h3, h4, h5, h6⟩ := open_one (α := Int) (Value.int k) (fun b => (Lit.int k b).wf = true) ht hc (fun n v y hy => by
    obtain ⟨b, hb, hw⟩ := trod_intk he hy
    simp only [List.cons.injEq, and_true] at hb
    exact ⟨b, hb, hw⟩) h
  refine ⟨a, len, cap, l, hcs, h1, h2, h3, h4, h5, ?_⟩
  by_cases h0 : l = []
  · exact .inl h0
  · have hp : 0 < l.length := List.length_pos_iff.2 h0
    obtain ⟨bb, off, rfl, _⟩ := h6 0 (by omega)
    refine .inr ⟨bb, off, rfl, fun i hi => ?_⟩
    obtain ⟨bb', off', he, hc⟩ := h6 i (by omega)
    simp at he
    obtain ⟨rfl, rfl⟩ := he
    exact hc
end

theorem byte_wf {b : Int} (h : (Lit.int .u8 b).wf = true) : byteOk b := by
  have hmin : IntKind.u8.min = 0 := rfl
  have hmax : IntKind.u8.max = 255 := rfl
  simp only [Lit.wf, Bool.and_eq_true, decide_eq_true_eq] at h
  unfold byteOk; omega

end Go.Proofs.Ythkfplkajlanoaa
