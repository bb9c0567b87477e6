/-
  The built-in append of a whole slice onto a slice of the call's own.
-/
import Derived.Test.YtcfbcffmlinlaaaDoorOwn
import Derived.Laws.AppendOwnNone
namespace Go.Proofs.YtcfbcffmlinlaaaDoor
open Go.RowKit

/-- The slice at a reads as these values, one cell each. -/
def IsVals (w : World) (a : Option Addr) (vs : List Value) : Prop :=
  vs = [] ∨ ∃ b off, a = some ⟨b, off, none⟩ ∧ ∀ i, i < vs.length → w.cell? ⟨b, off + i, none⟩ = vs[i]?

theorem wpList_appN {P : Program} {ops : Array Oper} {rest : List Oper} {o : Oper} {a : Act} {Q : Exit → Act → World → Prop} {w : World} (hgd : o.guard = none) (s x : Operand) (T : TypeId)
    (ho : o.op = .call { callee := .builtin .append, args := #[s, x], argTypes := #[T, T] }) (B : Nat) (E : TypeId) (z : Value) (bytes : Nat) (hT : P.underlying T = some (.slice E))
    (hE : (P.info? E).map (fun i => (i.zero, i.size, i.bytes)) = some (some z, 1, bytes)) (hz : z.cells.size = 1)
    (v : Value) (n : Nat) (xs : List Value) (ys : List Value) (src : Option Addr) (m c : Nat) (hm : m = ys.length) (hs : a.eval s = v) (hown : w.ownsRow B E 1 v n xs) (hx : a.eval x = .slice src m c)
    (hnil : src = none → ys = [] ∧ c = 0) (hsrc : IsVals w src ys) (hy : ∀ u ∈ ys, u.oneCell' = true) (hn : n + m ≤ maxLen) (hb : (n + m) * bytes ≤ 140737488355328) (hB : B ≤ w.heap.size)
    (h : ∀ v' w', w'.ownsRow B E 1 v' (n + m) (xs ++ ys) → w.grownBy w' v.ownBlock → Below B w w' → wpList P ops Q rest (a.put o.dst v') w') : wpList P ops Q (o :: rest) a w := by
  subst hm
  obtain ⟨i0, hi, hz0, hz1, hz2⟩ := info_parts hE
  cases src with
  | none =>
    obtain ⟨rfl, rfl⟩ := hnil rfl
    refine wpList_append_own_none hgd s x T ho B E i0 1 hT hi v n xs hs hown hx ?_
    refine h v w (by simpa using hown) ⟨rfl, rfl, rfl, Nat.le_refl _, fun _ _ _ => rfl⟩ (Below.refl _ _)
  | some ad =>
    refine wpList_append_own w hgd s x T ho B E i0 z 1 bytes hT hi hz0 hz1 hz2 hz (by decide) v n xs hs hown ad ys.length c ys hx (by simp) ?_ hy hn hb hB ?_
    · intro j u hj
      have hjl : j < ys.length := by
        by_cases hc : j < ys.length
        · exact hc
        · rw [List.getElem?_eq_none (by omega)] at hj; cases hj
      rcases hsrc with rfl | ⟨b, off, hab, hc⟩
      · simp at hjl
      · simp only [Option.some.injEq] at hab
        subst hab
        rw [addr_add, hc j hjl, hj]
    · intro v' w' h1 h2 _
      exact h v' w' h1 h2 (below_of_grown hown h2 hB)

end Go.Proofs.YtcfbcffmlinlaaaDoor
