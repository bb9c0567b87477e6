/-
  The built-in append of one element onto a slice of the call's own.
-/
import Derived.Test.YtcfbcffmlinlaaaDoorBase
import Derived.Deep.Draws
namespace Go.Proofs.YtcfbcffmlinlaaaDoor
open Go.RowKit

theorem below_of_grown {w w' : World} {B : Nat} {E : TypeId} {size n : Nat} {v : Value} {xs : List Value} (hown : w.ownsRow B E size v n xs) (hg : w.grownBy w' v.ownBlock) (hB : B ≤ w.heap.size) : Below B w w' :=
  (Below.refl B w).grown hg hB (fun k hk => (hown.lt k hk).1)

theorem own_drewN {w : World} {B : Nat} {E : TypeId} {size n : Nat} {v : Value} {xs : List Value} (h : w.ownsRow B E size v n xs) (m : Nat) : (w.drewN m).ownsRow B E size v n xs := h

theorem wpList_app1 {P : Program} {ops : Array Oper} {rest : List Oper} {o : Oper} {a : Act} {Q : Exit → Act → World → Prop} {w : World} (hgd : o.guard = none) (s x : Operand) (T : TypeId)
    (ho : o.op = .call { callee := .builtin .append, args := #[s, x], argTypes := #[T, T] }) (B : Nat) (E : TypeId) (z : Value) (bytes : Nat) (hT : P.underlying T = some (.slice E))
    (hE : (P.info? E).map (fun i => (i.zero, i.size, i.bytes)) = some (some z, 1, bytes)) (hz : z.cells.size = 1)
    (v : Value) (n : Nat) (xs : List Value) (y : Value) (g : Nat) (hs : a.eval s = v) (hown : w.ownsRow B E 1 v n xs) (hx : a.eval x = .slice (some ⟨g, 0, none⟩) 1 1)
    (hg : w.cell? ⟨g, 0, none⟩ = some y) (hy : y.oneCell' = true) (hn : n + 1 ≤ maxLen) (hb : (n + 1) * bytes ≤ 140737488355328) (hB : B ≤ w.heap.size)
    (h : ∀ v' w', w'.ownsRow B E 1 v' (n + 1) (xs ++ [y]) → w.grownBy w' v.ownBlock → Below B w w' → wpList P ops Q rest (a.put o.dst v') w') : wpList P ops Q (o :: rest) a w := by
  obtain ⟨i0, hi, hz0, hz1, hz2⟩ := info_parts hE
  refine wpList_append_own w hgd s x T ho B E i0 z 1 bytes hT hi hz0 hz1 hz2 hz (by decide) v n xs hs hown ⟨g, 0, none⟩ 1 1 [y] hx rfl ?_ (by intro u hu; simp at hu; subst hu; exact hy) hn hb hB ?_
  · intro j u hj
    match j, hj with
    | 0, hj => simp at hj; subst hj; simpa [Addr.add] using hg
  · intro v' w' h1 h2 _
    exact h v' w' h1 h2 (below_of_grown hown h2 hB)

end Go.Proofs.YtcfbcffmlinlaaaDoor
