/-
  A slice of things of several cells that reads as a list; the built-in append of one of them.
-/
import Derived.Test.YtcfbcffmlinlaaaDoorOwn
import Derived.Test.YtcfbcffmlinlaaaDoorOwnN
namespace Go.Proofs.YtcfbcffmlinlaaaDoor
open Go.RowKit

section
variable {α : Type}

/-- The slice at a reads as xs: sz cells each, as f says. -/
def IsSeq (d : α) (sz : Nat) (f : α → List Value) (w : World) (a : Option Addr) (xs : List α) : Prop :=
  xs = [] ∨ ∃ b off, a = some ⟨b, off, none⟩ ∧ ∀ i, i < xs.length → ∀ j, j < sz → w.cell? ⟨b, off + i * sz + j, none⟩ = some ((f (nthD d xs i)).getD j undef)

theorem IsSeq.ext {d : α} {sz : Nat} {f : α → List Value} {w w' : World} {a : Option Addr} {xs : List α} (h : IsSeq d sz f w a xs) (he : Ext w w') : IsSeq d sz f w' a xs := by
  rcases h with h | ⟨b, off, ha, hc⟩
  · exact .inl h
  · exact .inr ⟨b, off, ha, fun i hi j hj => he.cell (hc i hi j hj)⟩

theorem IsSeq.at {d : α} {sz : Nat} {f : α → List Value} {w : World} {a : Option Addr} {xs : List α} (h : IsSeq d sz f w a xs) {i : Nat} (hi : i < xs.length) :
    ∃ b off, a = some ⟨b, off, none⟩ ∧ ∀ j, j < sz → w.cell? ⟨b, off + i * sz + j, none⟩ = some ((f (nthD d xs i)).getD j undef) := by
  rcases h with rfl | ⟨b, off, ha, hc⟩
  · simp at hi
  · exact ⟨b, off, ha, hc i hi⟩

theorem flatMap_get {f : α → List Value} {sz : Nat} (hf : ∀ x, (f x).length = sz) (d : α) (xs : List α) : ∀ i, i < xs.length → ∀ j, j < sz → (xs.flatMap f)[i * sz + j]? = some ((f (nthD d xs i)).getD j undef) := by
  induction xs with
  | nil => intro i hi; simp at hi
  | cons x r ih =>
    intro i hi j hj
    rw [List.flatMap_cons]
    cases i with
    | zero =>
      rw [Nat.zero_mul, Nat.zero_add, List.getElem?_append_left (by rw [hf]; exact hj), nthD_cons_zero]
      rw [List.getD_eq_getElem?_getD, List.getElem?_eq_getElem (by rw [hf]; exact hj)]; rfl
    | succ i =>
      have e : (i + 1) * sz + j = (f x).length + (i * sz + j) := by rw [hf, Nat.succ_mul]; omega
      rw [e, List.getElem?_append_right (by omega), Nat.add_sub_cancel_left, nthD_cons_succ]
      exact ih i (by simpa using hi) j hj

theorem flatMap_len {f : α → List Value} {sz : Nat} (hf : ∀ x, (f x).length = sz) (xs : List α) : (xs.flatMap f).length = xs.length * sz := by
  induction xs with
  | nil => simp
  | cons x r ih => rw [List.flatMap_cons, List.length_append, hf, ih, List.length_cons, Nat.succ_mul]; omega

theorem IsSeq.own {d : α} {sz : Nat} {f : α → List Value} {w : World} {B : Nat} {E : TypeId} {v : Value} {n : Nat} {xs : List α} (hf : ∀ x, (f x).length = sz) (hsz : 0 < sz)
    (h : w.ownsRow B E sz v n (xs.flatMap f)) : ∃ a cap, v = .slice a n cap ∧ n = xs.length ∧ n ≤ cap ∧ IsSeq d sz f w a xs ∧ (∀ x, a = some x → B ≤ x.block) ∧ (a = none → cap = 0) := by
  have h0 := h
  obtain ⟨hl, h2⟩ := h
  have hln : n = xs.length := by
    rw [flatMap_len hf] at hl
    exact (Nat.eq_of_mul_eq_mul_right hsz hl).symm
  rcases h2 with ⟨rfl, rfl⟩ | ⟨g, cap, cur, rfl, hg, hh, hn, hm, hs, ht⟩
  · exact ⟨none, 0, rfl, hln, Nat.le_refl _, .inl (List.length_eq_zero_iff.1 hln.symm), (fun x h => by cases h), fun _ => rfl⟩
  · refine ⟨_, cap, rfl, hln, hn, .inr ⟨g, 0, rfl, fun i hi j hj => ?_⟩, (fun x h => by cases h; exact hg), fun h => by cases h⟩
    have := h0.cells (g := g) rfl (i * sz + j) _ (flatMap_get hf d xs i hi j hj)
    rw [addr_add] at this
    rw [← this, Nat.zero_add, Nat.zero_add]
end

/-- append of one thing of several cells onto a slice of the call's own. -/
theorem wpList_appS {P : Program} {ops : Array Oper} {rest : List Oper} {o : Oper} {a : Act} {Q : Exit → Act → World → Prop} {w : World} (hgd : o.guard = none) (s x : Operand) (T : TypeId)
    (ho : o.op = .call { callee := .builtin .append, args := #[s, x], argTypes := #[T, T] }) (B : Nat) (E : TypeId) (z : Value) (size bytes : Nat) (hT : P.underlying T = some (.slice E))
    (hE : (P.info? E).map (fun i => (i.zero, i.size, i.bytes)) = some (some z, size, bytes)) (hz : z.cells.size = size) (hsz : 0 < size)
    (v : Value) (n : Nat) (xs : List Value) (ys : List Value) (g : Nat) (hs : a.eval s = v) (hown : w.ownsRow B E size v n xs) (hx : a.eval x = .slice (some ⟨g, 0, none⟩) 1 1)
    (hyl : ys.length = size) (hg : ∀ j, j < size → w.cell? ⟨g, j, none⟩ = ys[j]?) (hy : ∀ u ∈ ys, u.oneCell' = true) (hn : n + 1 ≤ maxLen) (hb : (n + 1) * bytes ≤ 140737488355328) (hB : B ≤ w.heap.size)
    (h : ∀ v' w', w'.ownsRow B E size v' (n + 1) (xs ++ ys) → w.grownBy w' v.ownBlock → Below B w w' → wpList P ops Q rest (a.put o.dst v') w') : wpList P ops Q (o :: rest) a w := by
  obtain ⟨i0, hi, hz0, hz1, hz2⟩ := info_parts hE
  refine wpList_append_own w hgd s x T ho B E i0 z size bytes hT hi hz0 hz1 hz2 hz hsz v n xs hs hown ⟨g, 0, none⟩ 1 1 ys hx (by rw [Nat.one_mul]; exact hyl) ?_ hy hn hb hB ?_
  · intro j u hj
    have hjl : j < ys.length := by
      by_cases hc : j < ys.length
      · exact hc
      · rw [List.getElem?_eq_none (by omega)] at hj; cases hj
    rw [addr_add, Nat.zero_add, hg j (by omega), hj]
  · intro v' w' h1 h2 _
    exact h v' w' h1 h2 (below_of_grown hown h2 hB)

end Go.Proofs.YtcfbcffmlinlaaaDoor
