/-
  A map of int keys, whatever its elements: looking up, and storing, at the operation.
-/
import Derived.Maps.OwnOps
import Derived.WalkKit
set_option linter.unusedVariables false
namespace Go.Proofs.YtpkfimijnkkbjaaGreat
open Go

/-- Block b is a map of these pairs, in the order in which the keys came. -/
def IMap (w : World) (b : Nat) (l : List (Int × Value)) : Prop :=
  ∃ (es : Array MapEntry) (clock : Nat), w.heap[b]? = some (.map es clock) ∧ es.toList.map (fun e => (e.key, e.val)) = l.map fun p => (Value.int .i64 p.1, p.2)

/-- Where a key stands, and its element. -/
def iget (k : Int) : List (Int × Value) → Nat → Option (Nat × Value)
  | [], _ => none
  | p :: l, i => if k = p.1 then some (i, p.2) else iget k l (i + 1)

theorem findNow_int (k : Int) : ∀ (es : List MapEntry) (l : List (Int × Value)) (i : Nat), es.map (fun e => (e.key, e.val)) = l.map (fun p => (Value.int .i64 p.1, p.2)) → Instr.findNow (.int .i64) (.int .i64 k) es i = some (iget k l i)
  | [], [], i, _ => rfl
  | [], _ :: _, _, h => by cases h
  | _ :: _, [], _, h => by cases h
  | e :: es, p :: l, i, h => by
    simp only [List.map_cons, List.cons.injEq, Prod.mk.injEq] at h
    obtain ⟨⟨h1, h2⟩, h3⟩ := h
    have ih := findNow_int k es l (i + 1) h3
    unfold Instr.findNow iget
    rw [h1]
    simp only [Instr.sameNow, if_true]
    by_cases hk : k = p.1
    · subst hk; simp [h2]
    · have : (k == p.1) = false := beq_eq_false_iff_ne.2 hk
      rw [this, if_neg hk]; exact ih

theorem run_lookup_int {P : Program} {T E kt : TypeId} (hT : P.underlying T = some (.map kt E)) (hk : P.underlying kt = some (.int .i64)) (z : Value) (w : World) (hz : (zeroValue E).run P w = .ok z w) (b : Nat) (l : List (Int × Value)) (h : IMap w b l) (k : Int) :
    (Instr.lookup T (.map (some b)) (.int .i64 k) false).run P w = .ok (((iget k l 0).map (·.2)).getD z) w := by
  obtain ⟨es, clock, hb, he⟩ := h
  have hf := findNow_int k es.toList l 0 he
  have h1 := MapKept.run_checkKey (P := P) (w := w) (kt := kt) (k := .int .i64 k) hk (by simp [MapKept.IsKey]) es.isEmpty 9999
  have h2 := MapKept.run_findKey (P := P) (w := w) hk hf
  cases hg : iget k l 0 with
  | none =>
    rw [hg] at h2
    simp [Instr.lookup, run_underlying hT, MapKept.run_getObj_map hb, h1, h2, hz, Result.andThen]
  | some p =>
    rw [hg] at h2
    simp [Instr.lookup, run_underlying hT, MapKept.run_getObj_map hb, h1, h2, Result.andThen]

/-- The pairs behind a store. -/
def iput (k : Int) (v : Value) : List (Int × Value) → List (Int × Value)
  | [] => [(k, v)]
  | p :: l => if k = p.1 then (k, v) :: l else p :: iput k v l

theorem iput_none (k : Int) (v : Value) : ∀ (l : List (Int × Value)) (i : Nat), iget k l i = none → iput k v l = l ++ [(k, v)]
  | [], _, _ => rfl
  | p :: l, i, h => by
    unfold iget at h
    by_cases hk : k = p.1
    · rw [if_pos hk] at h; cases h
    · rw [if_neg hk] at h
      unfold iput
      rw [if_neg hk, iput_none k v l (i + 1) h]; rfl
theorem iput_some (k : Int) (v : Value) : ∀ (l : List (Int × Value)) (i j : Nat) (u : Value), iget k l i = some (j, u) → i ≤ j ∧ iput k v l = l.set (j - i) (k, v)
  | [], _, _, _, h => by cases h
  | p :: l, i, j, u, h => by
    unfold iget at h
    by_cases hk : k = p.1
    · rw [if_pos hk] at h
      simp only [Option.some.injEq, Prod.mk.injEq] at h
      obtain ⟨rfl, -⟩ := h
      unfold iput
      rw [if_pos hk]; simp
    · rw [if_neg hk] at h
      obtain ⟨h1, h2⟩ := iput_some k v l (i + 1) j u h
      refine ⟨by omega, ?_⟩
      unfold iput
      rw [if_neg hk, h2, show j - i = (j - (i + 1)) + 1 by omega]; rfl

theorem iget_at (k : Int) : ∀ (l : List (Int × Value)) (i j : Nat) (u : Value), iget k l i = some (j, u) → i ≤ j ∧ l[j - i]? = some (k, u)
  | [], _, _, _, h => by cases h
  | p :: l, i, j, u, h => by
    unfold iget at h
    by_cases hk : k = p.1
    · rw [if_pos hk] at h
      simp only [Option.some.injEq, Prod.mk.injEq] at h
      obtain ⟨rfl, h2⟩ := h
      exact ⟨Nat.le_refl _, by rw [Nat.sub_self, hk, ← h2]; rfl⟩
    · rw [if_neg hk] at h
      obtain ⟨h1, h2⟩ := iget_at k l (i + 1) j u h
      exact ⟨by omega, by rw [show j - i = (j - (i + 1)) + 1 by omega]; exact h2⟩

theorem stays_int {P : Program} (a b : Int) (h : a = b) (w : World) : (Instr.keyThatStays (.int .i64 a) (.int .i64 b)).run P w = .ok (.int .i64 b) w := by
  subst h
  unfold Instr.keyThatStays
  simp [Instr.sameBits]

theorem run_update_int {P : Program} {T E kt : TypeId} (hT : P.underlying T = some (.map kt E)) (hk : P.underlying kt = some (.int .i64)) (w : World) (b : Nat) (l : List (Int × Value)) (h : IMap w b l) (k : Int) (v : Value) :
    ∃ w', (Instr.mapUpdate T (.map (some b)) (.int .i64 k) v).run P w = .ok () w' ∧ IMap w' b (iput k v l) ∧ w.grownBy w' (some b) := by
  obtain ⟨es, clock, hb, he⟩ := h
  have hf := findNow_int k es.toList l 0 he
  have h1 := MapKept.run_checkKey (P := P) (w := w) (kt := kt) (k := .int .i64 k) hk (by simp [MapKept.IsKey]) false 9999
  have h2 := MapKept.run_findKey (P := P) (w := w) hk hf
  have hgrow : ∀ o : Obj, w.grownBy { w with heap := w.heap.setIfInBounds b o } (some b) := fun o =>
    ⟨rfl, rfl, rfl, by simp, fun i _ hi => (MapKept.heap_set (o' := o) hb).2 i (fun e => hi (by rw [e]))⟩
  cases hg : iget k l 0 with
  | none =>
    rw [hg] at h2
    refine ⟨_, by simp [Instr.mapUpdate, run_underlying hT, MapKept.run_getObj_map hb, h1, h2, MapKept.run_setObj_map _ hb, Result.andThen]; rfl, ?_, hgrow _⟩
    refine ⟨_, _, (MapKept.heap_set hb).1, ?_⟩
    rw [iput_none k v l 0 hg]
    simp [he]
  | some p =>
    obtain ⟨j, u⟩ := p
    rw [hg] at h2
    obtain ⟨-, hp⟩ := iput_some k v l 0 j u hg
    have hat := (iget_at k l 0 j u hg).2
    rw [Nat.sub_zero] at hat hp
    have h3 := congrArg (fun x => x[j]?) he
    simp only [List.getElem?_map, hat, Option.map_some] at h3
    obtain ⟨e0, he0, hkv⟩ := Option.map_eq_some_iff.1 h3
    simp only [Prod.mk.injEq] at hkv
    have he1 : es[j]? = some e0 := by simpa using he0
    have hst := stays_int (P := P) k k rfl w
    refine ⟨_, by simp [Instr.mapUpdate, run_underlying hT, MapKept.run_getObj_map hb, h1, h2, he1, hkv.1, hst, MapKept.run_setObj_map _ hb, Result.andThen]; rfl, ?_, hgrow _⟩
    refine ⟨_, _, (MapKept.heap_set hb).1, ?_⟩
    rw [hp]
    apply List.ext_getElem?
    intro i
    have h4 := congrArg (fun x => x[i]?) he
    simp only [List.getElem?_map] at h4
    rw [Array.toList_modify, List.getElem?_map, List.getElem?_modify, List.getElem?_map, List.getElem?_set]
    by_cases hji : j = i
    · subst hji
      have hlt : j < l.length := (List.getElem?_eq_some_iff.1 hat).1
      simp [he0, hlt]
    · rw [if_neg hji]
      simp only [hji, if_false]
      simpa using h4

end Go.Proofs.YtpkfimijnkkbjaaGreat
