/-
  What came in as a slice of structs of numbers reads as a list.
-/
import Derived.Test.YthkfplkajlanoaaOpenI
import Derived.Test.YthkfplkajlanoaaSeq
import Derived.Lib.SmallJoins
namespace Go.Proofs.Ythkfplkajlanoaa
open Go.RowKit Go.Deep Go.ChangeShapes Go.WideShapes

section
variable {H : Type} {enc : TypeId × Value → H} {P : Program} {w : World} {base : Nat} {spare : Nat → Bool} {held : Bool}

/-- A struct of one-cell fields: each cell reads as its field. -/
theorem trod_flat {fs : Array Field} {t : TypeId} {fuel : Nat} {cs : List Value} {x : DataW H × List MemPlace} (ht : P.underlying t = some (.struct fs)) (hone : oneCellFields P fs = true) (hC : P.cellsOf t = fs.size)
    (h : DataW.trod enc P w base spare held fuel t cs = some x) :
    ∃ n, cs.length = fs.size ∧ ∀ (i : Nat) (f : Field) (v : Value), fs[i]? = some f → cs[i]? = some v → ∃ y, DataW.trod enc P w base spare held n f.type [v] = some y := by
  obtain ⟨xs, n, _, _, hl, hlen, hf⟩ := DataW.trod_struct ht h
  refine ⟨n, by rw [hl, hC], fun i f v hfi hvi => ?_⟩
  obtain ⟨ho, hc⟩ := hone_of hone i f hfi
  have h1 := hf i f hfi
  have hlt : i < fs.size := (Array.getElem?_eq_some_iff.1 hfi).1
  rw [List.getElem?_eq_getElem (by rw [hlen]; exact hlt)] at h1
  have hvl : i < cs.length := (List.getElem?_eq_some_iff.1 hvi).1
  rw [ho, hc, List.drop_eq_getElem_cons hvl, List.take_succ_cons, List.take_zero, (List.getElem?_eq_some_iff.1 hvi).2] at h1
  exact ⟨_, h1⟩

/-- A slice of things of sz cells, each with a property that its own reading gives. -/
theorem open_seq {α : Type} (d : α) (sz : Nat) (f : α → List Value) (good : α → Prop) (hf : ∀ x, (f x).length = sz) (hsz : 0 < sz) {t e : TypeId} {fuel : Nat} {cs : List Value} {x : DataW H × List MemPlace}
    (ht : P.underlying t = some (.slice e)) (hc : P.cellsOf e = sz)
    (hel : ∀ (n : Nat) (cs : List Value) y, DataW.trod enc P w base spare held n e cs = some y → ∃ b, cs = f b ∧ good b)
    (h : DataW.trod enc P w base spare held fuel t cs = some x) :
    ∃ (a : Option Addr) (len cap : Nat) (l : List α), cs = [.slice a len cap] ∧ len ≤ cap ∧ cap ≤ maxLen ∧ (a = none → cap = 0) ∧ l.length = len ∧ (∀ b ∈ l, good b) ∧ IsSeq d sz f w a l := by
  haveI : Inhabited α := ⟨d⟩
  rcases open_slice ht h with ⟨rfl, _⟩ | ⟨a, len, cap, m, n, D, Pl, rfl, hb, hl, hm, hmm, _, hx⟩
  · exact ⟨none, 0, 0, [], rfl, Nat.le_refl _, by decide, fun _ => rfl, rfl, (by intro b hb; cases hb), .inl rfl⟩
  · have hlm : len ≤ m := by rw [hmm]; split <;> omega
    rw [hc] at hx
    obtain ⟨F, hF⟩ := choose_lt (α := α) (p := fun i b => w.cells? base (a.add (i * sz)) sz = some (f b) ∧ good b) (fun i (hi : i < len) => by
      obtain ⟨cs', h1, h2⟩ := hx i (by omega)
      obtain ⟨b, rfl, hg⟩ := hel _ _ _ h2
      exact ⟨b, h1, hg⟩)
    refine ⟨some a, len, cap, (List.range len).map F, rfl, hl, hm, fun h => (by cases h), by simp, ?_, ?_⟩
    · intro b hb
      obtain ⟨i, hi, rfl⟩ := List.mem_map.1 hb
      exact (hF i (List.mem_range.1 hi)).2
    · by_cases h0 : len = 0
      · subst h0; exact .inl rfl
      · obtain ⟨b, off, spot⟩ := a
        have q0 := (World.cells?_some (hF 0 (by omega)).1).2.2 0 hsz
        have hsp : spot = none := by
          have h1 : (f (F 0))[0]? = some ((f (F 0)).getD 0 undef) := by
            rw [List.getD_eq_getElem?_getD, List.getElem?_eq_getElem (by rw [hf]; exact hsz)]; rfl
          have := World.cell?_spot (q0.trans h1)
          simpa [Addr.add] using this
        subst hsp
        refine .inr ⟨b, off, rfl, fun i hi j hj => ?_⟩
        have hi' : i < len := by simpa using hi
        have en : nthD d ((List.range len).map F) i = F i := by simp [nthD, List.getElem?_range hi']
        rw [en]
        have q := (World.cells?_some (hF i hi').1).2.2 j hj
        simp only [addr_add] at q
        rw [q, List.getD_eq_getElem?_getD, List.getElem?_eq_getElem (by rw [hf]; exact hj)]
        rfl
end

theorem u64_wf {b : Int} (h : (Lit.int .u64 b).wf = true) : u64Ok b := by
  have hmin : IntKind.u64.min = 0 := rfl
  have hmax : IntKind.u64.max = 18446744073709551615 := rfl
  simp only [Lit.wf, Bool.and_eq_true, decide_eq_true_eq] at h
  unfold u64Ok; omega

theorem i64_wf {b : Int} (h : (Lit.int .i64 b).wf = true) : -9223372036854775808 ≤ b ∧ b ≤ 9223372036854775807 := by
  have hmin : IntKind.i64.min = -9223372036854775808 := rfl
  have hmax : IntKind.i64.max = 9223372036854775807 := rfl
  simp only [Lit.wf, Bool.and_eq_true, decide_eq_true_eq] at h
  omega

theorem list3 {α : Type} (l : List α) (h : l.length = 3) : ∃ a b c, l = [a, b, c] := by
  match l, h with
  | [a, b, c], _ => exact ⟨a, b, c, rfl⟩
theorem list6 {α : Type} (l : List α) (h : l.length = 6) : ∃ a b c d e f, l = [a, b, c, d, e, f] := by
  match l, h with
  | [a, b, c, d, e, f], _ => exact ⟨a, b, c, d, e, f, rfl⟩

end Go.Proofs.Ythkfplkajlanoaa
