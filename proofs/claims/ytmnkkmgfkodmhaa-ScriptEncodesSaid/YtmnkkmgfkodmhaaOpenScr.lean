/-
  What came in as a script reads as one.
-/
import Derived.Test.YtmnkkmgfkodmhaaOpenS
import Derived.Test.YtmnkkmgfkodmhaaScrMem
namespace Go.Proofs.Ytmnkkmgfkodmhaa
open Go.RowKit Go.Deep Go.ChangeShapes Go.WideShapes

section
variable {H : Type} {enc : TypeId × Value → H} {w : World} {base : Nat} {spare : Nat → Bool} {held : Bool}

theorem open_spc (n : Nat) (cs : List Value) (y : DataW H × List MemPlace) (h : DataW.trod enc Try.prog w base spare held n 42 cs = some y) : ∃ s : Spc, cs = spcCells s ∧ True := by
  obtain ⟨m, hl, hf⟩ := trod_flat Try.underlying42 (by kernel_rfl) (by kernel_rfl) h
  obtain ⟨a, b, c, rfl⟩ := list3 cs hl
  obtain ⟨y0, g0⟩ := hf 0 _ a rfl rfl
  obtain ⟨y1, g1⟩ := hf 1 _ b rfl rfl
  obtain ⟨y2, g2⟩ := hf 2 _ c rfl rfl
  obtain ⟨n0, e0, _⟩ := trod_intk Try.underlying3 g0
  obtain ⟨n1, e1, _⟩ := trod_intk Try.underlying3 g1
  obtain ⟨n2, e2, _⟩ := trod_intk Try.underlying3 g2
  simp only [List.cons.injEq, and_true] at e0 e1 e2
  subst e0 e1 e2
  exact ⟨⟨n0, n1, n2⟩, rfl, trivial⟩

theorem open_cll (n : Nat) (cs : List Value) (y : DataW H × List MemPlace) (h : DataW.trod enc Try.prog w base spare held n 47 cs = some y) : ∃ c : Cll, cs = cllCells c ∧ c.wide := by
  obtain ⟨m, hl, hf⟩ := trod_flat Try.underlying47 (by kernel_rfl) (by kernel_rfl) h
  obtain ⟨a, b, c, d, e, f, rfl⟩ := list6 cs hl
  obtain ⟨y0, g0⟩ := hf 0 _ a rfl rfl
  obtain ⟨y1, g1⟩ := hf 1 _ b rfl rfl
  obtain ⟨y2, g2⟩ := hf 2 _ c rfl rfl
  obtain ⟨y3, g3⟩ := hf 3 _ d rfl rfl
  obtain ⟨y4, g4⟩ := hf 4 _ e rfl rfl
  obtain ⟨y5, g5⟩ := hf 5 _ f rfl rfl
  obtain ⟨n0, e0, _⟩ := trod_intk Try.underlying3 g0
  obtain ⟨n1, e1, _⟩ := trod_intk Try.underlying3 g1
  obtain ⟨n2, e2, _⟩ := trod_intk Try.underlying3 g2
  obtain ⟨n3, e3, w3⟩ := trod_intk Try.underlying45 g3
  obtain ⟨n4, e4, w4⟩ := trod_intk Try.underlying45 g4
  obtain ⟨n5, e5, w5⟩ := trod_intk Try.underlying45 g5
  simp only [List.cons.injEq, and_true] at e0 e1 e2 e3 e4 e5
  subst e0 e1 e2 e3 e4 e5
  exact ⟨⟨n0, n1, n2, n3, n4, n5⟩, rfl, u64_wf w3, u64_wf w4, u64_wf w5⟩

theorem open_scr {v : Value} {d : DataW H} {p : List MemPlace} {b0 : Nat} (o : Value.okWide Try.prog w .any b0 26 v) (h : DataW.Trod enc Try.prog w base spare held 26 v d p) :
    ∃ (s : Scr) (m : Lies), v = .agg #[.int .i64 s.n, .slice m.sa s.specs.length m.sc, .slice m.ca s.calls.length m.cc, .slice m.pa s.picks.length m.pc] ∧ Fits s ∧ s.wide ∧ LiesAt s m w := by
  obtain ⟨v0, v1, v2, v3, y0, y1, y2, y3, n, rfl, _, _, g0, g1, g2, g3⟩ := Go.Joins.open_agg4 Try.underlying26 (by kernel_rfl) (by kernel_rfl) o h
  obtain ⟨k, e0, w0⟩ := trod_intk Try.underlying3 g0
  obtain ⟨sa, sl, sc, specs, e1, _, h12, _, rfl, _, hs⟩ := open_seq spc0 3 spcCells (fun _ => True) spcCells_len (by decide) Try.underlying22 (by kernel_rfl) open_spc g1
  obtain ⟨ca, cl, cc, calls, e2, _, h22, _, rfl, hw, hc⟩ := open_seq cll0 6 cllCells Cll.wide cllCells_len (by decide) Try.underlying23 (by kernel_rfl) open_cll g2
  obtain ⟨pa, pl, pc, picks, e3, _, h32, _, rfl, _, hp⟩ := open_intk (k := .i64) Try.underlying24 Try.underlying3 (by kernel_rfl) g3
  simp only [List.cons.injEq, and_true] at e0 e1 e2 e3
  subst e0 e1 e2 e3
  unfold maxLen at h12 h22 h32
  exact ⟨⟨k, specs, calls, picks⟩, ⟨sa, sc, ca, cc, pa, pc⟩, rfl, ⟨i64_wf w0, by simp only; omega, by simp only; omega, by simp only; omega⟩, hw, hs, hc, hp⟩
end

end Go.Proofs.Ytmnkkmgfkodmhaa
