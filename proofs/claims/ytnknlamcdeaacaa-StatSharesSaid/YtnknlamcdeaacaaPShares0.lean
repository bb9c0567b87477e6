/-
  What came in as a slice of events reads as a list.
-/
import Derived.Test.YtnknlamcdeaacaaRows
import Derived.Test.YtnknlamcdeaacaaOpen
import Derived.Test.YtnknlamcdeaacaaWSharesLaw
import Derived.OpenShut
namespace Go.Proofs.Ytnknlamcdeaacaa
open Go.RowKit Go.Deep Go.ChangeShapes Go.WideShapes

instance : Inhabited Ev := ⟨ev0⟩

theorem list8 {α : Type} (l : List α) (h : l.length = 8) : ∃ a b c d e f g i, l = [a, b, c, d, e, f, g, i] := by
  match l, h with
  | [a, b, c, d, e, f, g, i], _ => exact ⟨a, b, c, d, e, f, g, i, rfl⟩

section
variable {H : Type} {enc : TypeId × Value → H} {w : World} {base : Nat} {spare : Nat → Bool} {held : Bool}

theorem trod_sl {t e : TypeId} {fuel : Nat} {v : Value} {x : DataW H × List MemPlace} (ht : Try.prog.underlying t = some (.slice e)) (h : DataW.trod enc Try.prog w base spare held fuel t [v] = some x) :
    ∃ a n c, v = .slice a n c := by
  rcases DataW.trod_slice ht h with ⟨h0, _⟩ | ⟨a, len, cap, elems, rest, n, _, h0, _⟩
  · exact ⟨none, 0, 0, by simpa using h0⟩
  · exact ⟨some a, len, cap, by simpa using h0⟩

theorem open_ev {fuel : Nat} {cs : List Value} {x : DataW H × List MemPlace} (h : DataW.trod enc Try.prog w base spare held fuel 43 cs = some x) :
    ∃ e : Ev, cs = [.int .i64 e.call, .int .i64 e.inv, .int .i64 e.resp, .int .i64 e.steps, .int .i64 e.err, .int .u64 e.val, .slice e.la e.ln e.lc, .slice e.ka e.kn e.kc] := by
  have c43 : Try.prog.cellsOf 43 = 8 := by kernel_rfl
  have c41 : Try.prog.cellsOf 41 = 3 := by kernel_rfl
  have c3 : Try.prog.cellsOf 3 = 1 := by kernel_rfl
  have c22 : Try.prog.cellsOf 22 = 1 := by kernel_rfl
  have c37 : Try.prog.cellsOf 37 = 1 := by kernel_rfl
  have c38 : Try.prog.cellsOf 38 = 1 := by kernel_rfl
  have c39 : Try.prog.cellsOf 39 = 1 := by kernel_rfl
  obtain ⟨xs, n, _, _, hl, hlen, hf⟩ := DataW.trod_struct Try.underlying43 h
  rw [c43] at hl
  obtain ⟨v0, v1, v2, v3, v4, v5, v6, v7, rfl⟩ := list8 cs hl
  have sz : ∀ i, i < 6 → ∃ y, xs[i]? = some y := fun i hi => ⟨_, List.getElem?_eq_getElem (by rw [hlen]; exact hi)⟩
  obtain ⟨y0, e0⟩ := sz 0 (by decide)
  obtain ⟨y1, e1⟩ := sz 1 (by decide)
  obtain ⟨y2, e2⟩ := sz 2 (by decide)
  obtain ⟨y3, e3⟩ := sz 3 (by decide)
  obtain ⟨y4, e4⟩ := sz 4 (by decide)
  obtain ⟨y5, e5⟩ := sz 5 (by decide)
  have f0 : DataW.trod enc Try.prog w base spare held n 3 (List.take (Try.prog.cellsOf 3) (List.drop 0 [v0, v1, v2, v3, v4, v5, v6, v7])) = xs[0]? := hf 0 _ rfl
  rw [c3, e0] at f0
  replace f0 : DataW.trod enc Try.prog w base spare held n 3 [v0] = some y0 := f0
  have f1 : DataW.trod enc Try.prog w base spare held n 3 (List.take (Try.prog.cellsOf 3) (List.drop 1 [v0, v1, v2, v3, v4, v5, v6, v7])) = xs[1]? := hf 1 _ rfl
  rw [c3, e1] at f1
  replace f1 : DataW.trod enc Try.prog w base spare held n 3 [v1] = some y1 := f1
  have f2 : DataW.trod enc Try.prog w base spare held n 3 (List.take (Try.prog.cellsOf 3) (List.drop 2 [v0, v1, v2, v3, v4, v5, v6, v7])) = xs[2]? := hf 2 _ rfl
  rw [c3, e2] at f2
  replace f2 : DataW.trod enc Try.prog w base spare held n 3 [v2] = some y2 := f2
  have f3 : DataW.trod enc Try.prog w base spare held n 3 (List.take (Try.prog.cellsOf 3) (List.drop 3 [v0, v1, v2, v3, v4, v5, v6, v7])) = xs[3]? := hf 3 _ rfl
  rw [c3, e3] at f3
  replace f3 : DataW.trod enc Try.prog w base spare held n 3 [v3] = some y3 := f3
  have f4 : DataW.trod enc Try.prog w base spare held n 41 (List.take (Try.prog.cellsOf 41) (List.drop 4 [v0, v1, v2, v3, v4, v5, v6, v7])) = xs[4]? := hf 4 _ rfl
  rw [c41, e4] at f4
  replace f4 : DataW.trod enc Try.prog w base spare held n 41 [v4, v5, v6] = some y4 := f4
  have f5 : DataW.trod enc Try.prog w base spare held n 22 (List.take (Try.prog.cellsOf 22) (List.drop 7 [v0, v1, v2, v3, v4, v5, v6, v7])) = xs[5]? := hf 5 _ rfl
  rw [c22, e5] at f5
  replace f5 : DataW.trod enc Try.prog w base spare held n 22 [v7] = some y5 := f5
  obtain ⟨n0, a0, _, _⟩ := DataW.trod_int Try.underlying3 f0
  obtain ⟨n1, a1, _, _⟩ := DataW.trod_int Try.underlying3 f1
  obtain ⟨n2, a2, _, _⟩ := DataW.trod_int Try.underlying3 f2
  obtain ⟨n3, a3, _, _⟩ := DataW.trod_int Try.underlying3 f3
  obtain ⟨ka, kn, kc, rfl⟩ := trod_sl Try.underlying22 f5
  obtain ⟨ys, m, _, _, hl2, hlen2, hg⟩ := DataW.trod_struct Try.underlying41 f4
  have sz2 : ∀ i, i < 3 → ∃ y, ys[i]? = some y := fun i hi => ⟨_, List.getElem?_eq_getElem (by rw [hlen2]; exact hi)⟩
  obtain ⟨z0, k0⟩ := sz2 0 (by decide)
  obtain ⟨z1, k1⟩ := sz2 1 (by decide)
  obtain ⟨z2, k2⟩ := sz2 2 (by decide)
  have g0 : DataW.trod enc Try.prog w base spare held m 37 (List.take (Try.prog.cellsOf 37) (List.drop 0 [v4, v5, v6])) = ys[0]? := hg 0 _ rfl
  rw [c37, k0] at g0
  replace g0 : DataW.trod enc Try.prog w base spare held m 37 [v4] = some z0 := g0
  have g1 : DataW.trod enc Try.prog w base spare held m 38 (List.take (Try.prog.cellsOf 38) (List.drop 1 [v4, v5, v6])) = ys[1]? := hg 1 _ rfl
  rw [c38, k1] at g1
  replace g1 : DataW.trod enc Try.prog w base spare held m 38 [v5] = some z1 := g1
  have g2 : DataW.trod enc Try.prog w base spare held m 39 (List.take (Try.prog.cellsOf 39) (List.drop 2 [v4, v5, v6])) = ys[2]? := hg 2 _ rfl
  rw [c39, k2] at g2
  replace g2 : DataW.trod enc Try.prog w base spare held m 39 [v6] = some z2 := g2
  obtain ⟨n4, a4, _, _⟩ := DataW.trod_int Try.underlying37 g0
  obtain ⟨n5, a5, _, _⟩ := DataW.trod_int Try.underlying38 g1
  obtain ⟨la, ln, lc, rfl⟩ := trod_sl Try.underlying39 g2
  simp only [List.cons.injEq, and_true] at a0 a1 a2 a3 a4 a5
  subst a0 a1 a2 a3 a4 a5
  exact ⟨⟨n0, n1, n2, n3, n4, n5, la, ln, lc, ka, kn, kc⟩, rfl⟩

theorem open_evs {a : Option Addr} {len cap fuel : Nat} {x : DataW H × List MemPlace} (h : DataW.trod enc Try.prog w 0 spare held fuel 35 (Value.slice a len cap).cells.toList = some x) :
    ∃ es : List Ev, es.length = len ∧ IsEvs w a es := by
  have c43 : Try.prog.cellsOf 43 = 8 := by kernel_rfl
  rcases open_slice Try.underlying35 h with ⟨h0, _⟩ | ⟨ad, len', cap', m, n, D, Pl, h0, _, hl, hm, hmm, _, hx⟩
  · simp only [Value.cells, List.cons.injEq, and_true, Value.slice.injEq] at h0
    obtain ⟨rfl, rfl, rfl⟩ := h0
    exact ⟨[], rfl, .inl rfl⟩
  · simp only [Value.cells, List.cons.injEq, and_true, Value.slice.injEq] at h0
    obtain ⟨rfl, rfl, rfl⟩ := h0
    have hlm : len ≤ m := by rw [hmm]; split <;> omega
    rw [c43] at hx
    obtain ⟨F, hF⟩ := choose_lt (α := Ev) (p := fun i e => w.cells? 0 (ad.add (i * 8)) 8 = some [.int .i64 e.call, .int .i64 e.inv, .int .i64 e.resp, .int .i64 e.steps, .int .i64 e.err, .int .u64 e.val, .slice e.la e.ln e.lc, .slice e.ka e.kn e.kc]) (fun i (hi : i < len) => by
      obtain ⟨cs', h1, h2⟩ := hx i (by omega)
      obtain ⟨e, rfl⟩ := open_ev h2
      exact ⟨e, h1⟩)
    refine ⟨(List.range len).map F, by simp, ?_⟩
    by_cases h0 : len = 0
    · subst h0; exact .inl rfl
    · obtain ⟨b, off, spot⟩ := ad
      have q0 := (World.cells?_some (hF 0 (by omega))).2.2 0 (by omega)
      have hsp : spot = none := by
        have := World.cell?_spot (show w.cell? _ = some (.int .i64 (F 0).call) by simpa using q0)
        simpa [Addr.add] using this
      subst hsp
      refine .inr ⟨b, off, rfl, fun i hi => ?_⟩
      have hi' : i < len := by simpa using hi
      have en : nthD ev0 ((List.range len).map F) i = F i := by simp [nthD, List.getElem?_range hi']
      rw [en]
      have q := (World.cells?_some (hF i hi')).2.2
      have r := fun j (hj : j < 8) => q j hj
      simp only [addr_add] at r
      have r0 := r 0 (by decide)
      have r1 := r 1 (by decide)
      have r2 := r 2 (by decide)
      have r3 := r 3 (by decide)
      have r4 := r 4 (by decide)
      have r5 := r 5 (by decide)
      have r6 := r 6 (by decide)
      have r7 := r 7 (by decide)
      simp at r0 r1 r2 r3 r4 r5 r6 r7
      exact ⟨r0, r1, r2, r3, r4, r5, r6, r7⟩
end

end Go.Proofs.Ytnknlamcdeaacaa
