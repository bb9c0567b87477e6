/-
  What came in as calls and as a report reads as such.
-/
import Derived.Test.YtkhagpnnkfglbaaOpenEv
import Derived.Test.YtkhagpnnkfglbaaTxRep
namespace Go.Proofs.Ytkhagpnnkfglbaa
open Go.RowKit Go.Deep Go.ChangeShapes Go.WideShapes

section
variable {H : Type} {enc : TypeId × Value → H} {w : World} {base : Nat} {spare : Nat → Bool} {held : Bool}

theorem open_calls {fuel : Nat} {cs : List Value} {x : DataW H × List MemPlace} (h : DataW.trod enc Try.prog w base spare held fuel 44 cs = some x) :
    ∃ (a : Option Addr) (len cap : Nat) (l : List Tx.Cl), cs = [.slice a len cap] ∧ len ≤ cap ∧ cap ≤ maxLen ∧ (a = none → cap = 0) ∧ l.length = len ∧ (∀ b ∈ l, b.ok) ∧ IsCls w a l :=
  open_seq Tx.cl0 6 clCells Tx.Cl.ok clCells_len (by decide) Try.underlying44 (by kernel_rfl) (fun n cs y hy => by
    obtain ⟨t, o, k, a, b, c, rfl, h1⟩ := open_call n cs y hy
    exact ⟨⟨t, o, k, a, b, c⟩, rfl, h1⟩) h

theorem open_evs {fuel : Nat} {cs : List Value} {x : DataW H × List MemPlace} (h : DataW.trod enc Try.prog w base spare held fuel 45 cs = some x) :
    ∃ (a : Option Addr) (len cap : Nat) (l : List (Tx.Evt × EvM)), cs = [.slice a len cap] ∧ len ≤ cap ∧ cap ≤ maxLen ∧ (a = none → cap = 0) ∧ l.length = len ∧ (∀ b ∈ l, EvIn b.1 b.2 w) ∧ IsEvs w a l :=
  open_seq evd 8 evpCells (fun p => EvIn p.1 p.2 w) evpCells_len (by decide) Try.underlying45 (by kernel_rfl) (fun n cs y hy => by
    obtain ⟨e, m, rfl, h1⟩ := open_evt n cs y hy
    exact ⟨(e, m), rfl, h1⟩) h

theorem list9 {α : Type} (l : List α) (h : l.length = 9) : ∃ a b c d e f g i j, l = [a, b, c, d, e, f, g, i, j] := by
  match l, h with
  | [a, b, c, d, e, f, g, i, j], _ => exact ⟨a, b, c, d, e, f, g, i, j, rfl⟩

theorem open_counts {n : Nat} {cs : List Value} {y : DataW H × List MemPlace} (h : DataW.trod enc Try.prog w base spare held n 47 cs = some y) :
    ∃ a b c d e : Int, cs = [.int .i64 a, .int .i64 b, .int .i64 c, .int .i64 d, .int .i64 e] ∧ Tx.i64 a ∧ Tx.i64 b ∧ Tx.i64 c ∧ Tx.i64 d ∧ Tx.i64 e := by
  obtain ⟨m, hl, hf⟩ := trod_flat Try.underlying47 (by kernel_rfl) (by kernel_rfl) h
  obtain ⟨a, b, c, d, e, rfl⟩ : ∃ a b c d e, cs = [a, b, c, d, e] := by
    match cs, hl with
    | [a, b, c, d, e], _ => exact ⟨a, b, c, d, e, rfl⟩
  obtain ⟨y0, g0⟩ := hf 0 _ a rfl rfl
  obtain ⟨y1, g1⟩ := hf 1 _ b rfl rfl
  obtain ⟨y2, g2⟩ := hf 2 _ c rfl rfl
  obtain ⟨y3, g3⟩ := hf 3 _ d rfl rfl
  obtain ⟨y4, g4⟩ := hf 4 _ e rfl rfl
  obtain ⟨n0, e0, w0⟩ := trod_intk Try.underlying3 g0
  obtain ⟨n1, e1, w1⟩ := trod_intk Try.underlying3 g1
  obtain ⟨n2, e2, w2⟩ := trod_intk Try.underlying3 g2
  obtain ⟨n3, e3, w3⟩ := trod_intk Try.underlying3 g3
  obtain ⟨n4, e4, w4⟩ := trod_intk Try.underlying3 g4
  simp only [List.cons.injEq, and_true] at e0 e1 e2 e3 e4
  subst e0 e1 e2 e3 e4
  exact ⟨n0, n1, n2, n3, n4, rfl, i64_wf w0, i64_wf w1, i64_wf w2, i64_wf w3, i64_wf w4⟩

theorem open_rep (n : Nat) (cs : List Value) (y : DataW H × List MemPlace) (h : DataW.trod enc Try.prog w base spare held n 49 cs = some y) :
    ∃ (ea : Option Addr) (ec : Nat) (es : List (Tx.Evt × EvM)) (wa : Option Addr) (wn wc : Nat) (r : Tx.Rep),
      cs = [.slice ea es.length ec, .slice wa wn wc, .int .i64 r.r, .int .i64 r.w, .int .i64 r.s, .int .i64 r.a, .int .i64 r.f, .int .i64 r.ticks, .int .i64 r.idle] ∧
      es.length ≤ maxLen ∧ (∀ b ∈ es, EvIn b.1 b.2 w) ∧ IsEvs w ea es ∧ r.ok := by
  obtain ⟨k, hl, hf⟩ := trod_part Try.underlying49 h
  have hl : cs.length = 9 := hl.trans (by kernel_rfl)
  obtain ⟨c0, c1, c2, c3, c4, c5, c6, c7, c8, rfl⟩ := list9 cs hl
  obtain ⟨y0, g0⟩ := hf 0 _ rfl
  obtain ⟨y1, g1⟩ := hf 1 _ rfl
  obtain ⟨y2, g2⟩ := hf 2 _ rfl
  obtain ⟨y3, g3⟩ := hf 3 _ rfl
  obtain ⟨y4, g4⟩ := hf 4 _ rfl
  have s1 : Try.prog.cellsOf 45 = 1 := by kernel_rfl
  have s2 : Try.prog.cellsOf 24 = 1 := by kernel_rfl
  have s3 : Try.prog.cellsOf 47 = 5 := by kernel_rfl
  have s4 : Try.prog.cellsOf 3 = 1 := by kernel_rfl
  simp only [List.getElem_toArray, List.getElem_cons_zero, List.getElem_cons_succ, s1, s2, s3, s4, List.drop_succ_cons, List.drop_zero, List.take_succ_cons, List.take_zero] at g0 g1 g2 g3 g4
  obtain ⟨ea, el, ec, es, e0, l1, l2, l3, rfl, lg, lx⟩ := open_evs g0
  obtain ⟨wa, wl, wc, ws, e1, m1, m2, m3, rfl, mg, mx⟩ := open_intk (k := .u64) Try.underlying24 Try.underlying23 (by kernel_rfl) g1
  obtain ⟨n0, n1, n2, n3, n4, e2, o0, o1, o2, o3, o4⟩ := open_counts g2
  obtain ⟨n5, e5, w5⟩ := trod_intk Try.underlying3 g3
  obtain ⟨n6, e6, w6⟩ := trod_intk Try.underlying3 g4
  simp only [List.cons.injEq, and_true] at e0 e1 e2 e5 e6
  obtain ⟨rfl, rfl, rfl, rfl, rfl⟩ := e2
  subst e0 e1 e5 e6
  exact ⟨ea, ec, es, wa, ws.length, wc, ⟨n0, n1, n2, n3, n4, n5, n6⟩, rfl, by omega, lg, lx, o0, o1, o2, o3, o4, i64_wf w5, i64_wf w6⟩

theorem open_rep_val {v : Value} {d : DataW H} {p : List MemPlace} {b0 : Nat} (o : Value.okWide Try.prog w .any b0 49 v) (h : DataW.Trod enc Try.prog w base spare held 49 v d p) :
    ∃ (ea : Option Addr) (ec : Nat) (es : List (Tx.Evt × EvM)) (wa : Option Addr) (wn wc : Nat) (r : Tx.Rep),
      v = .agg #[.slice ea es.length ec, .slice wa wn wc, .int .i64 r.r, .int .i64 r.w, .int .i64 r.s, .int .i64 r.a, .int .i64 r.f, .int .i64 r.ticks, .int .i64 r.idle] ∧
      es.length ≤ maxLen ∧ (∀ b ∈ es, EvIn b.1 b.2 w) ∧ IsEvs w ea es ∧ r.ok := by
  obtain ⟨cs, rfl, hsz⟩ := okWide_struct Try.underlying49 o
  obtain ⟨fuel, hf⟩ := h
  obtain ⟨ea, ec, es, wa, wn, wc, r, he, hi⟩ := open_rep fuel _ _ hf
  refine ⟨ea, ec, es, wa, wn, wc, r, ?_, hi⟩
  have : cs.toList = _ := he
  have h2 : cs = #[Value.slice ea es.length ec, .slice wa wn wc, .int .i64 r.r, .int .i64 r.w, .int .i64 r.s, .int .i64 r.a, .int .i64 r.f, .int .i64 r.ticks, .int .i64 r.idle] := Array.toList_inj.1 this
  rw [h2]

theorem open_calls_val {v : Value} {d : DataW H} {p : List MemPlace} {b0 : Nat} (o : Value.okWide Try.prog w .any b0 44 v) (h : DataW.Trod enc Try.prog w base spare held 44 v d p) :
    ∃ (a : Option Addr) (cap : Nat) (l : List Tx.Cl), v = .slice a l.length cap ∧ l.length ≤ maxLen ∧ (∀ b ∈ l, b.ok) ∧ IsCls w a l := by
  obtain ⟨a, n, c, rfl⟩ := okWide_slice Try.underlying44 o
  obtain ⟨fuel, hf⟩ := h
  obtain ⟨a', len, cap, l, he, h1, h2, h3, rfl, h5, h6⟩ := open_calls hf
  have he : [Value.slice a n c] = [.slice a' l.length cap] := he
  simp only [List.cons.injEq, and_true] at he
  exact ⟨a', cap, l, he, by omega, h5, h6⟩
end

end Go.Proofs.Ytkhagpnnkfglbaa
