/-
  What came in as an event, or a call, reads as one.
-/
import Derived.Test.YtkhagpnnkfglbaaOpenS
import Derived.Test.YtkhagpnnkfglbaaTxEvt
namespace Go.Proofs.Ytkhagpnnkfglbaa
open Go.RowKit Go.Deep Go.ChangeShapes Go.WideShapes

section
variable {H : Type} {enc : TypeId × Value → H} {w : World} {base : Nat} {spare : Nat → Bool} {held : Bool}

theorem u64_tx {b : Int} (h : (Lit.int .u64 b).wf = true) : Tx.u64 b := by
  have := u64_wf h
  unfold u64Ok at this; unfold Tx.u64; omega

theorem trod_part {P : Program} {fs : Array Field} {t : TypeId} {fuel : Nat} {cs : List Value} {x : DataW H × List MemPlace} (ht : P.underlying t = some (.struct fs)) (h : DataW.trod enc P w base spare held fuel t cs = some x) :
    ∃ n, cs.length = P.cellsOf t ∧ ∀ (i : Nat) (f : Field), fs[i]? = some f → ∃ y, DataW.trod enc P w base spare held n f.type ((cs.drop f.offset).take (P.cellsOf f.type)) = some y := by
  obtain ⟨xs, n, _, _, hl, hlen, hf⟩ := DataW.trod_struct ht h
  refine ⟨n, hl, fun i f hfi => ?_⟩
  have hlt : i < fs.size := (Array.getElem?_eq_some_iff.1 hfi).1
  have h1 := hf i f hfi
  rw [List.getElem?_eq_getElem (by rw [hlen]; exact hlt)] at h1
  exact ⟨_, h1⟩

/-- An event that came in: its numbers are those of their types, its lists lie where it says. -/
structure EvIn (e : Tx.Evt) (m : EvM) (w : World) : Prop where
  ok : e.ok
  at_ : EvAt e m w
  ll : e.list.length ≤ m.lc ∧ m.lc ≤ 9223372036854775807 ∧ (m.la = none → m.lc = 0)
  kl : e.key.length ≤ m.kc ∧ m.kc ≤ 9223372036854775807 ∧ (m.ka = none → m.kc = 0)

theorem list8 {α : Type} (l : List α) (h : l.length = 8) : ∃ a b c d e f g i, l = [a, b, c, d, e, f, g, i] := by
  match l, h with
  | [a, b, c, d, e, f, g, i], _ => exact ⟨a, b, c, d, e, f, g, i, rfl⟩

theorem open_evt (n : Nat) (cs : List Value) (y : DataW H × List MemPlace) (h : DataW.trod enc Try.prog w base spare held n 29 cs = some y) :
    ∃ (e : Tx.Evt) (m : EvM), cs = (evCells e m).toList ∧ EvIn e m w := by
  obtain ⟨k, hl, hf⟩ := trod_part Try.underlying29 h
  have hl : cs.length = 8 := hl.trans (by kernel_rfl)
  obtain ⟨c0, c1, c2, c3, c4, c5, c6, c7, rfl⟩ := list8 cs hl
  obtain ⟨y0, g0⟩ := hf 0 _ rfl
  obtain ⟨y1, g1⟩ := hf 1 _ rfl
  obtain ⟨y2, g2⟩ := hf 2 _ rfl
  obtain ⟨y3, g3⟩ := hf 3 _ rfl
  obtain ⟨y4, g4⟩ := hf 4 _ rfl
  obtain ⟨y5, g5⟩ := hf 5 _ rfl
  have s1 : Try.prog.cellsOf 3 = 1 := by kernel_rfl
  have s3 : Try.prog.cellsOf 26 = 3 := by kernel_rfl
  have s4 : Try.prog.cellsOf 27 = 1 := by kernel_rfl
  simp only [List.getElem_toArray, List.getElem_cons_zero, List.getElem_cons_succ, s1, s3, s4, List.drop_succ_cons, List.drop_zero, List.take_succ_cons, List.take_zero] at g0 g1 g2 g3 g4 g5
  obtain ⟨k4, hl4, hf4⟩ := trod_part Try.underlying26 g4
  obtain ⟨z0, f0⟩ := hf4 0 _ rfl
  obtain ⟨z1, f1⟩ := hf4 1 _ rfl
  obtain ⟨z2, f2⟩ := hf4 2 _ rfl
  have r1 : Try.prog.cellsOf 22 = 1 := by kernel_rfl
  have r2 : Try.prog.cellsOf 23 = 1 := by kernel_rfl
  have r3 : Try.prog.cellsOf 24 = 1 := by kernel_rfl

  simp only [List.getElem_toArray, List.getElem_cons_zero, List.getElem_cons_succ, r1, r2, r3, List.drop_succ_cons, List.drop_zero, List.take_succ_cons, List.take_zero] at f0 f1 f2
  obtain ⟨n0, e0, w0⟩ := trod_intk Try.underlying3 g0
  obtain ⟨n1, e1, w1⟩ := trod_intk Try.underlying3 g1
  obtain ⟨n2, e2, w2⟩ := trod_intk Try.underlying3 g2
  obtain ⟨n3, e3, w3⟩ := trod_intk Try.underlying3 g3
  obtain ⟨n4, e4, w4⟩ := trod_intk Try.underlying22 f0
  obtain ⟨n5, e5, w5⟩ := trod_intk Try.underlying23 f1
  obtain ⟨la, ll, lc, l, e6, l1, l2, l3, rfl, lg, lx⟩ := open_intk (k := .u64) Try.underlying24 Try.underlying23 (by kernel_rfl) f2
  obtain ⟨ka, kl, kc, ks, e7, k1, k2, k3, rfl, kg, kx⟩ := open_intk (k := .i64) Try.underlying27 Try.underlying3 (by kernel_rfl) g5
  simp only [List.cons.injEq, and_true] at e0 e1 e2 e3 e4 e5 e6 e7
  subst e0 e1 e2 e3 e4 e5 e6 e7
  unfold maxLen at l2 k2
  exact ⟨⟨n0, n1, n2, n3, n4, n5, l, ks⟩, ⟨la, lc, ka, kc⟩, rfl, ⟨i64_wf w0, i64_wf w1, i64_wf w2, i64_wf w3, i64_wf w4, u64_tx w5, fun x hx => u64_tx (lg x hx), fun x hx => i64_wf (kg x hx)⟩, ⟨lx, kx⟩, ⟨l1, l2, l3⟩, ⟨k1, k2, k3⟩⟩

theorem open_evt_val {v : Value} {d : DataW H} {p : List MemPlace} {b0 : Nat} (o : Value.okWide Try.prog w .any b0 29 v) (h : DataW.Trod enc Try.prog w base spare held 29 v d p) :
    ∃ (e : Tx.Evt) (m : EvM), v = .agg (evCells e m) ∧ EvIn e m w := by
  obtain ⟨cs, rfl, hsz⟩ := okWide_struct Try.underlying29 o
  obtain ⟨fuel, hf⟩ := h
  obtain ⟨e, m, he, hi⟩ := open_evt fuel _ _ hf
  refine ⟨e, m, ?_, hi⟩
  have : cs.toList = (evCells e m).toList := he
  rw [Array.toList_inj.1 this]

theorem open_call (n : Nat) (cs : List Value) (y : DataW H × List MemPlace) (h : DataW.trod enc Try.prog w base spare held n 31 cs = some y) :
    ∃ t o k a b c : Int, cs = [.int .i64 t, .int .i64 o, .int .i64 k, .int .u64 a, .int .u64 b, .int .u64 c] ∧ Tx.i64 t ∧ Tx.i64 o ∧ Tx.i64 k ∧ Tx.u64 a ∧ Tx.u64 b ∧ Tx.u64 c := by
  obtain ⟨m, hl, hf⟩ := trod_flat Try.underlying31 (by kernel_rfl) (by kernel_rfl) h
  obtain ⟨a, b, c, d, e, f, rfl⟩ := list6 cs hl
  obtain ⟨y0, g0⟩ := hf 0 _ a rfl rfl
  obtain ⟨y1, g1⟩ := hf 1 _ b rfl rfl
  obtain ⟨y2, g2⟩ := hf 2 _ c rfl rfl
  obtain ⟨y3, g3⟩ := hf 3 _ d rfl rfl
  obtain ⟨y4, g4⟩ := hf 4 _ e rfl rfl
  obtain ⟨y5, g5⟩ := hf 5 _ f rfl rfl
  obtain ⟨n0, e0, w0⟩ := trod_intk Try.underlying3 g0
  obtain ⟨n1, e1, w1⟩ := trod_intk Try.underlying3 g1
  obtain ⟨n2, e2, w2⟩ := trod_intk Try.underlying3 g2
  obtain ⟨n3, e3, w3⟩ := trod_intk Try.underlying23 g3
  obtain ⟨n4, e4, w4⟩ := trod_intk Try.underlying23 g4
  obtain ⟨n5, e5, w5⟩ := trod_intk Try.underlying23 g5
  simp only [List.cons.injEq, and_true] at e0 e1 e2 e3 e4 e5
  subst e0 e1 e2 e3 e4 e5
  exact ⟨n0, n1, n2, n3, n4, n5, rfl, i64_wf w0, i64_wf w1, i64_wf w2, u64_tx w3, u64_tx w4, u64_tx w5⟩

theorem open_call_val {v : Value} {d : DataW H} {p : List MemPlace} {b0 : Nat} (ho : Value.okWide Try.prog w .any b0 31 v) (h : DataW.Trod enc Try.prog w base spare held 31 v d p) :
    ∃ t o k a b c : Int, v = .agg #[.int .i64 t, .int .i64 o, .int .i64 k, .int .u64 a, .int .u64 b, .int .u64 c] ∧ Tx.i64 t ∧ Tx.i64 o ∧ Tx.i64 k ∧ Tx.u64 a ∧ Tx.u64 b ∧ Tx.u64 c := by
  obtain ⟨cs, rfl, hsz⟩ := okWide_struct Try.underlying31 ho
  obtain ⟨fuel, hf⟩ := h
  obtain ⟨t, o, k, a, b, c, he, hi⟩ := open_call fuel _ _ hf
  refine ⟨t, o, k, a, b, c, ?_, hi⟩
  have : cs.toList = _ := he
  have h2 : cs = #[.int .i64 t, .int .i64 o, .int .i64 k, .int .u64 a, .int .u64 b, .int .u64 c] := Array.toList_inj.1 this
  rw [h2]
end

end Go.Proofs.Ytkhagpnnkfglbaa
