/-
  The given statement on KeyOrders is proved: whatever the arguments, the call returns true and leaves what was there as it was. Conditions: none but the row's own.
  (The frame follows the one that the kit's proof-skeleton writes.)
-/
import Derived.Test.YthkfplkajlanoaaRows
import Derived.WalkKit
import Derived.ProofKit
import Derived.OpenShut
import Derived.ShutString
import Derived.ChangeOld
import Derived.Below
import Derived.Test.YthkfplkajlanoaaWOrders
import Derived.Test.YthkfplkajlanoaaSymAll
import Derived.Test.YthkfplkajlanoaaOpenI
import Derived.Test.YthkfplkajlanoaaOpenS
namespace Go.Proofs.Ythkfplkajlanoaa.keyOrders
open Go.ChangeShapes Go.WideShapes Go.ChangeAt Go.RowKit
open Go.ChangeMaps (open_string shut_string)
set_option linter.unusedVariables false

theorem own : ownKnob Try.prog.godebug = none := by kernel_rfl
theorem laidOut : laidOutB Try.prog = true := by kernel_rfl

theorem i64w {b : Int} (h : (Lit.int .i64 b).wf = true) : -9223372036854775808 ≤ b ∧ b ≤ 9223372036854775807 := by
  have hmin : IntKind.i64.min = -9223372036854775808 := rfl
  have hmax : IntKind.i64.max = 9223372036854775807 := rfl
  simp only [Lit.wf, Bool.and_eq_true, decide_eq_true_eq] at h
  omega

theorem open_keys {H : Type} {enc : TypeId × Value → H} {W : World} {base : Nat} {v : Value} {d : DataW H} {p : List MemPlace}
    (o : Value.okWide Try.prog W .any base 29 v) (h : DataW.Trod enc Try.prog W 0 (fun _ => true) true 29 v d p) : ∃ (ms : List KM) (a : Option Addr) (c : Nat), v = .slice a ms.length c ∧ KeysAt ms a W ∧ ms.length ≤ 9223372036854775807 := by
  obtain ⟨a, n, c, rfl⟩ := okWide_slice Try.underlying29 o
  obtain ⟨fuel, hf⟩ := h
  obtain ⟨a', len, cap, l, he, h1, h2, h3, rfl, h5, h6⟩ := open_seq km0 1 kmCells (fun m => m.l.length ≤ 9223372036854775807 ∧ IsInts .i64 W m.a m.l) kmCells_len (by decide) Try.underlying29 (by kernel_rfl) (fun n cs y hy => by
    obtain ⟨a', len, cap, l, he, h1, h2, h3, rfl, h5, h6⟩ := open_intk (k := .i64) Try.underlying22 Try.underlying3 (by kernel_rfl) hy
    unfold maxLen at h2
    exact ⟨⟨l, a', cap⟩, he, by show l.length ≤ _; omega, h6⟩) hf
  have he : [Value.slice a n c] = [.slice a' l.length cap] := he
  simp only [List.cons.injEq, and_true] at he
  unfold maxLen at h2
  exact ⟨l, a', cap, he, ⟨h6, fun m hm => (h5 m hm).2, fun m hm => (h5 m hm).1⟩, by omega⟩

theorem walk {H : Type} {enc : TypeId × Value → H} (W : World) (base : Nat) (v0 : Value) (d0 : DataW H) (p0 : List MemPlace)
    (h0 : DataW.Trod enc Try.prog W 0 (fun _ => true) true 29 v0 d0 p0) (o0 : Value.okWide Try.prog W .any base 29 v0) :
    Calls Try.prog 4 #[v0] W fun e w' => e = .returned (.bool true) ∧ Below W.heap.size W w' := by
  obtain ⟨ms, a, c, rfl, hk, hl⟩ := open_keys o0 h0
  exact orders_any symAll ms a c W hk hl

set_option maxRecDepth 100000 in
theorem lifted (os : Os) (started : os.Started) (H : Type) (enc : TypeId × Value → H) :
    ReturnsInHanded {} Try.checked os 4 .any (Rows.keyOrdersSpec.pre6 enc Try.prog Try.f4 Rows.keyOrdersRow.domain false) (Rows.keyOrdersSpec.post enc Try.prog Try.f4 false true false false) := by
  refine returnsInHanded_of_change (C := Try.checked) own started (by kernel_rfl) Try.func4
    (ChangeSpec.witness6 (enc := enc) (C := Try.checked) false ⟨#[], #[.slice none 0 0], []⟩ 8 (by kernel_rfl) (by kernel_rfl) (by kernel_rfl) (by kernel_rfl)) ?_
  intro W base args ds gs before hval0 hW hcnd _
  have hval : ∀ (j : Nat) t v, Try.f4.params[j]? = some t → args[j]? = some v → Value.okWide Try.prog W .any base t v := hval0
  have hW' := hW
  obtain ⟨p, q, hA0, hV, rfl, hfz, hnd⟩ := hW
  have hA : DataW.TrodAll enc Try.prog W 0 (fun _ => true) true Try.f4.params.toList args.toList ds p := hA0
  rw [Try.params4] at hA hval
  obtain ⟨v0, vs0, d0, ds0, p0, q0, hargs, rfl, rfl, h0, r0⟩ := trodAll_cons hA
  obtain ⟨rfl, rfl, rfl⟩ := trodAll_nil r0
  obtain rfl : args = #[v0] := by cases args; simp_all
  obtain ⟨rfl, rfl⟩ := trodVars_none hV
  have k0 := h0
  have lt0 : ∀ x ∈ p0, x.block < W.heap.size := by obtain ⟨m, hm⟩ := k0; exact DataW.trod_lt m _ _ _ hm
  have o0 := hval 0 29 v0 rfl rfl
  clear hA0 hval0
  refine (walk W base v0 d0 p0 h0 o0).mono fun e W' ⟨he, bel⟩ => ?_
  subst he
  exact ⟨_, rfl, _, _, _, [], _, [], hW', trodAll_mk1 (shut_bool Try.underlying4 _), (trodAll_cons_mk (Below.trod laidOut (by kernel_rfl) (of_decide_eq_true (by kernel_rfl)) k0 bel lt0) trodAll_mk0), rfl, bel.frame _, fun h => by cases h⟩

theorem over : Rows.keyOrdersRow.holds Try.pinned (OpenSpec.ofChange Rows.keyOrdersSpec) :=
  OpenClaim.holds_of_wide 4 Try.f4 rfl rfl rfl rfl rfl rfl rfl ⟨rfl, rfl, rfl, rfl, rfl⟩ rfl rfl rfl rfl rfl (by kernel_rfl) Try.func4 (by kernel_rfl)
    (of_decide_eq_true (by kernel_rfl)) (by unfold Func.isWrapper; first | (rw [if_pos (by decide +kernel)]; kernel_rfl) | (rw [if_neg (by decide +kernel)]; exact ⟨rfl, rfl⟩))
    (fun os started H enc _ => lifted os started H enc)

theorem proved : Rows.KeyOrdersSaid := over
#print axioms proved
end Go.Proofs.Ythkfplkajlanoaa.keyOrders

