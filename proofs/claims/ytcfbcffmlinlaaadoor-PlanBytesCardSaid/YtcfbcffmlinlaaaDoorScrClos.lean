/-
  script.Decode's deferred closure: it takes up what a reading call gave up with.
-/
import Derived.Test.YtcfbcffmlinlaaaDoorScrPicks
import Derived.Defers
import Derived.Recover
import Derived.Laws.Pointers
namespace Go.Proofs.YtcfbcffmlinlaaaDoor
open Go.RowKit

theorem assert_wrong (v : Value) (w : World) : (Instr.typeAssert (.iface 86 v) 20 86 true).run Tryd.prog w = .ok (.tuple #[v, .bool true]) w := by
  simp [Instr.typeAssert, run_underlying Tryd.underlying86, go_sem, Result.andThen]

theorem Blk.drew {w : World} {k : Nat} {cs : Array Value} {E : TypeId} (h : Blk w k cs E) : Blk w.drew k cs E := h

theorem frame20 (a b c V : Value) : (#[a, b, c] ++ ((Array.replicate 17 undef).setIfInBounds 3 V).setIfInBounds 0 V) = #[a, b, c, V, undef, undef, V, undef, undef, undef, undef, undef, undef, undef, undef, undef, undef, undef, undef, undef] := by
  simp only [Array.replicate_succ, Array.replicate_zero, List.push_toArray, List.append_toArray, List.nil_append, List.cons_append, List.setIfInBounds_toArray, List.set_cons_succ, List.set_cons_zero]


set_option maxHeartbeats 400000 in
theorem clos_idle (a0 a1 a2 : Addr) (w : World) :
    CallsD Tryd.prog 34 #[.pointer (some a0), .pointer (some a1), .pointer (some a2)] .returning w fun e u' w' => e = .returned (.tuple #[]) ∧ u' = .returning ∧ w' = w := by
  refine callsD_of_wpS Tryd.func34 rfl fun c₀ cs hu => ?_
  apply wpS_seq
  apply wpS_region
  simp [wpOpsS, go_sem, recoverD, hu, Tryd.ntmps34, Exit.thenS]
  refine wpS_of_wp ?_
  rw [frame20]
  go_wp2
  refine ⟨rfl, .returning, ?_, .tuple #[], results_none rfl _ _ _, rfl, rfl, rfl⟩
  cases c₀
  simp_all

set_option maxRecDepth 100000 in
set_option maxHeartbeats 1000000 in
theorem clos_caught (S A E : Nat) (x y : Int) (p r : Int) (cs4 : Array Value) (older : List PanicEntry) (w : World) (hS : Blk w S cs4 26) (h4 : ∃ v0 v1 v2 v3, cs4 = #[v0, v1, v2, v3]) (hA : Blk w A #[.int .i64 x] 3) (hE : Blk w E #[.int .i64 y] 28) (hSA : S < A) (hAE : A < E) :
    CallsD Tryd.prog 34 #[.pointer (some ⟨S, 0, none⟩), .pointer (some ⟨A, 0, none⟩), .pointer (some ⟨E, 0, none⟩)] (.panicking ({ v := .iface 86 (.agg #[.int .i64 p, .int .i64 r]), recovered := false } :: older)) w fun e u' w' =>
      e = .returned (.tuple #[]) ∧ u' = .panicking ({ v := .iface 86 (.agg #[.int .i64 p, .int .i64 r]), recovered := true } :: older) ∧ Below S w w' ∧
      Blk w' S #[.int .i64 0, .slice none 0 0, .slice none 0 0, .slice none 0 0] 26 ∧ Blk w' A #[.int .i64 p] 3 ∧ Blk w' E #[.int .i64 r] 28 := by
  obtain ⟨v0, v1, v2, v3, rfl⟩ := h4
  have s0 := hS.cell 0 (v := v0) rfl
  have s1 := hS.cell 1 (v := v1) rfl
  have s2 := hS.cell 2 (v := v2) rfl
  have s3 := hS.cell 3 (v := v3) rfl
  have z0 := hS.fz 0
  have z1 := hS.fz 1
  have z2 := hS.fz 2
  have z3 := hS.fz 3
  have ls := hS.lt
  have la := hA.lt
  have le := hE.lt
  have hta := assert_wrong (.agg #[.int .i64 p, .int .i64 r])
  have a0 := hA.cell 0 (v := .int .i64 x) rfl
  have a1 := hA.fz 0
  have e0 := hE.cell 0 (v := .int .i64 y) rfl
  have e1 := hE.fz 0
  refine callsD_of_wpS Tryd.func34 rfl fun c₀ cs hu => ?_
  apply wpS_seq
  apply wpS_region
  simp [wpOpsS, go_sem, recoverD, hu, Tryd.ntmps34, Exit.thenS]
  refine wpS_of_wp ?_
  rw [frame20]
  go_wp2
  go_region
  have ws : ∀ (u : World) (b i : Nat) (v : Value), S ≤ b → Below S u (u.setCell ⟨b, i, none⟩ v) := fun u b i v h => below_set S u h v
  have hbel : Below S w ((((((((w.setCell ⟨S, 0, none⟩ (.int .i64 0)).setCell ⟨S, 1, none⟩ (.slice none 0 0)).setCell ⟨S, 2, none⟩ (.slice none 0 0)).setCell ⟨S, 3, none⟩ (.slice none 0 0)).setCell ⟨A, 0, none⟩ (.int .i64 0)).setCell ⟨E, 0, none⟩ (.int .i64 5)).setCell ⟨A, 0, none⟩ (.int .i64 p)).setCell ⟨E, 0, none⟩ (.int .i64 r)) :=
    (((((((ws _ _ _ _ (Nat.le_refl S)).trans (ws _ _ _ _ (Nat.le_refl S))).trans (ws _ _ _ _ (Nat.le_refl S))).trans (ws _ _ _ _ (Nat.le_refl S))).trans (ws _ _ _ _ (by omega))).trans (ws _ _ _ _ (by omega))).trans (ws _ _ _ _ (by omega))).trans (ws _ _ _ _ (by omega))
  have hbS : Blk ((((((((w.setCell ⟨S, 0, none⟩ (.int .i64 0)).setCell ⟨S, 1, none⟩ (.slice none 0 0)).setCell ⟨S, 2, none⟩ (.slice none 0 0)).setCell ⟨S, 3, none⟩ (.slice none 0 0)).setCell ⟨A, 0, none⟩ (.int .i64 0)).setCell ⟨E, 0, none⟩ (.int .i64 5)).setCell ⟨A, 0, none⟩ (.int .i64 p)).setCell ⟨E, 0, none⟩ (.int .i64 r)) S #[.int .i64 0, .slice none 0 0, .slice none 0 0, .slice none 0 0] 26 :=
    (((((((hS.set 0 _).set 1 _).set 2 _).set 3 _).set_ne (by omega) _).set_ne (by omega) _).set_ne (by omega) _).set_ne (by omega) _
  have hbA : Blk ((((((((w.setCell ⟨S, 0, none⟩ (.int .i64 0)).setCell ⟨S, 1, none⟩ (.slice none 0 0)).setCell ⟨S, 2, none⟩ (.slice none 0 0)).setCell ⟨S, 3, none⟩ (.slice none 0 0)).setCell ⟨A, 0, none⟩ (.int .i64 0)).setCell ⟨E, 0, none⟩ (.int .i64 5)).setCell ⟨A, 0, none⟩ (.int .i64 p)).setCell ⟨E, 0, none⟩ (.int .i64 r)) A #[.int .i64 p] 3 :=
    (((((((hA.set_ne (by omega) _).set_ne (by omega) _).set_ne (by omega) _).set_ne (by omega) _).set 0 _).set_ne (by omega) _).set 0 _).set_ne (by omega) _
  have hbE : Blk ((((((((w.setCell ⟨S, 0, none⟩ (.int .i64 0)).setCell ⟨S, 1, none⟩ (.slice none 0 0)).setCell ⟨S, 2, none⟩ (.slice none 0 0)).setCell ⟨S, 3, none⟩ (.slice none 0 0)).setCell ⟨A, 0, none⟩ (.int .i64 0)).setCell ⟨E, 0, none⟩ (.int .i64 5)).setCell ⟨A, 0, none⟩ (.int .i64 p)).setCell ⟨E, 0, none⟩ (.int .i64 r)) E #[.int .i64 r] 28 :=
    (((((((hE.set_ne (by omega) _).set_ne (by omega) _).set_ne (by omega) _).set_ne (by omega) _).set_ne (by omega) _).set 0 _).set_ne (by omega) _).set 0 _
  refine ⟨rfl, .panicking ({ v := .iface 86 (.agg #[.int .i64 p, .int .i64 r]), recovered := true } :: older), rfl, .tuple #[], results_none rfl _ _ _, rfl, rfl, ?_, ?_, ?_, ?_⟩
  · exact Below.drew (hbel.alloc (by simp; omega) _)
  · exact (hbS.alloc _).drew
  · exact (hbA.alloc _).drew
  · exact (hbE.alloc _).drew

end Go.Proofs.YtcfbcffmlinlaaaDoor
