/-
  plan.Read's deferred closure: it takes up what a line gave up with.
-/
import Derived.Test.YtcfbcffmlinlaaaDoorPlRead
import Derived.Defers
import Derived.Recover
import Derived.Laws.Pointers
namespace Go.Proofs.YtcfbcffmlinlaaaDoor
open Go.RowKit

theorem assert_errno (v : Value) (w : World) : (Instr.typeAssert (.iface 28 v) 20 28 true).run Tryd.prog w = .ok (.tuple #[v, .bool true]) w := by
  simp [Instr.typeAssert, run_underlying Tryd.underlying28, go_sem, Result.andThen]

theorem frame22 (a b c d V : Value) : (#[a, b, c, d] ++ ((Array.replicate 18 undef).setIfInBounds 3 V).setIfInBounds 0 V) = #[a, b, c, d, V, undef, undef, V, undef, undef, undef, undef, undef, undef, undef, undef, undef, undef, undef, undef, undef, undef] := by
  simp only [Array.replicate_succ, Array.replicate_zero, List.push_toArray, List.append_toArray, List.nil_append, List.cons_append, List.setIfInBounds_toArray, List.set_cons_succ, List.set_cons_zero]

set_option maxHeartbeats 400000 in
theorem plclos_idle (a0 a1 a2 a3 : Addr) (w : World) :
    CallsD Tryd.prog 21 #[.pointer (some a0), .pointer (some a1), .pointer (some a2), .pointer (some a3)] .returning w fun e u' w' => e = .returned (.tuple #[]) ∧ u' = .returning ∧ w' = w := by
  refine callsD_of_wpS Tryd.func21 rfl fun c₀ cs hu => ?_
  apply wpS_seq
  apply wpS_region
  simp [wpOpsS, go_sem, recoverD, hu, Tryd.ntmps21, Exit.thenS]
  refine wpS_of_wp ?_
  rw [frame22]
  go_wp2
  refine ⟨rfl, .returning, ?_, .tuple #[], results_none rfl _ _ _, rfl, rfl, rfl⟩
  cases c₀
  simp_all

set_option maxRecDepth 100000 in
set_option maxHeartbeats 1000000 in
theorem plclos_caught (Q R S A E : Nat) (x y k e : Int) (cs4 : Array Value) (older : List PanicEntry) (w : World) (hQ : w.cell? ⟨Q, 0, none⟩ = some (.pointer (some ⟨R, 0, none⟩))) (hR : w.cell? ⟨R, 4, none⟩ = some (.int .i64 k))
    (hS : Blk w S cs4 26) (h4 : ∃ v0 v1 v2 v3, cs4 = #[v0, v1, v2, v3]) (hA : Blk w A #[.int .i64 x] 3) (hE : Blk w E #[.int .i64 y] 28) (hSA : S < A) (hAE : A < E) :
    CallsD Tryd.prog 21 #[.pointer (some ⟨Q, 0, none⟩), .pointer (some ⟨S, 0, none⟩), .pointer (some ⟨A, 0, none⟩), .pointer (some ⟨E, 0, none⟩)] (.panicking ({ v := .iface 28 (.int .i64 e), recovered := false } :: older)) w fun en u' w' =>
      en = .returned (.tuple #[]) ∧ u' = .panicking ({ v := .iface 28 (.int .i64 e), recovered := true } :: older) ∧ Below S w w' ∧
      Blk w' S #[.int .i64 0, .slice none 0 0, .slice none 0 0, .slice none 0 0] 26 ∧ Blk w' A #[.int .i64 k] 3 ∧ Blk w' E #[.int .i64 e] 28 := by
  obtain ⟨v0, v1, v2, v3, rfl⟩ := h4
  have s0 := hS.cell 0 (v := v0) rfl
  have s1 := hS.cell 1 (v := v1) rfl
  have s2 := hS.cell 2 (v := v2) rfl
  have s3 := hS.cell 3 (v := v3) rfl
  have z0 := hS.fz 0
  have z1 := hS.fz 1
  have z2 := hS.fz 2
  have z3 := hS.fz 3
  have ls := hS.lt
  have la := hA.lt
  have le := hE.lt
  have hta := assert_errno (.int .i64 e)
  have a0 := hA.cell 0 (v := .int .i64 x) rfl
  have a1 := hA.fz 0
  have e0 := hE.cell 0 (v := .int .i64 y) rfl
  have e1 := hE.fz 0
  refine callsD_of_wpS Tryd.func21 rfl fun c₀ cs hu => ?_
  apply wpS_seq
  apply wpS_region
  simp [wpOpsS, go_sem, recoverD, hu, Tryd.ntmps21, Exit.thenS]
  refine wpS_of_wp ?_
  rw [frame22]
  go_wp2
  have ws : ∀ (u : World) (b i : Nat) (v : Value), S ≤ b → Below S u (u.setCell ⟨b, i, none⟩ v) := fun u b i v h => below_set S u h v
  have hbel : Below S w (((((((w.setCell ⟨S, 0, none⟩ (.int .i64 0)).setCell ⟨S, 1, none⟩ (.slice none 0 0)).setCell ⟨S, 2, none⟩ (.slice none 0 0)).setCell ⟨S, 3, none⟩ (.slice none 0 0)).setCell ⟨A, 0, none⟩ (.int .i64 k)).setCell ⟨E, 0, none⟩ (.int .i64 5)).setCell ⟨E, 0, none⟩ (.int .i64 e)) :=
    ((((((ws _ _ _ _ (Nat.le_refl S)).trans (ws _ _ _ _ (Nat.le_refl S))).trans (ws _ _ _ _ (Nat.le_refl S))).trans (ws _ _ _ _ (Nat.le_refl S))).trans (ws _ _ _ _ (by omega))).trans (ws _ _ _ _ (by omega))).trans (ws _ _ _ _ (by omega))
  have hbS : Blk (((((((w.setCell ⟨S, 0, none⟩ (.int .i64 0)).setCell ⟨S, 1, none⟩ (.slice none 0 0)).setCell ⟨S, 2, none⟩ (.slice none 0 0)).setCell ⟨S, 3, none⟩ (.slice none 0 0)).setCell ⟨A, 0, none⟩ (.int .i64 k)).setCell ⟨E, 0, none⟩ (.int .i64 5)).setCell ⟨E, 0, none⟩ (.int .i64 e)) S #[.int .i64 0, .slice none 0 0, .slice none 0 0, .slice none 0 0] 26 :=
    ((((((hS.set 0 _).set 1 _).set 2 _).set 3 _).set_ne (by omega) _).set_ne (by omega) _).set_ne (by omega) _
  have hbA : Blk (((((((w.setCell ⟨S, 0, none⟩ (.int .i64 0)).setCell ⟨S, 1, none⟩ (.slice none 0 0)).setCell ⟨S, 2, none⟩ (.slice none 0 0)).setCell ⟨S, 3, none⟩ (.slice none 0 0)).setCell ⟨A, 0, none⟩ (.int .i64 k)).setCell ⟨E, 0, none⟩ (.int .i64 5)).setCell ⟨E, 0, none⟩ (.int .i64 e)) A #[.int .i64 k] 3 :=
    ((((((hA.set_ne (by omega) _).set_ne (by omega) _).set_ne (by omega) _).set_ne (by omega) _).set 0 _).set_ne (by omega) _).set_ne (by omega) _
  have hbE : Blk (((((((w.setCell ⟨S, 0, none⟩ (.int .i64 0)).setCell ⟨S, 1, none⟩ (.slice none 0 0)).setCell ⟨S, 2, none⟩ (.slice none 0 0)).setCell ⟨S, 3, none⟩ (.slice none 0 0)).setCell ⟨A, 0, none⟩ (.int .i64 k)).setCell ⟨E, 0, none⟩ (.int .i64 5)).setCell ⟨E, 0, none⟩ (.int .i64 e)) E #[.int .i64 e] 28 :=
    ((((((hE.set_ne (by omega) _).set_ne (by omega) _).set_ne (by omega) _).set_ne (by omega) _).set_ne (by omega) _).set 0 _).set 0 _
  refine ⟨rfl, .panicking ({ v := .iface 28 (.int .i64 e), recovered := true } :: older), rfl, .tuple #[], results_none rfl _ _ _, rfl, rfl, hbel, hbS, hbA, hbE⟩

end Go.Proofs.YtcfbcffmlinlaaaDoor
