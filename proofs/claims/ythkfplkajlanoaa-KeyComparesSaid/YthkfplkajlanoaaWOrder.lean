/-
  slices.SortStableFunc and keys.Order, walked.
-/
import Derived.Test.YthkfplkajlanoaaWStab3
namespace Go.Proofs.Ythkfplkajlanoaa
open Go.RowKit
open Srt (Sorted Lt Before)

theorem sstab_any (cf : Int → Int → Int) (C : Srt.Cmp cf) (n L c : Nat) (w0 w : World) (hc : CmpAt cf n L w0) (hsym : SymAt cf n L c n w0) (hsz : n ≤ 1000000) (h : StS w0 (Srt.ids n) w) :
    Calls Try.prog 14 #[.slice (some ⟨w0.heap.size, 0, none⟩) n c, .func (.func 15) #[] #[.pointer (some ⟨L, 0, none⟩)]] w (StabPost cf n w0) := by
  have H := Lib.hid (stab_any cf C n L c w0 w hc hsym hsz h)
  clear hc hsym h C
  go_enter Try.func14, Try.ntmps14
  go_wp2_with fail
  refine H.out.mono ?_
  rintro e w' ⟨rfl, o, h1, h2, h3⟩
  have HF := Lib.hid (And.intro h1 (And.intro h2 h3))
  clear h1 h2 h3
  go_wp2_with fail
  go_end0
  unfold StabPost
  exact ⟨rfl, o, HF.out.1, HF.out.2.1, HF.out.2.2⟩

/-- The numbers so far. -/
def fillAt (i : Nat) (j : Nat) : Value := if j < i then .int .i64 (j : Int) else .int .i64 0

/-- What ordering gives. -/
def OrderPost (ks : List (List Int)) (n B : Nat) (w : World) (e : Ending) (w' : World) : Prop :=
  e = .returned (.slice (some ⟨B, 0, none⟩) n n) ∧ ∃ o : List Int, Sorted (cfK ks) o ∧ o.Perm (Srt.ids n) ∧ Ext w w' ∧ IsInts .i64 w' (some ⟨B, 0, none⟩) o

theorem info_int : (Try.prog.info? 3).map (fun i => (i.zero, i.size, i.bytes)) = some (some (.int .i64 0), 1, 8) := by kernel_rfl

set_option maxRecDepth 100000 in
set_option maxHeartbeats 2000000 in
theorem order_any (hS : ∀ (cf : Int → Int → Int) (n L c : Nat) (w0 : World), Srt.Cmp cf → CmpAt cf n L w0 → n ≤ 1000000 → SymAt cf n L c n w0)
    (ms : List KM) (a : Option Addr) (cap : Nat) (w : World) (hk : KeysAt ms a w) (hl : ms.length ≤ 1000) :
    Calls Try.prog 11 #[.slice a ms.length cap] w (OrderPost (keysOf ms) ms.length (w.heap.size + 1) w) := by
  have hx0 := (Ext.refl w).alloc (.cells #[.slice a ms.length cap] 29)
  have hc0 : (w.alloc (.cells #[.slice a ms.length cap] 29)).cell? ⟨w.heap.size, 0, none⟩ = some (.slice a ms.length cap) := by
    rw [World.cell?_alloc_at _ _ _ _ rfl]; rfl
  have hsz0 : (w.alloc (.cells #[.slice a ms.length cap] 29)).heap.size = w.heap.size + 1 := by simp
  have hcmp := CmpAt.of ms a cap w.heap.size _ (hk.ext hx0) (by omega) hc0
  have HCMP := Lib.hid hcmp
  have HSY := Lib.hid (hS _ _ _ ms.length _ (cfK_cmp (keysOf ms)) hcmp (by omega))
  have HX0 := Lib.hid hx0
  have hmk := fun (w : World) => run_make_row' (P := Try.prog) 22 3 (.int .i64 0) 8 Try.underlying22 info_int rfl .i64 .i64 ms.length (by omega) (by omega) w
  have HSZ := Lib.hid hsz0
  clear hk hx0 hcmp hsz0 hS
  go_enter Try.func11, Try.ntmps11
  go_upto_region 1 with (fail)
  generalize w.alloc (.cells #[.slice a ms.length cap] 29) = w0 at *
  go_upto_region 2 with (fail)
  have HB : Hid (Ext w0 (w0.alloc (.cells (madeCells #[.int .i64 0] ms.length) 3))) := Lib.hid ((Ext.refl _).alloc _)
  have HR : Hid ((w0.alloc (.cells (madeCells #[.int .i64 0] ms.length) 3)).rowIs w0.heap.size 3 ms.length (fillAt 0)) := Lib.hid ((World.rowIs_made w0 (.int .i64 0) ms.length 3).congr (fun i hi => by unfold fillAt; rw [if_neg (by omega)]))
  clear hmk hc0
  generalize w0.alloc (.cells (madeCells #[.int .i64 0] ms.length) 3) = W1 at *
  go_wp2_with fail
  go_loopw [10] (fun v wr => ∃ i : Nat, i ≤ ms.length ∧ v = .int .i64 (i : Int) ∧ Hid (wr.rowIs w0.heap.size 3 ms.length (fillAt i)) ∧ Hid (Ext w0 wr)) (fun v _ => ms.length - (intOf v).toNat)
  case atStart => exact ⟨0, Nat.zero_le _, rfl, HR, HB⟩
  case round =>
    clear HR HB
    obtain ⟨i, hi, rfl, HR, HB⟩ := hrel
    by_cases hlt : i < ms.length
    · have hcB := HR.out.cell hlt
      have hfB := HR.out.frozen i
      have HN : Hid ((wr.setCell ⟨w0.heap.size, i, none⟩ (.int .i64 (i : Int))).rowIs w0.heap.size 3 ms.length (fillAt (i + 1))) := Lib.hid ((HR.out.set i _).congr (fun j hj => by
        unfold fillAt
        by_cases e : j = i
        · subst e; rw [if_pos rfl, if_pos (by omega)]
        · rw [if_neg e]
          by_cases h2 : j < i
          · rw [if_pos h2, if_pos (by omega)]
          · rw [if_neg h2, if_neg (by omega)]))
      have HNB : Hid (Ext w0 (wr.setCell ⟨w0.heap.size, i, none⟩ (.int .i64 (i : Int)))) := Lib.hid (HB.out.setCell (Nat.le_refl _) _)
      generalize fillAt i i = z at *
      go_wp2_with fail
      go_roundw
      case rel => exact ⟨i + 1, by omega, by go_num, HN, HNB⟩
      case measure => simp [intOf]; omega
    · obtain rfl : i = ms.length := by omega
      have hst : StS w0 (Srt.ids ms.length) wr := ⟨HB.out, by
        rw [Srt.ids_len]
        exact HR.out.congr (fun j hj => by unfold fillAt; rw [if_pos hj, Srt.ids_nth _ _ hj])⟩
      have HC := Lib.hid (sstab_any (cfK (keysOf ms)) (cfK_cmp _) ms.length w.heap.size ms.length w0 wr HCMP.out HSY.out (by omega) hst)
      clear hst
      go_wp2_with fail
      refine HC.out.mono ?_
      rintro e w' ⟨rfl, o, h1, h2, h3⟩
      have HO1 := Lib.hid h1
      have HO2 := Lib.hid h2
      have HO3 := Lib.hid h3
      clear h1 h2 h3
      go_wp2_with fail
      go_ret
      unfold OrderPost
      refine ⟨by rw [HSZ.out]; rfl, o, HO1.out, HO2.out, HX0.out.trans HO3.out.ext, .inr ⟨_, 0, rfl, fun j hj => ?_⟩⟩
      have := HO3.out.c hj
      rw [Nat.zero_add, ← HSZ.out]
      exact this

end Go.Proofs.Ythkfplkajlanoaa
