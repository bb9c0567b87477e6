/-
  script's reader: picks reads runs up to the end.
  script.Decode's deferred closure: it takes up what a reading call gave up with.
  script.Decode: the script whose bytes these are; or where it gives up.
  plan.form, walked.
-/
import Derived.Test.YtcfbcffmlinlaaaDoorJ06
import Derived.Defers
import Derived.Recover
import Derived.Laws.Pointers
import Derived.Test.YtcfbcffmlinlaaaDoorJ04
set_option linter.unusedVariables false
namespace Go.Proofs.YtcfbcffmlinlaaaDoor
open Go.RowKit

theorem Tryd.infoInt : (Tryd.prog.info? 3).map (fun i => (i.zero, i.size, i.bytes)) = some (some (.int .i64 0), 1, 8) := by kernel_rfl

theorem pPicks_thn (th : Int) (fu : Bool) (out l : List Int) (q : Nat) (h : q < l.length) : pPicks th fu out (l.drop q) = thn (pByte (l.drop q)) fun p l => thn (pByte l) fun n l =>
    if 1 ≤ n ∧ (p ≠ th ∨ fu = true) ∧ n ≤ 65536 - (out.length : Int) then pPicks p (n == 255) (out ++ List.replicate n.toNat p) l else none := by
  rw [drop_cons l q h]
  cases l.drop (q + 1) <;> rfl

def pPicksR (l : List Int) : Option (List Int × List Int) := (pPicks (-1) true [] l).map fun ps => (ps, [])

/-- What picks hands back. -/
def retPicks (B : Nat) (x : List Int) (e : Ending) (w' : World) : Prop :=
  ∃ pa pc, e = .returned (.slice pa x.length pc) ∧ IsInts .i64 w' pa x ∧ (∀ p, pa = some p → B ≤ p.block) ∧ x.length ≤ 65536 ∧ x.length ≤ pc

/-- How far the reader at R has come. -/
def rdAt (R : Nat) (w : World) : Nat := match w.cell? ⟨R, 1, none⟩ with
  | some v => (intOf v).toNat
  | none => 0
theorem Rd.rdAt {w : World} {R : Nat} {l : List Int} {ba : Option Addr} {bc j : Nat} (h : Rd w R l ba bc j) : rdAt R w = j := by
  unfold Go.Proofs.YtcfbcffmlinlaaaDoor.rdAt; rw [h.c1]; simp [intOf]

set_option maxRecDepth 100000 in
set_option maxHeartbeats 2000000 in
theorem picks_read (w : World) (R : Nat) (l : List Int) (ba : Option Addr) (bc j : Nat) (h : Rd w R l ba bc j) (hb : ∀ b ∈ l, byteOk b) (hl : l.length ≤ 9223372036854775807) (h11 : l ≠ [1, 1]) :
    Calls Tryd.prog 37 #[.pointer (some ⟨R, 0, none⟩)] w (ReadPost w R l ba bc (pPicksR (l.drop j)) (retPicks w.heap.size)) := by
  have HB := Lib.hid hb
  have H := Lib.hid h
  have hRw := h.lt
  go_enter Tryd.func37, Tryd.ntmps37
  go_wp2_with fail
  clear h hb
  go_loopw [3, 4, 5] (fun v t f wr => ∃ (q : Nat) (out : List Int) (th : Int) (fu : Bool), t = .int .i64 th ∧ f = .bool fu ∧ out.length ≤ 65536 ∧ Hid (pPicks (-1) true [] (l.drop j) = pPicks th fu out (l.drop q)) ∧ Keep R w wr ∧ Rd wr R l ba bc q ∧
    wr.ownsRow w.heap.size 3 1 v out.length (out.map (Value.int .i64))) (fun _ _ _ wr => l.length - rdAt R wr)
  case atStart => exact ⟨j, [], -1, true, rfl, rfl, by simp, Lib.hid rfl, Keep.refl R w, H.out, World.ownsRow_nil _ _ _ _⟩
  case round =>
    obtain ⟨q, out, th, fu, rfl, rfl, hol, HP, hk, hr, ho⟩ := hrel
    obtain ⟨va, vc, rfl, -⟩ := own_slice ho
    have g0 := hr.c0
    have g1 := hr.c1
    have g2 := hr.lt
    have hq := hr.le
    have HRQ := Lib.hid hr.rdAt
    have HR := Lib.hid hr; clear hr
    have HK := Lib.hid hk; clear hk
    have HO := Lib.hid ho; clear ho
    by_cases hlt : q < l.length
    · have HT := Lib.hid (pPicks_thn th fu out l q hlt)
      go_wp2_with fail
      go_quiet (fail)
      have g0' := g0; clear g0 g2
      have hK := HK.out.drewN nq
      have hR := HR.out.drewN nq
      have hO := own_drewN HO.out nq
      have g1 : (wr.drewN nq).cell? ⟨R, 1, none⟩ = some (.int .i64 q) := g1
      clear HR HK HO g0'
      have g2 := hR.lt
      generalize wr.drewN nq = w0 at *
      go_wp2_with fail
      refine (byte_any _ R l ba bc q hR HB.out hl).mono ?_
      rintro e w1 ⟨hk1, ⟨hn, p, r, rfl, hbad⟩ | ⟨x, q1, hs1, rfl, hr1⟩⟩
      · refine ⟨rfl, hK.trans hk1, .inl ⟨?_, p, r, rfl, hbad⟩⟩
        unfold pPicksR; rw [HP.out, HT.out, hn]; rfl
      · obtain ⟨hq1, -, -, x0, x1⟩ := byte_next hs1 hr1.le HB.out
        have HS1 := Lib.hid hs1; clear hs1
        have hK1 := hK.trans hk1
        have ho1 := hk1.own hO (by omega)
        clear hK hR hO hk1 g1 g2
        go_wp2_with fail
        refine (byte_any _ R l ba bc q1 hr1 HB.out hl).mono ?_
        rintro e w2 ⟨hk2, ⟨hn, p, r, rfl, hbad⟩ | ⟨y, q2, hs2, rfl, hr2⟩⟩
        · refine ⟨rfl, hK1.trans hk2, .inl ⟨?_, p, r, rfl, hbad⟩⟩
          unfold pPicksR; rw [HP.out, HT.out, HS1.out, thn_some, hn]; rfl
        · obtain ⟨hq2, -, -, y0, y1⟩ := byte_next hs2 hr2.le HB.out
          have HK2 := Lib.hid (hK1.trans hk2)
          have HO2 := Lib.hid (hk2.own ho1 (by omega))
          have HR2 := Lib.hid hr2
          have HIF : Hid (pPicks (-1) true [] (l.drop j) = if 1 ≤ y ∧ (x ≠ th ∨ fu = true) ∧ y ≤ 65536 - (out.length : Int) then pPicks x (y == 255) (out ++ List.replicate y.toNat x) (l.drop q2) else none) :=
            Lib.hid (by rw [HP.out, HT.out, HS1.out, thn_some, hs2, thn_some])
          have hql : q < q2 := by omega
          have hq2b := hr2.le
          clear hK1 ho1 hr1 hk2 hr2 hs2 HS1 HT HP hq1 hq2
          by_cases hc1 : 1 ≤ y
          · by_cases hc2 : x ≠ th ∨ fu = true
            · have hxs : x ≠ th ∨ (x = th ∧ fu = true) := by
                by_cases h : x = th
                · exact .inr ⟨h, hc2.resolve_left (fun g => g h)⟩
                · exact .inl h
              by_cases hc3 : y ≤ 65536 - (out.length : Int)
              · have HCC := Lib.hid (And.intro hc1 (And.intro hc2 hc3))
                obtain ⟨N, rfl⟩ := Int.eq_ofNat_of_zero_le y0
                clear hc2
                rcases hxs with hx | ⟨hx, hfu⟩
                · have d2 : (x != th) = true := by simpa using hx
                  clear hx
                  go_wp2_with fail
                  refine (insist_ok _ _ _).mono ?_
                  rintro e w3 ⟨rfl, rfl⟩
                  go_wp2_with fail
                  refine (insist_ok _ _ _).mono ?_
                  rintro e w3 ⟨rfl, rfl⟩
                  go_wp2_with fail
                  obtain ⟨wo, rfl⟩ : ∃ wo : World, wo = wr := ⟨_, rfl⟩
                  go_loopw [3, 47] (fun v k wr => ∃ i : Nat, k = .int .i64 i ∧ i ≤ N ∧ Keep R w wr ∧ Rd wr R l ba bc q2 ∧ wr.ownsRow w.heap.size 3 1 v (out.length + i) ((out ++ List.replicate i x).map (Value.int .i64))) (fun _ k _ => N - (intOf k).toNat)
                  case atStart => exact ⟨0, rfl, by omega, HK2.out, HR2.out, by simpa using HO2.out⟩
                  case round =>
                    clear HK2 HR2 HO2
                    obtain ⟨i, rfl, hi, hk, hr, ho⟩ := hrel
                    by_cases hlt : i < N
                    · have HO := Lib.hid ho; clear ho
                      go_wp2_with (at_builtin; refine wpList_app1 rfl (.tmp 49) (.tmp 51) 24 rfl w.heap.size 3 _ 8 Tryd.underlying24 Tryd.infoInt rfl _ _ _ (.int .i64 x) _ rfl (own_ext HO.out ((Ext.refl _).alloc _)) rfl ?_ rfl ?_ ?_ ?_ ?_; rotate_right; intro v' w1 ho hg hbb)
                      any_goals (first | (rw [World.cell?_alloc_at _ _ _ _ (by simp)]; rfl) | (unfold maxLen; omega) | omega | (have := hk.size; simp; omega))
                      go_roundw
                      case rel =>
                        refine ⟨i + 1, by go_num, by omega, (hk.alloc _).then_below hbb, H.out.then hr (((Ext.refl wr).alloc _).mono hk.size |>.trans hbb), ?_⟩
                        rw [List.replicate_succ', ← List.append_assoc, List.map_append]; exact ho
                      case measure => simp [intOf]; omega
                    · have hiN : i = N := by omega
                      subst hiN
                      have HPN : Hid (pPicks (-1) true [] (l.drop j) = pPicks x ((i : Int) == 255) (out ++ List.replicate i x) (l.drop q2)) := Lib.hid (by rw [HIF.out, if_pos HCC.out, Int.toNat_natCast])
                      have HRA := Lib.hid hr.rdAt
                      have HO := Lib.hid ho; clear ho
                      go_wp2
                      go_roundw
                      case rel => exact ⟨q2, out ++ List.replicate i x, x, ((i : Int) == 255), rfl, rfl, by rw [List.length_append, List.length_replicate]; omega, HPN, hk, hr, by rw [List.length_append, List.length_replicate]; exact HO.out⟩
                      case measure => rw [HRA.out, HRQ.out]; omega
                · have d2 : (x != th) = false := by simpa using hx
                  subst hfu
                  clear hx
                  go_wp2_with fail
                  refine (insist_ok _ _ _).mono ?_
                  rintro e w3 ⟨rfl, rfl⟩
                  go_wp2_with fail
                  refine (insist_ok _ _ _).mono ?_
                  rintro e w3 ⟨rfl, rfl⟩
                  go_wp2_with fail
                  obtain ⟨wo, rfl⟩ : ∃ wo : World, wo = wr := ⟨_, rfl⟩
                  go_loopw [3, 47] (fun v k wr => ∃ i : Nat, k = .int .i64 i ∧ i ≤ N ∧ Keep R w wr ∧ Rd wr R l ba bc q2 ∧ wr.ownsRow w.heap.size 3 1 v (out.length + i) ((out ++ List.replicate i x).map (Value.int .i64))) (fun _ k _ => N - (intOf k).toNat)
                  case atStart => exact ⟨0, rfl, by omega, HK2.out, HR2.out, by simpa using HO2.out⟩
                  case round =>
                    clear HK2 HR2 HO2
                    obtain ⟨i, rfl, hi, hk, hr, ho⟩ := hrel
                    by_cases hlt : i < N
                    · have HO := Lib.hid ho; clear ho
                      go_wp2_with (at_builtin; refine wpList_app1 rfl (.tmp 49) (.tmp 51) 24 rfl w.heap.size 3 _ 8 Tryd.underlying24 Tryd.infoInt rfl _ _ _ (.int .i64 x) _ rfl (own_ext HO.out ((Ext.refl _).alloc _)) rfl ?_ rfl ?_ ?_ ?_ ?_; rotate_right; intro v' w1 ho hg hbb)
                      any_goals (first | (rw [World.cell?_alloc_at _ _ _ _ (by simp)]; rfl) | (unfold maxLen; omega) | omega | (have := hk.size; simp; omega))
                      go_roundw
                      case rel =>
                        refine ⟨i + 1, by go_num, by omega, (hk.alloc _).then_below hbb, H.out.then hr (((Ext.refl wr).alloc _).mono hk.size |>.trans hbb), ?_⟩
                        rw [List.replicate_succ', ← List.append_assoc, List.map_append]; exact ho
                      case measure => simp [intOf]; omega
                    · have hiN : i = N := by omega
                      subst hiN
                      have HPN : Hid (pPicks (-1) true [] (l.drop j) = pPicks x ((i : Int) == 255) (out ++ List.replicate i x) (l.drop q2)) := Lib.hid (by rw [HIF.out, if_pos HCC.out, Int.toNat_natCast])
                      have HRA := Lib.hid hr.rdAt
                      have HO := Lib.hid ho; clear ho
                      go_wp2
                      go_roundw
                      case rel => exact ⟨q2, out ++ List.replicate i x, x, ((i : Int) == 255), rfl, rfl, by rw [List.length_append, List.length_replicate]; omega, HPN, hk, hr, by rw [List.length_append, List.length_replicate]; exact HO.out⟩
                      case measure => rw [HRA.out, HRQ.out]; omega
              · have d3 : decide (y ≤ 65536 - (out.length : Int)) = false := decide_eq_false hc3
                clear hc2
                rcases hxs with hx | ⟨hx, hfu⟩
                · have d2 : (x != th) = true := by simpa using hx
                  clear hx
                  go_wp2_with fail
                  refine (insist_ok _ _ _).mono ?_
                  rintro e w3 ⟨rfl, rfl⟩
                  go_wp2_with fail
                  refine (insist_no _ _ _).mono ?_
                  rintro e w3 ⟨rfl, rfl⟩
                  refine ⟨rfl, HK2.out, .inl ⟨?_, Bad.mk l _ _ (by omega) (by omega) (by decide) (fun h => absurd h h11)⟩⟩
                  unfold pPicksR; rw [HIF.out, if_neg (by omega)]; rfl
                · have d2 : (x != th) = false := by simpa using hx
                  subst hfu
                  clear hx
                  go_wp2_with fail
                  refine (insist_ok _ _ _).mono ?_
                  rintro e w3 ⟨rfl, rfl⟩
                  go_wp2_with fail
                  refine (insist_no _ _ _).mono ?_
                  rintro e w3 ⟨rfl, rfl⟩
                  refine ⟨rfl, HK2.out, .inl ⟨?_, Bad.mk l _ _ (by omega) (by omega) (by decide) (fun h => absurd h h11)⟩⟩
                  unfold pPicksR; rw [HIF.out, if_neg (by omega)]; rfl
            · have hx : x = th := by
                by_cases h : x = th
                · exact h
                · exact absurd (.inl h) hc2
              have hfu : fu = false := by cases fu <;> simp_all
              subst hfu
              have d2 : (x != th) = false := by simpa using hx
              have HB1 : Hid (¬ (1 ≤ y ∧ (x ≠ th ∨ false = true) ∧ y ≤ 65536 - (out.length : Int))) := Lib.hid fun h => hc2 h.2.1
              clear hx hc2
              go_wp2_with fail
              refine (insist_no _ _ _).mono ?_
              rintro e w3 ⟨rfl, rfl⟩
              refine ⟨rfl, HK2.out, .inl ⟨?_, Bad.mk l _ _ (by omega) (by omega) (by decide) (fun h => absurd h h11)⟩⟩
              unfold pPicksR; rw [HIF.out, if_neg HB1.out]; rfl
          · have d1 : decide (1 ≤ y) = false := decide_eq_false (by omega)
            go_wp2_with fail
            refine (insist_no _ _ _).mono ?_
            rintro e w3 ⟨rfl, rfl⟩
            refine ⟨rfl, HK2.out, .inl ⟨?_, Bad.mk l _ _ (by omega) (by omega) (by decide) (fun h => absurd h h11)⟩⟩
            unfold pPicksR; rw [HIF.out, if_neg (by omega)]; rfl
    · have d1 : decide ((q : Int) < (l.length : Int)) = false := decide_eq_false (by omega)
      go_wp2_with fail
      go_quiet (fail)
      go_wp2
      go_ret
      have hqe : l.drop q = [] := List.drop_eq_nil_iff.2 (by omega)
      obtain ⟨a, cap, hv, -, hcap, hi, -⟩ := IsInts.ownK HO.out
      obtain ⟨rfl, rfl⟩ : va = a ∧ vc = cap := by simpa using hv
      refine ⟨HK.out.drewN _, .inr ⟨out, q, ?_, ⟨va, vc, rfl, hi, fun p hp => ?_, hol, hcap⟩, HR.out.drewN _⟩⟩
      · unfold pPicksR; rw [HP.out, hqe]; rfl
      · subst hp; exact (HO.out.lt _ rfl).1

end Go.Proofs.YtcfbcffmlinlaaaDoor

namespace Go.Proofs.YtcfbcffmlinlaaaDoor
open Go.RowKit

theorem assert_wrong (v : Value) (w : World) : (Instr.typeAssert (.iface 86 v) 20 86 true).run Tryd.prog w = .ok (.tuple #[v, .bool true]) w := by
  simp [Instr.typeAssert, run_underlying Tryd.underlying86, go_sem, Result.andThen]

theorem Blk.drew {w : World} {k : Nat} {cs : Array Value} {E : TypeId} (h : Blk w k cs E) : Blk w.drew k cs E := h

theorem frame20 (a b c V : Value) : (#[a, b, c] ++ ((Array.replicate 17 undef).setIfInBounds 3 V).setIfInBounds 0 V) = #[a, b, c, V, undef, undef, V, undef, undef, undef, undef, undef, undef, undef, undef, undef, undef, undef, undef, undef] := by
  simp only [Array.replicate_succ, Array.replicate_zero, List.push_toArray, List.append_toArray, List.nil_append, List.cons_append, List.setIfInBounds_toArray, List.set_cons_succ, List.set_cons_zero]


set_option maxHeartbeats 400000 in
theorem clos_idle (a0 a1 a2 : Addr) (w : World) :
    CallsD Tryd.prog 34 #[.pointer (some a0), .pointer (some a1), .pointer (some a2)] .returning w fun e u' w' => e = .returned (.tuple #[]) ∧ u' = .returning ∧ w' = w := by
  refine callsD_of_wpS Tryd.func34 rfl fun c₀ cs hu => ?_
  apply wpS_seq
  apply wpS_region
  simp [wpOpsS, go_sem, recoverD, hu, Tryd.ntmps34, Exit.thenS]
  refine wpS_of_wp ?_
  rw [frame20]
  go_wp2
  refine ⟨rfl, .returning, ?_, .tuple #[], results_none rfl _ _ _, rfl, rfl, rfl⟩
  cases c₀
  simp_all

set_option maxRecDepth 100000 in
set_option maxHeartbeats 1000000 in
theorem clos_caught (S A E : Nat) (x y : Int) (p r : Int) (cs4 : Array Value) (older : List PanicEntry) (w : World) (hS : Blk w S cs4 26) (h4 : ∃ v0 v1 v2 v3, cs4 = #[v0, v1, v2, v3]) (hA : Blk w A #[.int .i64 x] 3) (hE : Blk w E #[.int .i64 y] 28) (hSA : S < A) (hAE : A < E) :
    CallsD Tryd.prog 34 #[.pointer (some ⟨S, 0, none⟩), .pointer (some ⟨A, 0, none⟩), .pointer (some ⟨E, 0, none⟩)] (.panicking ({ v := .iface 86 (.agg #[.int .i64 p, .int .i64 r]), recovered := false } :: older)) w fun e u' w' =>
      e = .returned (.tuple #[]) ∧ u' = .panicking ({ v := .iface 86 (.agg #[.int .i64 p, .int .i64 r]), recovered := true } :: older) ∧ Below S w w' ∧
      Blk w' S #[.int .i64 0, .slice none 0 0, .slice none 0 0, .slice none 0 0] 26 ∧ Blk w' A #[.int .i64 p] 3 ∧ Blk w' E #[.int .i64 r] 28 := by
  obtain ⟨v0, v1, v2, v3, rfl⟩ := h4
  have s0 := hS.cell 0 (v := v0) rfl
  have s1 := hS.cell 1 (v := v1) rfl
  have s2 := hS.cell 2 (v := v2) rfl
  have s3 := hS.cell 3 (v := v3) rfl
  have z0 := hS.fz 0
  have z1 := hS.fz 1
  have z2 := hS.fz 2
  have z3 := hS.fz 3
  have ls := hS.lt
  have la := hA.lt
  have le := hE.lt
  have hta := assert_wrong (.agg #[.int .i64 p, .int .i64 r])
  have a0 := hA.cell 0 (v := .int .i64 x) rfl
  have a1 := hA.fz 0
  have e0 := hE.cell 0 (v := .int .i64 y) rfl
  have e1 := hE.fz 0
  refine callsD_of_wpS Tryd.func34 rfl fun c₀ cs hu => ?_
  apply wpS_seq
  apply wpS_region
  simp [wpOpsS, go_sem, recoverD, hu, Tryd.ntmps34, Exit.thenS]
  refine wpS_of_wp ?_
  rw [frame20]
  go_wp2
  go_region
  have ws : ∀ (u : World) (b i : Nat) (v : Value), S ≤ b → Below S u (u.setCell ⟨b, i, none⟩ v) := fun u b i v h => below_set S u h v
  have hbel : Below S w ((((((((w.setCell ⟨S, 0, none⟩ (.int .i64 0)).setCell ⟨S, 1, none⟩ (.slice none 0 0)).setCell ⟨S, 2, none⟩ (.slice none 0 0)).setCell ⟨S, 3, none⟩ (.slice none 0 0)).setCell ⟨A, 0, none⟩ (.int .i64 0)).setCell ⟨E, 0, none⟩ (.int .i64 5)).setCell ⟨A, 0, none⟩ (.int .i64 p)).setCell ⟨E, 0, none⟩ (.int .i64 r)) :=
    (((((((ws _ _ _ _ (Nat.le_refl S)).trans (ws _ _ _ _ (Nat.le_refl S))).trans (ws _ _ _ _ (Nat.le_refl S))).trans (ws _ _ _ _ (Nat.le_refl S))).trans (ws _ _ _ _ (by omega))).trans (ws _ _ _ _ (by omega))).trans (ws _ _ _ _ (by omega))).trans (ws _ _ _ _ (by omega))
  have hbS : Blk ((((((((w.setCell ⟨S, 0, none⟩ (.int .i64 0)).setCell ⟨S, 1, none⟩ (.slice none 0 0)).setCell ⟨S, 2, none⟩ (.slice none 0 0)).setCell ⟨S, 3, none⟩ (.slice none 0 0)).setCell ⟨A, 0, none⟩ (.int .i64 0)).setCell ⟨E, 0, none⟩ (.int .i64 5)).setCell ⟨A, 0, none⟩ (.int .i64 p)).setCell ⟨E, 0, none⟩ (.int .i64 r)) S #[.int .i64 0, .slice none 0 0, .slice none 0 0, .slice none 0 0] 26 :=
    (((((((hS.set 0 _).set 1 _).set 2 _).set 3 _).set_ne (by omega) _).set_ne (by omega) _).set_ne (by omega) _).set_ne (by omega) _
  have hbA : Blk ((((((((w.setCell ⟨S, 0, none⟩ (.int .i64 0)).setCell ⟨S, 1, none⟩ (.slice none 0 0)).setCell ⟨S, 2, none⟩ (.slice none 0 0)).setCell ⟨S, 3, none⟩ (.slice none 0 0)).setCell ⟨A, 0, none⟩ (.int .i64 0)).setCell ⟨E, 0, none⟩ (.int .i64 5)).setCell ⟨A, 0, none⟩ (.int .i64 p)).setCell ⟨E, 0, none⟩ (.int .i64 r)) A #[.int .i64 p] 3 :=
    (((((((hA.set_ne (by omega) _).set_ne (by omega) _).set_ne (by omega) _).set_ne (by omega) _).set 0 _).set_ne (by omega) _).set 0 _).set_ne (by omega) _
  have hbE : Blk ((((((((w.setCell ⟨S, 0, none⟩ (.int .i64 0)).setCell ⟨S, 1, none⟩ (.slice none 0 0)).setCell ⟨S, 2, none⟩ (.slice none 0 0)).setCell ⟨S, 3, none⟩ (.slice none 0 0)).setCell ⟨A, 0, none⟩ (.int .i64 0)).setCell ⟨E, 0, none⟩ (.int .i64 5)).setCell ⟨A, 0, none⟩ (.int .i64 p)).setCell ⟨E, 0, none⟩ (.int .i64 r)) E #[.int .i64 r] 28 :=
    (((((((hE.set_ne (by omega) _).set_ne (by omega) _).set_ne (by omega) _).set_ne (by omega) _).set_ne (by omega) _).set 0 _).set_ne (by omega) _).set 0 _
  refine ⟨rfl, .panicking ({ v := .iface 86 (.agg #[.int .i64 p, .int .i64 r]), recovered := true } :: older), rfl, .tuple #[], results_none rfl _ _ _, rfl, rfl, ?_, ?_, ?_, ?_⟩
  · exact Below.drew (hbel.alloc (by simp; omega) _)
  · exact (hbS.alloc _).drew
  · exact (hbA.alloc _).drew
  · exact (hbE.alloc _).drew

end Go.Proofs.YtcfbcffmlinlaaaDoor

namespace Go.Proofs.YtcfbcffmlinlaaaDoor
open Go.RowKit

def pS2 (n : Int) (ss : List Spc) (cs : List Cll) : Option (List Int) → Option Scr
  | none => none
  | some ps => some ⟨n, ss, cs, ps⟩
def pS1 (n : Int) (ss : List Spc) : Option (List Cll × List Int) → Option Scr
  | none => none
  | some (cs, l) => pS2 n ss cs (pPicks (-1) true [] l)
def pS0 : Option ((Int × List Spc) × List Int) → Option Scr
  | none => none
  | some ((n, ss), l) => pS1 n ss (pAllCalls n l)
theorem pS_zero (l : List Int) : pS l = pS0 (pHead l) := by
  rw [pS_parts]
  cases pHead l with
  | none => rfl
  | some x =>
    obtain ⟨⟨n, ss⟩, l⟩ := x
    simp only [pS0]
    cases pAllCalls n l with
    | none => rfl
    | some x =>
      obtain ⟨cs, l⟩ := x
      simp only [pS1]
      cases pPicks (-1) true [] l <;> rfl

/-- What script.Decode answers. -/
def DecPost (l : List Int) (w : World) (e : Ending) (w' : World) : Prop :=
  Ext w w' ∧ ((pS l = none ∧ ∃ p r : Int, e = .returned (.tuple #[.agg #[.int .i64 0, .slice none 0 0, .slice none 0 0, .slice none 0 0], .int .i64 p, .int .i64 r]) ∧ 0 ≤ p ∧ p ≤ l.length ∧ r ≠ 0 ∧ (l = [1, 1] → p = 2 ∧ r = 4)) ∨
    ∃ (s : Scr) (m : Lies), pS l = some s ∧ e = .returned (.tuple #[.agg #[.int .i64 s.n, .slice m.sa s.specs.length m.sc, .slice m.ca s.calls.length m.cc, .slice m.pa s.picks.length m.pc], .int .i64 0, .int .i64 0]) ∧ LiesAt s m w' ∧ s.picks.length ≤ m.pc)

theorem dec_results {w : World} {S A E : Nat} {v0 v1 v2 v3 x y : Value} (tmps : Array Value) (h2 : tmps[2]?.getD undef = .pointer (some ⟨S, 0, none⟩)) (h3 : tmps[3]?.getD undef = .pointer (some ⟨A, 0, none⟩)) (h4 : tmps[4]?.getD undef = .pointer (some ⟨E, 0, none⟩))
    (hS : Blk w S #[v0, v1, v2, v3] 26) (hA : Blk w A #[x] 3) (hE : Blk w E #[y] 28) :
    (results Tryd.f16 tmps).run Tryd.prog w = .ok (.tuple #[.agg #[v0, v1, v2, v3], x, y]) w := by
  have s0 := hS.cell 0 (v := v0) rfl
  have s1 := hS.cell 1 (v := v1) rfl
  have s2 := hS.cell 2 (v := v2) rfl
  have s3 := hS.cell 3 (v := v3) rfl
  have a0 := hA.cell 0 (v := x) rfl
  have e0 := hE.cell 0 (v := y) rfl
  simp [results, Tryd.results16, go_sem, h2, h3, h4, s0, s1, s2, s3, a0, e0]

theorem dec_bad (l : List Int) (w W : World) (tmps : Array Value) (S A E : Nat) (v0 v1 v2 v3 : Value) (x y p r : Int) (h2 : tmps[2]?.getD undef = .pointer (some ⟨S, 0, none⟩)) (h3 : tmps[3]?.getD undef = .pointer (some ⟨A, 0, none⟩)) (h4 : tmps[4]?.getD undef = .pointer (some ⟨E, 0, none⟩))
    (hS : Blk W S #[v0, v1, v2, v3] 26) (hA : Blk W A #[.int .i64 x] 3) (hE : Blk W E #[.int .i64 y] 28) (hwS : w.heap.size ≤ S) (hSA : S < A) (hAE : A < E) (hx : Ext w W) (hn : pS l = none) (hp : 0 ≤ p ∧ p ≤ l.length ∧ r ≠ 0 ∧ (l = [1, 1] → p = 2 ∧ r = 4)) :
    Leaves Tryd.prog Tryd.f16 tmps (DecPost l w) [{ target := .fn (.func 34) #[.pointer (some ⟨S, 0, none⟩), .pointer (some ⟨A, 0, none⟩), .pointer (some ⟨E, 0, none⟩)], args := #[] }]
      (.panicking [{ v := .iface 86 (.agg #[.int .i64 p, .int .i64 r]), recovered := false }]) W := by
  refine leaves_cons (f := 34) (args := #[.pointer (some ⟨S, 0, none⟩), .pointer (some ⟨A, 0, none⟩), .pointer (some ⟨E, 0, none⟩)]) (by simp) (by simp [go_sem]) ?_
  refine (clos_caught S A E x y p r _ [] W hS ⟨v0, v1, v2, v3, rfl⟩ hA hE hSA hAE).mono ?_
  rintro e u' w'' ⟨rfl, rfl, hbel, hS', hA', hE'⟩
  refine ⟨_, dec_results tmps h2 h3 h4 hS' hA' hE', ?_⟩
  exact ⟨Below.trans hx (Below.mono hbel hwS), .inl ⟨hn, p, r, rfl, hp⟩⟩

theorem dec_ok (l : List Int) (w W : World) (tmps : Array Value) (S A E : Nat) (s : Scr) (m : Lies) (h2 : tmps[2]?.getD undef = .pointer (some ⟨S, 0, none⟩)) (h3 : tmps[3]?.getD undef = .pointer (some ⟨A, 0, none⟩)) (h4 : tmps[4]?.getD undef = .pointer (some ⟨E, 0, none⟩))
    (hS : Blk W S #[.int .i64 s.n, .slice m.sa s.specs.length m.sc, .slice m.ca s.calls.length m.cc, .slice m.pa s.picks.length m.pc] 26) (hA : Blk W A #[.int .i64 0] 3) (hE : Blk W E #[.int .i64 0] 28) (hx : Ext w W) (hn : pS l = some s) (hm : LiesAt s m W) (hc : s.picks.length ≤ m.pc) :
    Leaves Tryd.prog Tryd.f16 tmps (DecPost l w) [{ target := .fn (.func 34) #[.pointer (some ⟨S, 0, none⟩), .pointer (some ⟨A, 0, none⟩), .pointer (some ⟨E, 0, none⟩)], args := #[] }] .returning W := by
  refine leaves_cons (f := 34) (args := #[.pointer (some ⟨S, 0, none⟩), .pointer (some ⟨A, 0, none⟩), .pointer (some ⟨E, 0, none⟩)]) (by simp) (by simp [go_sem]) ?_
  refine (clos_idle _ _ _ W).mono ?_
  rintro e u' w'' ⟨rfl, rfl, rfl⟩
  exact ⟨_, dec_results tmps h2 h3 h4 hS hA hE, hx, .inr ⟨s, m, hn, rfl, hm, hc⟩⟩

theorem Rd.set2 {w : World} {R : Nat} {l : List Int} {ba : Option Addr} {bc j : Nat} (h : Rd w R l ba bc j) {b i : Nat} (hb : l = [] ∨ ∀ x, ba = some x → x.block ≠ b) (hne : R ≠ b) (v : Value) : Rd (w.setCell ⟨b, i, none⟩ v) R l ba bc j := by
  rcases hb with rfl | hb
  · exact ⟨by rw [heap_setCell_other w _ R v hne]; exact h.here, .inl rfl, h.le⟩
  · exact h.set_ne hb hne v
theorem rd_new {w : World} {l : List Int} {ba : Option Addr} {bc : Nat} (h : IsInts .u8 w ba l) : Rd (w.alloc (.cells #[.slice ba l.length bc, .int .i64 0] 90)) w.heap.size l ba bc 0 := by
  refine ⟨heap_alloc_new w _, ?_, Nat.zero_le _⟩
  by_cases hl : l = []
  · exact .inl hl
  · rcases h with h | ⟨b, off, ha, hc⟩
    · exact .inl h
    · have h0 := hc 0 (List.length_pos_iff.2 hl)
      have hb : b < w.heap.size := World.block_lt_of_cell? _ _ h0
      exact .inr ⟨b, off, ha, by omega, fun i hi => ((Ext.refl w).alloc _).cell (hc i hi)⟩
theorem ints_block {w : World} {k : IntKind} {l : List Int} {ba : Option Addr} (h : IsInts k w ba l) : l = [] ∨ ∀ x, ba = some x → x.block < w.heap.size := by
  by_cases hl : l = []
  · exact .inl hl
  · rcases h with h | ⟨b, off, ha, hc⟩
    · exact .inl h
    · right
      intro x hx
      have h0 := hc 0 (List.length_pos_iff.2 hl)
      have hb : b < w.heap.size := World.block_lt_of_cell? _ _ h0
      rw [ha] at hx; cases hx; exact hb
theorem keep_ext {R : Nat} {w a b : World} (h : Ext w a) (k : Keep R a b) (hR : w.heap.size ≤ R) (hRa : R ≤ a.heap.size) : Ext w b := Below.mono (Keep.below k (Below.refl R a) hRa) hR |> fun x => Below.trans h x

set_option maxRecDepth 100000 in
set_option maxHeartbeats 2000000 in
theorem decode_any (l : List Int) (ba : Option Addr) (bc : Nat) (w : World) (hi : IsInts .u8 w ba l) (hb : ∀ b ∈ l, byteOk b) (hl : l.length ≤ 9223372036854775807) :
    Calls Tryd.prog 16 #[.slice ba l.length bc] w (DecPost l w) := by
  have hmf : ∀ (fn : Fn) (first cap : Array Value) (w : World), (Instr.makeFunc fn first cap).run Tryd.prog w = .ok (.func fn first cap) w := fun _ _ _ _ => rfl
  have HP := Lib.hid (pS_zero l)
  go_enter_defers Tryd.func16, Tryd.ntmps16
  go_wp2_with fail
  have HX := Lib.hid (((((Ext.refl w).alloc (.cells #[Value.int .i64 0, .slice none 0 0, .slice none 0 0, .slice none 0 0] 26)).alloc (.cells #[Value.int .i64 0] 3)).alloc (.cells #[Value.int .i64 0] 28)).alloc (.cells #[Value.slice ba l.length bc, .int .i64 0] 90))
  have hr0 := rd_new (bc := bc) (((hi.ext ((Ext.refl w).alloc (.cells #[Value.int .i64 0, .slice none 0 0, .slice none 0 0, .slice none 0 0] 26))).ext ((Ext.refl _).alloc (.cells #[Value.int .i64 0] 3))).ext ((Ext.refl _).alloc (.cells #[Value.int .i64 0] 28)))
  have hS0 := (((Blk.new w #[Value.int .i64 0, .slice none 0 0, .slice none 0 0, .slice none 0 0] 26).alloc (.cells #[Value.int .i64 0] 3)).alloc (.cells #[Value.int .i64 0] 28)).alloc (.cells #[Value.slice ba l.length bc, .int .i64 0] 90)
  have hA0 := ((Blk.new (w.alloc (.cells #[Value.int .i64 0, .slice none 0 0, .slice none 0 0, .slice none 0 0] 26)) #[Value.int .i64 0] 3).alloc (.cells #[Value.int .i64 0] 28)).alloc (.cells #[Value.slice ba l.length bc, .int .i64 0] 90)
  have hE0 := (Blk.new ((w.alloc (.cells #[Value.int .i64 0, .slice none 0 0, .slice none 0 0, .slice none 0 0] 26)).alloc (.cells #[Value.int .i64 0] 3)) #[Value.int .i64 0] 28).alloc (.cells #[Value.slice ba l.length bc, .int .i64 0] 90)
  have hba := ints_block hi
  simp only [World.size_alloc] at hr0 hA0 hE0
  generalize (((w.alloc (.cells #[Value.int .i64 0, .slice none 0 0, .slice none 0 0, .slice none 0 0] 26)).alloc (.cells #[Value.int .i64 0] 3)).alloc (.cells #[Value.int .i64 0] 28)).alloc (.cells #[Value.slice ba l.length bc, .int .i64 0] 90) = W0 at *
  have hsz := hr0.lt
  refine (head_read W0 _ l ba bc 0 hr0 hb hl).mono ?_
  rintro e w1 ⟨hk1, ⟨hn, p, r, rfl, hbad⟩ | ⟨⟨n, ss⟩, j1, hs1, ⟨sa, sc, rfl, hsp, hsb, n0, n1, hsl⟩, hr1⟩⟩
  · refine dec_bad l w _ _ w.heap.size (w.heap.size + 1) (w.heap.size + 1 + 1) _ _ _ _ _ _ p r rfl rfl rfl (hS0.keep hk1 (by omega)) (hA0.keep hk1 (by omega)) (hE0.keep hk1 (by omega)) (Nat.le_refl _) (by omega) (by omega) (keep_ext HX.out hk1 (by omega) (by omega)) ?_ hbad
    rw [List.drop_zero] at hn
    rw [HP.out, hn]; rfl
  · simp only at hsl hsp n0 n1 ⊢
    have HP1 : Hid (pS l = pS1 n ss (pAllCalls n (l.drop j1))) := Lib.hid (by rw [List.drop_zero] at hs1; rw [HP.out, hs1]; rfl)
    have h11 : l ≠ [1, 1] := by
      intro h; subst h
      rw [List.drop_zero, show pHead [1, 1] = none from rfl] at hs1
      cases hs1
    have hSb := hS0.keep hk1 (by omega)
    have s0 := hSb.cell 0 (v := .int .i64 0) rfl
    have s1 := hSb.cell 1 (v := .slice none 0 0) rfl
    have s2 := hSb.cell 2 (v := .slice none 0 0) rfl
    have s3 := hSb.cell 3 (v := .slice none 0 0) rfl
    have z0 := hSb.fz 0
    have z1 := hSb.fz 1
    have z2 := hSb.fz 2
    have z3 := hSb.fz 3
    have ls := hSb.lt
    have hS1 : Blk ((((w1.setCell ⟨w.heap.size, 0, none⟩ (.int .i64 n)).setCell ⟨w.heap.size, 1, none⟩ (.slice sa ss.length sc)).setCell ⟨w.heap.size, 2, none⟩ (.slice none 0 0)).setCell ⟨w.heap.size, 3, none⟩ (.slice none 0 0)) w.heap.size #[.int .i64 n, .slice sa ss.length sc, .slice none 0 0, .slice none 0 0] 26 :=
      (((hSb.set 0 _).set 1 _).set 2 _).set 3 _
    have hA1 := (((((hA0.keep hk1 (by omega)).set_ne (b := w.heap.size) (i := 0) (by omega) (.int .i64 n)).set_ne (b := w.heap.size) (i := 1) (by omega) (.slice sa ss.length sc)).set_ne (b := w.heap.size) (i := 2) (by omega) (.slice none 0 0)).set_ne (b := w.heap.size) (i := 3) (by omega) (.slice none 0 0))
    have hE1 := (((((hE0.keep hk1 (by omega)).set_ne (b := w.heap.size) (i := 0) (by omega) (.int .i64 n)).set_ne (b := w.heap.size) (i := 1) (by omega) (.slice sa ss.length sc)).set_ne (b := w.heap.size) (i := 2) (by omega) (.slice none 0 0)).set_ne (b := w.heap.size) (i := 3) (by omega) (.slice none 0 0))
    have hbn : l = [] ∨ ∀ x, ba = some x → x.block ≠ w.heap.size := hba.imp id (fun h x hx => by have := h x hx; omega)
    have hR1 := ((((hr1.set2 (b := w.heap.size) (i := 0) hbn (by omega) (.int .i64 n)).set2 (b := w.heap.size) (i := 1) hbn (by omega) (.slice sa ss.length sc)).set2 (b := w.heap.size) (i := 2) hbn (by omega) (.slice none 0 0)).set2 (b := w.heap.size) (i := 3) hbn (by omega) (.slice none 0 0))
    have hsn : ∀ x, sa = some x → x.block ≠ w.heap.size := fun x hx => by have := hsb x hx; omega
    have hsp1 : IsSpecs ((((w1.setCell ⟨w.heap.size, 0, none⟩ (.int .i64 n)).setCell ⟨w.heap.size, 1, none⟩ (.slice sa ss.length sc)).setCell ⟨w.heap.size, 2, none⟩ (.slice none 0 0)).setCell ⟨w.heap.size, 3, none⟩ (.slice none 0 0)) sa ss :=
      IsSeq.keep (IsSeq.keep (IsSeq.keep (IsSeq.keep hsp (keep_set _ 0 _ _) hsn) (keep_set _ 1 _ _) hsn) (keep_set _ 2 _ _) hsn) (keep_set _ 3 _ _) hsn
    have hx1 : Ext w w1 := keep_ext HX.out hk1 (by omega) (by omega)
    have hx2 : Ext w ((((w1.setCell ⟨w.heap.size, 0, none⟩ (.int .i64 n)).setCell ⟨w.heap.size, 1, none⟩ (.slice sa ss.length sc)).setCell ⟨w.heap.size, 2, none⟩ (.slice none 0 0)).setCell ⟨w.heap.size, 3, none⟩ (.slice none 0 0)) :=
      Below.trans hx1 ((((below_set _ _ (Nat.le_refl _) _).trans (below_set _ _ (Nat.le_refl _) _)).trans (below_set _ _ (Nat.le_refl _) _)).trans (below_set _ _ (Nat.le_refl _) _))
    have hsz1 : W0.heap.size ≤ ((((w1.setCell ⟨w.heap.size, 0, none⟩ (.int .i64 n)).setCell ⟨w.heap.size, 1, none⟩ (.slice sa ss.length sc)).setCell ⟨w.heap.size, 2, none⟩ (.slice none 0 0)).setCell ⟨w.heap.size, 3, none⟩ (.slice none 0 0)).heap.size := by
      have := hk1.size; simp; omega
    go_upto_region 4 with (fail)
    generalize ((((w1.setCell ⟨w.heap.size, 0, none⟩ (.int .i64 n)).setCell ⟨w.heap.size, 1, none⟩ (.slice sa ss.length sc)).setCell ⟨w.heap.size, 2, none⟩ (.slice none 0 0)).setCell ⟨w.heap.size, 3, none⟩ (.slice none 0 0)) = W1 at *
    clear s0 s1 s2 s3 z0 z1 z2 z3 ls hSb hr0 hS0 hA0 hE0 hr1 hk1 hsp hx1 hs1 HP
    have k0 := hS1.cell 0 (v := .int .i64 n) rfl
    have k1 := hS1.lt
    go_wp2_with fail
    refine (calls_read n W1 _ l ba bc j1 hR1 hb hl h11).mono ?_
    rintro e w2 ⟨hk2, ⟨hn, p, r, rfl, hbad⟩ | ⟨cs, j2, hs2, ⟨ca, cc, rfl, hcp, hcb, hcl⟩, hr2⟩⟩
    · refine dec_bad l w _ _ w.heap.size (w.heap.size + 1) (w.heap.size + 1 + 1) _ _ _ _ _ _ p r rfl rfl rfl (hS1.keep hk2 (by omega)) (hA1.keep hk2 (by omega)) (hE1.keep hk2 (by omega)) (Nat.le_refl _) (by omega) (by omega) (keep_ext hx2 hk2 (by omega) (by omega)) ?_ hbad
      rw [HP1.out, hn]; rfl
    · clear k0 k1
      have HP2 : Hid (pS l = pS2 n ss cs (pPicks (-1) true [] (l.drop j2))) := Lib.hid (by rw [HP1.out, hs2]; rfl)
      have hSb := hS1.keep hk2 (by omega)
      have s2 := hSb.cell 2 (v := .slice none 0 0) rfl
      have z2 := hSb.fz 2
      have ls := hSb.lt
      have hcn : ∀ x, ca = some x → x.block ≠ w.heap.size := fun x hx => by have := hcb x hx; omega
      have hS2 : Blk (w2.setCell ⟨w.heap.size, 2, none⟩ (.slice ca cs.length cc)) w.heap.size #[.int .i64 n, .slice sa ss.length sc, .slice ca cs.length cc, .slice none 0 0] 26 := hSb.set 2 _
      have hA2 := (hA1.keep hk2 (by omega)).set_ne (b := w.heap.size) (i := 2) (by omega) (.slice ca cs.length cc)
      have hE2 := (hE1.keep hk2 (by omega)).set_ne (b := w.heap.size) (i := 2) (by omega) (.slice ca cs.length cc)
      have hR2 := hr2.set2 (b := w.heap.size) (i := 2) hbn (by omega) (.slice ca cs.length cc)
      have hsp2 : IsSpecs (w2.setCell ⟨w.heap.size, 2, none⟩ (.slice ca cs.length cc)) sa ss := IsSeq.keep (IsSeq.keep hsp1 hk2 (fun x hx => by have := hsb x hx; omega)) (keep_set _ 2 _ _) hsn
      have hcp2 : IsCalls (w2.setCell ⟨w.heap.size, 2, none⟩ (.slice ca cs.length cc)) ca cs := IsSeq.keep hcp (keep_set _ 2 _ _) hcn
      have hx3 : Ext w (w2.setCell ⟨w.heap.size, 2, none⟩ (.slice ca cs.length cc)) := Below.trans (keep_ext hx2 hk2 (by omega) (by omega)) (below_set _ _ (Nat.le_refl _) _)
      have hsz2 : W0.heap.size ≤ (w2.setCell ⟨w.heap.size, 2, none⟩ (.slice ca cs.length cc)).heap.size := by have := hk2.size; simp; omega
      go_upto_region 5 with (fail)
      generalize w2.setCell ⟨w.heap.size, 2, none⟩ (.slice ca cs.length cc) = W2 at *
      clear s2 z2 ls hSb hk2 hr2 hsp1 hcp hS1 hA1 hE1 hR1 hx2 hs2 HP1
      go_wp2_with fail
      refine (picks_read W2 _ l ba bc j2 hR2 hb hl h11).mono ?_
      rintro e w3 ⟨hk3, ⟨hn, p, r, rfl, hbad⟩ | ⟨ps, j3, hs3, ⟨pa, pc, rfl, hpp, hpb, hpl, hpc⟩, hr3⟩⟩
      · refine dec_bad l w _ _ w.heap.size (w.heap.size + 1) (w.heap.size + 1 + 1) _ _ _ _ _ _ p r rfl rfl rfl (hS2.keep hk3 (by omega)) (hA2.keep hk3 (by omega)) (hE2.keep hk3 (by omega)) (Nat.le_refl _) (by omega) (by omega) (keep_ext hx3 hk3 (by omega) (by omega)) ?_ hbad
        unfold pPicksR at hn
        rw [HP2.out]
        cases hq : pPicks (-1) true [] (l.drop j2) with
        | none => rfl
        | some x => rw [hq] at hn; cases hn
      · have HP3 : Hid (pS l = some ⟨n, ss, cs, ps⟩) := Lib.hid (by
          unfold pPicksR at hs3
          rw [HP2.out]
          cases hq : pPicks (-1) true [] (l.drop j2) with
          | none => rw [hq] at hs3; cases hs3
          | some x => rw [hq] at hs3; simp at hs3; rw [hs3.1]; rfl)
        have hSb := hS2.keep hk3 (by omega)
        have s3 := hSb.cell 3 (v := .slice none 0 0) rfl
        have z3 := hSb.fz 3
        have ls := hSb.lt
        have hpn : ∀ x, pa = some x → x.block ≠ w.heap.size := fun x hx => by have := hpb x hx; omega
        have hS3 : Blk (w3.setCell ⟨w.heap.size, 3, none⟩ (.slice pa ps.length pc)) w.heap.size #[.int .i64 n, .slice sa ss.length sc, .slice ca cs.length cc, .slice pa ps.length pc] 26 := hSb.set 3 _
        have hA3 := (hA2.keep hk3 (by omega)).set_ne (b := w.heap.size) (i := 3) (by omega) (.slice pa ps.length pc)
        have hE3 := (hE2.keep hk3 (by omega)).set_ne (b := w.heap.size) (i := 3) (by omega) (.slice pa ps.length pc)
        have hsp3 : IsSpecs (w3.setCell ⟨w.heap.size, 3, none⟩ (.slice pa ps.length pc)) sa ss := IsSeq.keep (IsSeq.keep hsp2 hk3 (fun x hx => by have := hsb x hx; omega)) (keep_set _ 3 _ _) hsn
        have hcp3 : IsCalls (w3.setCell ⟨w.heap.size, 3, none⟩ (.slice pa ps.length pc)) ca cs := IsSeq.keep (IsSeq.keep hcp2 hk3 (fun x hx => by have := hcb x hx; omega)) (keep_set _ 3 _ _) hcn
        have hpp3 : IsInts .i64 (w3.setCell ⟨w.heap.size, 3, none⟩ (.slice pa ps.length pc)) pa ps := hpp.keep (keep_set _ 3 _ _) hpn
        have hx4 : Ext w (w3.setCell ⟨w.heap.size, 3, none⟩ (.slice pa ps.length pc)) := Below.trans (keep_ext hx3 hk3 (by omega) (by omega)) (below_set _ _ (Nat.le_refl _) _)
        have hsz3 : W0.heap.size ≤ (w3.setCell ⟨w.heap.size, 3, none⟩ (.slice pa ps.length pc)).heap.size := by have := hk3.size; simp; omega
        go_upto_region 6 with (fail)
        generalize w3.setCell ⟨w.heap.size, 3, none⟩ (.slice pa ps.length pc) = W3 at *
        clear s3 z3 ls hSb hk3 hr3 hsp2 hcp2 hpp hS2 hA2 hE2 hR2 hx3 hs3 HP2
        have s0 := hS3.cell 0 (v := .int .i64 n) rfl
        have s1 := hS3.cell 1 (v := .slice sa ss.length sc) rfl
        have s2 := hS3.cell 2 (v := .slice ca cs.length cc) rfl
        have s3 := hS3.cell 3 (v := .slice pa ps.length pc) rfl
        have z0 := hS3.fz 0
        have z1 := hS3.fz 1
        have z2 := hS3.fz 2
        have z3 := hS3.fz 3
        have ls := hS3.lt
        have a0 := hA3.cell 0 (v := .int .i64 0) rfl
        have a1 := hA3.fz 0
        have a2 := hA3.lt
        have e0 := hE3.cell 0 (v := .int .i64 0) rfl
        have e1 := hE3.fz 0
        have e2 := hE3.lt
        have hS4 : Blk ((((((W3.setCell ⟨w.heap.size, 0, none⟩ (.int .i64 n)).setCell ⟨w.heap.size, 1, none⟩ (.slice sa ss.length sc)).setCell ⟨w.heap.size, 2, none⟩ (.slice ca cs.length cc)).setCell ⟨w.heap.size, 3, none⟩ (.slice pa ps.length pc)).setCell ⟨w.heap.size + 1, 0, none⟩ (.int .i64 0)).setCell ⟨w.heap.size + 1 + 1, 0, none⟩ (.int .i64 0)) w.heap.size #[.int .i64 n, .slice sa ss.length sc, .slice ca cs.length cc, .slice pa ps.length pc] 26 :=
          (((((hS3.set 0 _).set 1 _).set 2 _).set 3 _).set_ne (by omega) _).set_ne (by omega) _
        have hA4 : Blk ((((((W3.setCell ⟨w.heap.size, 0, none⟩ (.int .i64 n)).setCell ⟨w.heap.size, 1, none⟩ (.slice sa ss.length sc)).setCell ⟨w.heap.size, 2, none⟩ (.slice ca cs.length cc)).setCell ⟨w.heap.size, 3, none⟩ (.slice pa ps.length pc)).setCell ⟨w.heap.size + 1, 0, none⟩ (.int .i64 0)).setCell ⟨w.heap.size + 1 + 1, 0, none⟩ (.int .i64 0)) (w.heap.size + 1) #[.int .i64 0] 3 :=
          (((((hA3.set_ne (by omega) _).set_ne (by omega) _).set_ne (by omega) _).set_ne (by omega) _).set 0 _).set_ne (by omega) _
        have hE4 : Blk ((((((W3.setCell ⟨w.heap.size, 0, none⟩ (.int .i64 n)).setCell ⟨w.heap.size, 1, none⟩ (.slice sa ss.length sc)).setCell ⟨w.heap.size, 2, none⟩ (.slice ca cs.length cc)).setCell ⟨w.heap.size, 3, none⟩ (.slice pa ps.length pc)).setCell ⟨w.heap.size + 1, 0, none⟩ (.int .i64 0)).setCell ⟨w.heap.size + 1 + 1, 0, none⟩ (.int .i64 0)) (w.heap.size + 1 + 1) #[.int .i64 0] 28 :=
          (((((hE3.set_ne (by omega) _).set_ne (by omega) _).set_ne (by omega) _).set_ne (by omega) _).set_ne (by omega) _).set 0 _
        have q1 : ∀ x, sa = some x → W0.heap.size ≤ x.block := hsb
        have q2 : ∀ x, ca = some x → W0.heap.size ≤ x.block := fun x hx => by have := hcb x hx; omega
        have q3 : ∀ x, pa = some x → W0.heap.size ≤ x.block := fun x hx => by have := hpb x hx; omega
        have nn : ∀ (a : Option Addr), (∀ x, a = some x → W0.heap.size ≤ x.block) → ∀ b, b ≤ w.heap.size + 1 + 1 → ∀ x, a = some x → x.block ≠ b := fun a h b hb x hx => by have := h x hx; omega
        have hm4 : LiesAt ⟨n, ss, cs, ps⟩ ⟨sa, sc, ca, cc, pa, pc⟩ ((((((W3.setCell ⟨w.heap.size, 0, none⟩ (.int .i64 n)).setCell ⟨w.heap.size, 1, none⟩ (.slice sa ss.length sc)).setCell ⟨w.heap.size, 2, none⟩ (.slice ca cs.length cc)).setCell ⟨w.heap.size, 3, none⟩ (.slice pa ps.length pc)).setCell ⟨w.heap.size + 1, 0, none⟩ (.int .i64 0)).setCell ⟨w.heap.size + 1 + 1, 0, none⟩ (.int .i64 0)) := by
          refine ⟨?_, ?_, ?_⟩
          · exact IsSeq.keep (IsSeq.keep (IsSeq.keep (IsSeq.keep (IsSeq.keep (IsSeq.keep hsp3 (keep_set _ 0 _ _) (nn _ q1 _ (by omega))) (keep_set _ 1 _ _) (nn _ q1 _ (by omega))) (keep_set _ 2 _ _) (nn _ q1 _ (by omega))) (keep_set _ 3 _ _) (nn _ q1 _ (by omega))) (keep_set _ 0 _ _) (nn _ q1 _ (by omega))) (keep_set _ 0 _ _) (nn _ q1 _ (by omega))
          · exact IsSeq.keep (IsSeq.keep (IsSeq.keep (IsSeq.keep (IsSeq.keep (IsSeq.keep hcp3 (keep_set _ 0 _ _) (nn _ q2 _ (by omega))) (keep_set _ 1 _ _) (nn _ q2 _ (by omega))) (keep_set _ 2 _ _) (nn _ q2 _ (by omega))) (keep_set _ 3 _ _) (nn _ q2 _ (by omega))) (keep_set _ 0 _ _) (nn _ q2 _ (by omega))) (keep_set _ 0 _ _) (nn _ q2 _ (by omega))
          · exact IsInts.keep (IsInts.keep (IsInts.keep (IsInts.keep (IsInts.keep (IsInts.keep hpp3 (keep_set _ 0 _ _) (nn _ q3 _ (by omega))) (keep_set _ 1 _ _) (nn _ q3 _ (by omega))) (keep_set _ 2 _ _) (nn _ q3 _ (by omega))) (keep_set _ 3 _ _) (nn _ q3 _ (by omega))) (keep_set _ 0 _ _) (nn _ q3 _ (by omega))) (keep_set _ 0 _ _) (nn _ q3 _ (by omega))
        have hx5 : Ext w ((((((W3.setCell ⟨w.heap.size, 0, none⟩ (.int .i64 n)).setCell ⟨w.heap.size, 1, none⟩ (.slice sa ss.length sc)).setCell ⟨w.heap.size, 2, none⟩ (.slice ca cs.length cc)).setCell ⟨w.heap.size, 3, none⟩ (.slice pa ps.length pc)).setCell ⟨w.heap.size + 1, 0, none⟩ (.int .i64 0)).setCell ⟨w.heap.size + 1 + 1, 0, none⟩ (.int .i64 0)) :=
          Below.trans hx4 ((((((below_set _ _ (Nat.le_refl _) _).trans (below_set _ _ (Nat.le_refl _) _)).trans (below_set _ _ (Nat.le_refl _) _)).trans (below_set _ _ (Nat.le_refl _) _)).trans (below_set _ _ (by omega) _)).trans (below_set _ _ (by omega) _))
        go_wp2_with fail
        generalize ((((((W3.setCell ⟨w.heap.size, 0, none⟩ (.int .i64 n)).setCell ⟨w.heap.size, 1, none⟩ (.slice sa ss.length sc)).setCell ⟨w.heap.size, 2, none⟩ (.slice ca cs.length cc)).setCell ⟨w.heap.size, 3, none⟩ (.slice pa ps.length pc)).setCell ⟨w.heap.size + 1, 0, none⟩ (.int .i64 0)).setCell ⟨w.heap.size + 1 + 1, 0, none⟩ (.int .i64 0)) = W4 at hS4 hA4 hE4 hm4 hx5 ⊢
        exact dec_ok l w W4 _ w.heap.size (w.heap.size + 1) (w.heap.size + 1 + 1) ⟨n, ss, cs, ps⟩ ⟨sa, sc, ca, cc, pa, pc⟩ rfl rfl rfl hS4 hA4 hE4 hx5 HP3.out hm4 hpc

end Go.Proofs.YtcfbcffmlinlaaaDoor

namespace Go.Proofs.YtcfbcffmlinlaaaDoor
open Go.RowKit

theorem Tryd.infoU64 : (Tryd.prog.info? 47).map (fun i => (i.zero, i.size, i.bytes)) = some (some (.int .u64 0), 1, 8) := by kernel_rfl

/-- Words' numbers read on, or not. -/
def preN (a : List Int) : Option (List Int) → Option (List Int)
  | some l => some (a ++ l)
  | none => none
theorem preN_nil (x : Option (List Int)) : preN [] x = x := by cases x <;> rfl
theorem preN_preN (a b : List Int) (x : Option (List Int)) : preN a (preN b x) = preN (a ++ b) x := by
  cases x <;> simp [preN]
theorem numsP_none {w : List UInt8} {r : List (List UInt8)} (h : Pl.numP w = none) : Pl.numsP (w :: r) = none := by
  unfold Pl.numsP; rw [h]
theorem numsP_some {w : List UInt8} {r : List (List UInt8)} {x : Nat} (h : Pl.numP w = some x) : Pl.numsP (w :: r) = preN [(x : Int)] (Pl.numsP r) := by
  show (match Pl.numP w with | none => none | some x => match Pl.numsP r with | none => none | some l => some ((x : Int) :: l)) = _
  rw [h]
  cases Pl.numsP r <;> rfl

/-- What form hands back. -/
def retForm (B : Nat) (wd : List UInt8) (l : List Int) (e : Ending) (w' : World) : Prop :=
  ∃ a c, e = .returned (.tuple #[.string (St wd), .slice a l.length c]) ∧ IsInts .u64 w' a l ∧ (∀ p, a = some p → B ≤ p.block) ∧ ∀ x ∈ l, 0 ≤ x ∧ x ≤ 18446744073709551615
def FormPost (w : World) (wd : List UInt8) (x : Option (List Int)) (e : Ending) (w' : World) : Prop :=
  Ext w w' ∧ ((x = none ∧ Gave 5 e) ∨ ∃ l, x = some l ∧ retForm w.heap.size wd l e w')

theorem numP_le {w : List UInt8} {v : Nat} (h : Pl.numP w = some v) : v ≤ 18446744073709551615 := (Pl.numP_back h).2

set_option maxRecDepth 100000 in
set_option maxHeartbeats 2000000 in
theorem form_any (l : List UInt8) (w : World) (hl : l.length ≤ 1000000) (hm : MaxAt w) (wd : List UInt8) (ws : List (List UInt8)) (hw : Pl.words l = wd :: ws) :
    Calls Tryd.prog 41 #[.string (St l)] w (FormPost w wd (Pl.numsP ws)) := by
  obtain ⟨hw1, hw2⟩ := Pl.words_size l
  have HSP := split_any l w hl hm
  rw [hw] at HSP hw1 hw2
  have HS := Lib.hid HSP; clear HSP
  have HLW := Lib.hid (fun x (hx : x ∈ ws) => Nat.le_trans (hw2 x (List.mem_cons_of_mem _ hx)) hl)
  have HW := Lib.hid hw
  have hwl : ws.length ≤ 1000000 := by simp at hw1; omega
  clear hw hw1 hw2 hm
  go_enter Tryd.func41, Tryd.ntmps41
  go_wp2_with fail
  refine HS.out.mono ?_
  rintro e w1 ⟨rfl, rfl⟩
  clear HS
  have hb0 := Blk.new w ((wd :: ws).map (fun x => Value.string (St x))).toArray 9
  have hx0 := (Ext.refl w).alloc (.cells ((wd :: ws).map (fun x => Value.string (St x))).toArray 9)
  have hz0 : w.heap.size < (w.alloc (.cells ((wd :: ws).map (fun x => Value.string (St x))).toArray 9)).heap.size := by simp
  generalize w.alloc (.cells ((wd :: ws).map (fun x => Value.string (St x))).toArray 9) = W1 at *
  have hc0 : W1.cell? ⟨w.heap.size, 0, none⟩ = some (.string (St wd)) := hb0.cell 0 rfl
  have HB := Lib.hid hb0
  have HX0 := Lib.hid hx0
  have HC0 := Lib.hid hc0
  clear hb0 hx0 hc0
  cases ws with
  | nil =>
    go_wp2_with fail
    go_loop [5, 15] (fun u v => u = .slice none 0 0 ∧ v = .int .i64 0) (fun _ _ => 0)
    case atStart => exact ⟨rfl, rfl⟩
    case round =>
      obtain ⟨rfl, rfl⟩ := hrel
      have hc0 := HC0.out
      go_wp2_with fail
      go_ret2
      exact ⟨HX0.out, .inr ⟨[], rfl, none, 0, rfl, .inl rfl, (fun p h => by cases h), (fun x h => by cases h)⟩⟩
  | cons w1 ws =>
    go_wp2_with fail
    have hcw : ∀ i, i < ws.length + 1 → W1.cell? ⟨w.heap.size, 1 + i, none⟩ = some (.string (St (nthD [] (w1 :: ws) i))) := fun i hi => by
      refine HB.out.cell (1 + i) ?_
      rw [List.getElem?_toArray, List.getElem?_map, Nat.add_comm 1, List.getElem?_cons_succ, getElem?_nthD [] (w1 :: ws) i (by simpa using hi)]; rfl
    have hcl : ∀ i, i < ws.length + 1 → (nthD [] (w1 :: ws) i).length ≤ 1000000 := fun i hi => HLW.out _ (nthD_mem [] _ i (by simpa using hi))
    have hcs : ∀ i, i < ws.length + 1 → (w1 :: ws).drop i = nthD [] (w1 :: ws) i :: (w1 :: ws).drop (i + 1) := fun i hi => dropD_cons [] _ i (by simpa using hi)
    have hce : Hid ((w1 :: ws).drop (ws.length + 1) = []) := Lib.hid (by simp)
    have HCW := Lib.hid hcw
    have HCL := Lib.hid hcl
    have HCS := Lib.hid hcs
    have hwl2 : ws.length ≤ 1000000 := by simp at hwl; omega
    have hwN : Hid (ws.length + 1 = (w1 :: ws).length) := Lib.hid (by simp)
    clear hcw hcl hcs HLW hwl HW
    generalize w1 :: ws = vs at *
    generalize ws.length = N at *
    have hz0' : w.heap.size ≤ W1.heap.size := by omega
    go_loopw [5, 15] (fun u v wr => ∃ (i : Nat) (acc : List Int), i ≤ N + 1 ∧ v = .int .i64 (i : Int) ∧ acc.length = i ∧ Hid (Pl.numsP vs = preN acc (Pl.numsP (vs.drop i))) ∧ Hid (∀ x ∈ acc, 0 ≤ x ∧ x ≤ 18446744073709551615) ∧ Ext W1 wr ∧ wr.ownsRow W1.heap.size 47 1 u acc.length (acc.map (Value.int .u64))) (fun _ v _ => N + 1 - (intOf v).toNat)
    case atStart => exact ⟨0, [], Nat.zero_le _, rfl, rfl, Lib.hid (preN_nil _).symm, Lib.hid (fun x h => by cases h), Ext.refl _, World.ownsRow_nil _ _ _ _⟩
    case round =>
      obtain ⟨i, acc, hi, rfl, hai, HP, HG, hx, ho⟩ := hrel
      obtain ⟨va, vc, rfl, -⟩ := own_slice ho
      have HO := Lib.hid ho
      have HX := Lib.hid hx
      have HAI := Lib.hid hai
      have hal : acc.length ≤ 2000000 := by omega
      have hxs := hx.size
      have hc0 := hx.cell HC0.out
      clear ho hx hai
      by_cases hlt : i < N + 1
      · have hc := HX.out.cell (HCW.out i hlt)
        have hcl := HCL.out i hlt
        have HS := Lib.hid (HCS.out i hlt)
        generalize nthD [] vs i = x at *
        go_wp2_with fail
        refine (pnumber_any x _ hcl).mono ?_
        rintro e w2 ⟨rfl, hx2⟩
        have HX2 := Lib.hid (HX.out.trans hx2)
        have HO2 := Lib.hid (own_ext HO.out hx2)
        have hxs2 := hx2.size
        clear HO hc0 hc hx2
        cases hn : Pl.numP x with
        | none =>
          have HN := Lib.hid hn; clear hn
          unfold numV
          go_wp2_with fail
          refine (give_no 5 _).mono ?_
          rintro e w3 ⟨hg, rfl⟩
          unfold Gave at hg
          subst hg
          refine ⟨rfl, HX0.out.trans HX2.out, .inl ⟨?_, rfl⟩⟩
          rw [HP.out, HS.out, numsP_none HN.out]; rfl
        | some v =>
          have hv := numP_le hn
          have HN := Lib.hid hn; clear hn
          have hv2 : (v : Int) ≤ 18446744073709551615 := by omega
          clear hv
          unfold numV
          go_wp2_with fail
          refine (give_ok 5 _).mono ?_
          rintro e w3 ⟨rfl, rfl⟩
          go_wp2_with (at_builtin; refine wpList_app1 rfl (.tmp 26) (.tmp 28) 60 rfl W1.heap.size 47 _ 8 Tryd.underlying60 Tryd.infoU64 rfl _ _ _ (.int .u64 v) _ rfl (own_ext HO2.out ((Ext.refl _).alloc _)) rfl ?_ rfl ?_ ?_ ?_ ?_; rotate_right; intro v' w3 ho3 hg3 hb3)
          any_goals (first | (rw [World.cell?_alloc_at _ _ _ _ (by simp)]; rfl) | (unfold maxLen; have := HAI.out; omega) | (have := HAI.out; omega) | (have := HX2.out.size; simp; omega))
          go_roundw
          case rel =>
            have hai := HAI.out
            refine ⟨i + 1, acc ++ [(v : Int)], by omega, by go_num, by simp; omega, Lib.hid ?_, Lib.hid ?_, Below.trans (HX2.out.alloc _) hb3, ?_⟩
            · rw [HP.out, HS.out, numsP_some HN.out, preN_preN]
            · intro y hy
              rcases List.mem_append.1 hy with h | h
              · exact HG.out y h
              · simp only [List.mem_singleton] at h; omega
            · rw [List.length_append, List.map_append]; exact ho3
          case measure => simp [intOf]; omega
      · obtain rfl : i = N + 1 := by omega
        go_wp2_with fail
        go_ret2
        obtain ⟨a, cap, hv, -, -, hin, -⟩ := IsInts.ownK HO.out
        obtain ⟨rfl, rfl⟩ : va = a ∧ vc = cap := by simpa using hv
        refine ⟨HX0.out.trans HX.out, .inr ⟨acc, ?_, va, vc, rfl, hin, fun p hp => ?_, HG.out⟩⟩
        · rw [HP.out, hce.out]; simp [Pl.numsP, preN]
        · subst hp; have := (HO.out.lt _ rfl).1; omega
end Go.Proofs.YtcfbcffmlinlaaaDoor
