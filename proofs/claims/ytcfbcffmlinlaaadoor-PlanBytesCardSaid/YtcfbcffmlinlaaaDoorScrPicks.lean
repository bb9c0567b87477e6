/-
  script's reader: picks reads runs up to the end.
-/
import Derived.Test.YtcfbcffmlinlaaaDoorScrCalls
namespace Go.Proofs.YtcfbcffmlinlaaaDoor
open Go.RowKit

theorem Tryd.infoInt : (Tryd.prog.info? 3).map (fun i => (i.zero, i.size, i.bytes)) = some (some (.int .i64 0), 1, 8) := by kernel_rfl

theorem pPicks_thn (th : Int) (fu : Bool) (out l : List Int) (q : Nat) (h : q < l.length) : pPicks th fu out (l.drop q) = thn (pByte (l.drop q)) fun p l => thn (pByte l) fun n l =>
    if 1 ≤ n ∧ (p ≠ th ∨ fu = true) ∧ n ≤ 65536 - (out.length : Int) then pPicks p (n == 255) (out ++ List.replicate n.toNat p) l else none := by
  rw [drop_cons l q h]
  cases l.drop (q + 1) <;> rfl

def pPicksR (l : List Int) : Option (List Int × List Int) := (pPicks (-1) true [] l).map fun ps => (ps, [])

/-- What picks hands back. -/
def retPicks (B : Nat) (x : List Int) (e : Ending) (w' : World) : Prop :=
  ∃ pa pc, e = .returned (.slice pa x.length pc) ∧ IsInts .i64 w' pa x ∧ (∀ p, pa = some p → B ≤ p.block) ∧ x.length ≤ 65536 ∧ x.length ≤ pc

/-- How far the reader at R has come. -/
def rdAt (R : Nat) (w : World) : Nat := match w.cell? ⟨R, 1, none⟩ with
  | some v => (intOf v).toNat
  | none => 0
theorem Rd.rdAt {w : World} {R : Nat} {l : List Int} {ba : Option Addr} {bc j : Nat} (h : Rd w R l ba bc j) : rdAt R w = j := by
  unfold Go.Proofs.YtcfbcffmlinlaaaDoor.rdAt; rw [h.c1]; simp [intOf]

set_option maxRecDepth 100000 in
set_option maxHeartbeats 2000000 in
theorem picks_read (w : World) (R : Nat) (l : List Int) (ba : Option Addr) (bc j : Nat) (h : Rd w R l ba bc j) (hb : ∀ b ∈ l, byteOk b) (hl : l.length ≤ 9223372036854775807) (h11 : l ≠ [1, 1]) :
    Calls Tryd.prog 37 #[.pointer (some ⟨R, 0, none⟩)] w (ReadPost w R l ba bc (pPicksR (l.drop j)) (retPicks w.heap.size)) := by
  have HB := Lib.hid hb
  have H := Lib.hid h
  have hRw := h.lt
  go_enter Tryd.func37, Tryd.ntmps37
  go_wp2_with fail
  clear h hb
  go_loopw [3, 4, 5] (fun v t f wr => ∃ (q : Nat) (out : List Int) (th : Int) (fu : Bool), t = .int .i64 th ∧ f = .bool fu ∧ out.length ≤ 65536 ∧ Hid (pPicks (-1) true [] (l.drop j) = pPicks th fu out (l.drop q)) ∧ Keep R w wr ∧ Rd wr R l ba bc q ∧
    wr.ownsRow w.heap.size 3 1 v out.length (out.map (Value.int .i64))) (fun _ _ _ wr => l.length - rdAt R wr)
  case atStart => exact ⟨j, [], -1, true, rfl, rfl, by simp, Lib.hid rfl, Keep.refl R w, H.out, World.ownsRow_nil _ _ _ _⟩
  case round =>
    obtain ⟨q, out, th, fu, rfl, rfl, hol, HP, hk, hr, ho⟩ := hrel
    obtain ⟨va, vc, rfl, -⟩ := own_slice ho
    have g0 := hr.c0
    have g1 := hr.c1
    have g2 := hr.lt
    have hq := hr.le
    have HRQ := Lib.hid hr.rdAt
    have HR := Lib.hid hr; clear hr
    have HK := Lib.hid hk; clear hk
    have HO := Lib.hid ho; clear ho
    by_cases hlt : q < l.length
    · have HT := Lib.hid (pPicks_thn th fu out l q hlt)
      go_wp2_with fail
      go_quiet (fail)
      have g0' := g0; clear g0 g2
      have hK := HK.out.drewN nq
      have hR := HR.out.drewN nq
      have hO := own_drewN HO.out nq
      have g1 : (wr.drewN nq).cell? ⟨R, 1, none⟩ = some (.int .i64 q) := g1
      clear HR HK HO g0'
      have g2 := hR.lt
      generalize wr.drewN nq = w0 at *
      go_wp2_with fail
      refine (byte_any _ R l ba bc q hR HB.out hl).mono ?_
      rintro e w1 ⟨hk1, ⟨hn, p, r, rfl, hbad⟩ | ⟨x, q1, hs1, rfl, hr1⟩⟩
      · refine ⟨rfl, hK.trans hk1, .inl ⟨?_, p, r, rfl, hbad⟩⟩
        unfold pPicksR; rw [HP.out, HT.out, hn]; rfl
      · obtain ⟨hq1, -, -, x0, x1⟩ := byte_next hs1 hr1.le HB.out
        have HS1 := Lib.hid hs1; clear hs1
        have hK1 := hK.trans hk1
        have ho1 := hk1.own hO (by omega)
        clear hK hR hO hk1 g1 g2
        go_wp2_with fail
        refine (byte_any _ R l ba bc q1 hr1 HB.out hl).mono ?_
        rintro e w2 ⟨hk2, ⟨hn, p, r, rfl, hbad⟩ | ⟨y, q2, hs2, rfl, hr2⟩⟩
        · refine ⟨rfl, hK1.trans hk2, .inl ⟨?_, p, r, rfl, hbad⟩⟩
          unfold pPicksR; rw [HP.out, HT.out, HS1.out, thn_some, hn]; rfl
        · obtain ⟨hq2, -, -, y0, y1⟩ := byte_next hs2 hr2.le HB.out
          have HK2 := Lib.hid (hK1.trans hk2)
          have HO2 := Lib.hid (hk2.own ho1 (by omega))
          have HR2 := Lib.hid hr2
          have HIF : Hid (pPicks (-1) true [] (l.drop j) = if 1 ≤ y ∧ (x ≠ th ∨ fu = true) ∧ y ≤ 65536 - (out.length : Int) then pPicks x (y == 255) (out ++ List.replicate y.toNat x) (l.drop q2) else none) :=
            Lib.hid (by rw [HP.out, HT.out, HS1.out, thn_some, hs2, thn_some])
          have hql : q < q2 := by omega
          have hq2b := hr2.le
          clear hK1 ho1 hr1 hk2 hr2 hs2 HS1 HT HP hq1 hq2
          by_cases hc1 : 1 ≤ y
          · by_cases hc2 : x ≠ th ∨ fu = true
            · have hxs : x ≠ th ∨ (x = th ∧ fu = true) := by
                by_cases h : x = th
                · exact .inr ⟨h, hc2.resolve_left (fun g => g h)⟩
                · exact .inl h
              by_cases hc3 : y ≤ 65536 - (out.length : Int)
              · have HCC := Lib.hid (And.intro hc1 (And.intro hc2 hc3))
                obtain ⟨N, rfl⟩ := Int.eq_ofNat_of_zero_le y0
                clear hc2
                rcases hxs with hx | ⟨hx, hfu⟩
                · have d2 : (x != th) = true := by simpa using hx
                  clear hx
                  go_wp2_with fail
                  refine (insist_ok _ _ _).mono ?_
                  rintro e w3 ⟨rfl, rfl⟩
                  go_wp2_with fail
                  refine (insist_ok _ _ _).mono ?_
                  rintro e w3 ⟨rfl, rfl⟩
                  go_wp2_with fail
                  obtain ⟨wo, rfl⟩ : ∃ wo : World, wo = wr := ⟨_, rfl⟩
                  go_loopw [3, 47] (fun v k wr => ∃ i : Nat, k = .int .i64 i ∧ i ≤ N ∧ Keep R w wr ∧ Rd wr R l ba bc q2 ∧ wr.ownsRow w.heap.size 3 1 v (out.length + i) ((out ++ List.replicate i x).map (Value.int .i64))) (fun _ k _ => N - (intOf k).toNat)
                  case atStart => exact ⟨0, rfl, by omega, HK2.out, HR2.out, by simpa using HO2.out⟩
                  case round =>
                    clear HK2 HR2 HO2
                    obtain ⟨i, rfl, hi, hk, hr, ho⟩ := hrel
                    by_cases hlt : i < N
                    · have HO := Lib.hid ho; clear ho
                      go_wp2_with (at_builtin; refine wpList_app1 rfl (.tmp 49) (.tmp 51) 24 rfl w.heap.size 3 _ 8 Tryd.underlying24 Tryd.infoInt rfl _ _ _ (.int .i64 x) _ rfl (own_ext HO.out ((Ext.refl _).alloc _)) rfl ?_ rfl ?_ ?_ ?_ ?_; rotate_right; intro v' w1 ho hg hbb)
                      any_goals (first | (rw [World.cell?_alloc_at _ _ _ _ (by simp)]; rfl) | (unfold maxLen; omega) | omega | (have := hk.size; simp; omega))
                      go_roundw
                      case rel =>
                        refine ⟨i + 1, by go_num, by omega, (hk.alloc _).then_below hbb, H.out.then hr (((Ext.refl wr).alloc _).mono hk.size |>.trans hbb), ?_⟩
                        rw [List.replicate_succ', ← List.append_assoc, List.map_append]; exact ho
                      case measure => simp [intOf]; omega
                    · have hiN : i = N := by omega
                      subst hiN
                      have HPN : Hid (pPicks (-1) true [] (l.drop j) = pPicks x ((i : Int) == 255) (out ++ List.replicate i x) (l.drop q2)) := Lib.hid (by rw [HIF.out, if_pos HCC.out, Int.toNat_natCast])
                      have HRA := Lib.hid hr.rdAt
                      have HO := Lib.hid ho; clear ho
                      go_wp2
                      go_roundw
                      case rel => exact ⟨q2, out ++ List.replicate i x, x, ((i : Int) == 255), rfl, rfl, by rw [List.length_append, List.length_replicate]; omega, HPN, hk, hr, by rw [List.length_append, List.length_replicate]; exact HO.out⟩
                      case measure => rw [HRA.out, HRQ.out]; omega
                · have d2 : (x != th) = false := by simpa using hx
                  subst hfu
                  clear hx
                  go_wp2_with fail
                  refine (insist_ok _ _ _).mono ?_
                  rintro e w3 ⟨rfl, rfl⟩
                  go_wp2_with fail
                  refine (insist_ok _ _ _).mono ?_
                  rintro e w3 ⟨rfl, rfl⟩
                  go_wp2_with fail
                  obtain ⟨wo, rfl⟩ : ∃ wo : World, wo = wr := ⟨_, rfl⟩
                  go_loopw [3, 47] (fun v k wr => ∃ i : Nat, k = .int .i64 i ∧ i ≤ N ∧ Keep R w wr ∧ Rd wr R l ba bc q2 ∧ wr.ownsRow w.heap.size 3 1 v (out.length + i) ((out ++ List.replicate i x).map (Value.int .i64))) (fun _ k _ => N - (intOf k).toNat)
                  case atStart => exact ⟨0, rfl, by omega, HK2.out, HR2.out, by simpa using HO2.out⟩
                  case round =>
                    clear HK2 HR2 HO2
                    obtain ⟨i, rfl, hi, hk, hr, ho⟩ := hrel
                    by_cases hlt : i < N
                    · have HO := Lib.hid ho; clear ho
                      go_wp2_with (at_builtin; refine wpList_app1 rfl (.tmp 49) (.tmp 51) 24 rfl w.heap.size 3 _ 8 Tryd.underlying24 Tryd.infoInt rfl _ _ _ (.int .i64 x) _ rfl (own_ext HO.out ((Ext.refl _).alloc _)) rfl ?_ rfl ?_ ?_ ?_ ?_; rotate_right; intro v' w1 ho hg hbb)
                      any_goals (first | (rw [World.cell?_alloc_at _ _ _ _ (by simp)]; rfl) | (unfold maxLen; omega) | omega | (have := hk.size; simp; omega))
                      go_roundw
                      case rel =>
                        refine ⟨i + 1, by go_num, by omega, (hk.alloc _).then_below hbb, H.out.then hr (((Ext.refl wr).alloc _).mono hk.size |>.trans hbb), ?_⟩
                        rw [List.replicate_succ', ← List.append_assoc, List.map_append]; exact ho
                      case measure => simp [intOf]; omega
                    · have hiN : i = N := by omega
                      subst hiN
                      have HPN : Hid (pPicks (-1) true [] (l.drop j) = pPicks x ((i : Int) == 255) (out ++ List.replicate i x) (l.drop q2)) := Lib.hid (by rw [HIF.out, if_pos HCC.out, Int.toNat_natCast])
                      have HRA := Lib.hid hr.rdAt
                      have HO := Lib.hid ho; clear ho
                      go_wp2
                      go_roundw
                      case rel => exact ⟨q2, out ++ List.replicate i x, x, ((i : Int) == 255), rfl, rfl, by rw [List.length_append, List.length_replicate]; omega, HPN, hk, hr, by rw [List.length_append, List.length_replicate]; exact HO.out⟩
                      case measure => rw [HRA.out, HRQ.out]; omega
              · have d3 : decide (y ≤ 65536 - (out.length : Int)) = false := decide_eq_false hc3
                clear hc2
                rcases hxs with hx | ⟨hx, hfu⟩
                · have d2 : (x != th) = true := by simpa using hx
                  clear hx
                  go_wp2_with fail
                  refine (insist_ok _ _ _).mono ?_
                  rintro e w3 ⟨rfl, rfl⟩
                  go_wp2_with fail
                  refine (insist_no _ _ _).mono ?_
                  rintro e w3 ⟨rfl, rfl⟩
                  refine ⟨rfl, HK2.out, .inl ⟨?_, Bad.mk l _ _ (by omega) (by omega) (by decide) (fun h => absurd h h11)⟩⟩
                  unfold pPicksR; rw [HIF.out, if_neg (by omega)]; rfl
                · have d2 : (x != th) = false := by simpa using hx
                  subst hfu
                  clear hx
                  go_wp2_with fail
                  refine (insist_ok _ _ _).mono ?_
                  rintro e w3 ⟨rfl, rfl⟩
                  go_wp2_with fail
                  refine (insist_no _ _ _).mono ?_
                  rintro e w3 ⟨rfl, rfl⟩
                  refine ⟨rfl, HK2.out, .inl ⟨?_, Bad.mk l _ _ (by omega) (by omega) (by decide) (fun h => absurd h h11)⟩⟩
                  unfold pPicksR; rw [HIF.out, if_neg (by omega)]; rfl
            · have hx : x = th := by
                by_cases h : x = th
                · exact h
                · exact absurd (.inl h) hc2
              have hfu : fu = false := by cases fu <;> simp_all
              subst hfu
              have d2 : (x != th) = false := by simpa using hx
              have HB1 : Hid (¬ (1 ≤ y ∧ (x ≠ th ∨ false = true) ∧ y ≤ 65536 - (out.length : Int))) := Lib.hid fun h => hc2 h.2.1
              clear hx hc2
              go_wp2_with fail
              refine (insist_no _ _ _).mono ?_
              rintro e w3 ⟨rfl, rfl⟩
              refine ⟨rfl, HK2.out, .inl ⟨?_, Bad.mk l _ _ (by omega) (by omega) (by decide) (fun h => absurd h h11)⟩⟩
              unfold pPicksR; rw [HIF.out, if_neg HB1.out]; rfl
          · have d1 : decide (1 ≤ y) = false := decide_eq_false (by omega)
            go_wp2_with fail
            refine (insist_no _ _ _).mono ?_
            rintro e w3 ⟨rfl, rfl⟩
            refine ⟨rfl, HK2.out, .inl ⟨?_, Bad.mk l _ _ (by omega) (by omega) (by decide) (fun h => absurd h h11)⟩⟩
            unfold pPicksR; rw [HIF.out, if_neg (by omega)]; rfl
    · have d1 : decide ((q : Int) < (l.length : Int)) = false := decide_eq_false (by omega)
      go_wp2_with fail
      go_quiet (fail)
      go_wp2
      go_ret
      have hqe : l.drop q = [] := List.drop_eq_nil_iff.2 (by omega)
      obtain ⟨a, cap, hv, -, hcap, hi, -⟩ := IsInts.ownK HO.out
      obtain ⟨rfl, rfl⟩ : va = a ∧ vc = cap := by simpa using hv
      refine ⟨HK.out.drewN _, .inr ⟨out, q, ?_, ⟨va, vc, rfl, hi, fun p hp => ?_, hol, hcap⟩, HR.out.drewN _⟩⟩
      · unfold pPicksR; rw [HP.out, hqe]; rfl
      · subst hp; exact (HO.out.lt _ rfl).1

end Go.Proofs.YtcfbcffmlinlaaaDoor
