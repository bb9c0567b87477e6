/-
  script's reader: head reads threads and objects.
-/
import Derived.Test.YtcfbcffmlinlaaaDoorScrBlk
import Derived.Deep.DeepCutAuto
namespace Go.Proofs.YtcfbcffmlinlaaaDoor
open Go.RowKit

theorem Rd.then {w a b : World} {R : Nat} {l : List Int} {ba : Option Addr} {bc j0 j : Nat} (h0 : Rd w R l ba bc j0) (h : Rd a R l ba bc j) (k : Below w.heap.size a b) : Rd b R l ba bc j := by
  refine ⟨(k.block R h0.lt).trans h.here, ?_, h.le⟩
  by_cases hl : l = []
  · exact .inl hl
  · have hp : 0 < l.length := List.length_pos_iff.2 hl
    rcases h0.bytes with h1 | ⟨b', off, h1, h2, h3⟩
    · exact .inl h1
    · have hb : b' < w.heap.size := World.block_lt_of_cell? _ _ (h3 0 hp)
      rcases h.bytes with g1 | ⟨b2, off2, g1, g2, g3⟩
      · exact .inl g1
      · have : b' = b2 := by rw [h1] at g1; simp at g1; exact g1.1
        subst this
        exact .inr ⟨b', off2, g1, g2, fun i' hi => (k.cell (show b' < w.heap.size from hb)).trans (g3 i' hi)⟩

theorem Tryd.infoSpec : (Tryd.prog.info? 59).map (fun i => (i.zero, i.size, i.bytes)) = some (some (.agg #[.int .i64 0, .int .i64 0, .int .i64 0]), 3, 24) := by kernel_rfl
theorem spcCells_one (x : Spc) : ∀ u ∈ spcCells x, u.oneCell' = true := by
  intro u hu
  simp [spcCells] at hu
  rcases hu with rfl | rfl | rfl <;> rfl

/-- What head hands back. -/
def retHead (B : Nat) (x : Int × List Spc) (e : Ending) (w' : World) : Prop :=
  ∃ sa sc, e = .returned (.agg #[.int .i64 x.1, .slice sa x.2.length sc, .slice none 0 0, .slice none 0 0]) ∧ IsSpecs w' sa x.2 ∧ (∀ p, sa = some p → B ≤ p.block) ∧ 1 ≤ x.1 ∧ x.1 ≤ 16 ∧ x.2.length ≤ 8

set_option maxRecDepth 100000 in
set_option maxHeartbeats 1000000 in
theorem head_read (w : World) (R : Nat) (l : List Int) (ba : Option Addr) (bc j : Nat) (h : Rd w R l ba bc j) (hb : ∀ b ∈ l, byteOk b) (hl : l.length ≤ 9223372036854775807) :
    Calls Tryd.prog 35 #[.pointer (some ⟨R, 0, none⟩)] w (ReadPost w R l ba bc (pHead (l.drop j)) (retHead w.heap.size)) := by
  have HB := Lib.hid hb
  have H := Lib.hid h
  have hRw := h.lt
  go_enter Tryd.func35, Tryd.ntmps35
  go_wp2_with fail
  refine (byte_any _ R l ba bc j (h.alloc _) hb hl).mono ?_
  clear h hb
  rintro e w1 ⟨hk1, ⟨hn, p, r, rfl, hbad⟩ | ⟨n, j1, hs, rfl, hr1⟩⟩
  · refine ⟨rfl, (Keep.of_ext ((Ext.refl w).alloc _)).trans hk1, .inl ⟨?_, p, r, rfl, hbad⟩⟩
    unfold pHead; rw [hn]; rfl
  · obtain ⟨-, hjl, hnx, n0, n1⟩ := byte_next hs hr1.le HB.out
    have HNX := Lib.hid (And.intro hjl hnx); clear hjl hnx
    have hB0 := (Blk.new w #[Value.int .i64 0, .slice none 0 0, .slice none 0 0, .slice none 0 0] 26).keep hk1 (by omega)
    by_cases hnn : 1 ≤ n ∧ n ≤ 16
    · obtain ⟨n2, n3⟩ := hnn
      have HPH : Hid (pHead (l.drop j) = pHead2 n (pByte (l.drop j1))) := Lib.hid (by unfold pHead; rw [hs]; exact if_pos ⟨n2, n3⟩)
      go_wp2_with fail
      refine (insist_ok _ _ _).mono ?_
      rintro e w2 ⟨rfl, rfl⟩
      have hwz : w.heap.size + 1 ≤ w1.heap.size := by have := hk1.size; simpa using this
      have hBS := Blk.new w1 #[Value.int .i64 n, .slice none 0 0, .slice none 0 0, .slice none 0 0] 26
      have hB1 := hB0.alloc (.cells #[Value.int .i64 n, .slice none 0 0, .slice none 0 0, .slice none 0 0] 26)
      have hr2 := hr1.alloc (.cells #[Value.int .i64 n, .slice none 0 0, .slice none 0 0, .slice none 0 0] 26)
      have hk2 := ((Keep.of_ext (R := R) ((Ext.refl w).alloc (.cells #[Value.int .i64 0, .slice none 0 0, .slice none 0 0, .slice none 0 0] 26))).trans hk1).alloc (.cells #[Value.int .i64 n, .slice none 0 0, .slice none 0 0, .slice none 0 0] 26)
      go_wp2_with fail
      generalize w1.alloc (.cells #[Value.int .i64 n, .slice none 0 0, .slice none 0 0, .slice none 0 0] 26) = wA at *
      generalize w1.heap.size = S at *
      refine (byte_any _ R l ba bc j1 hr2 HB.out hl).mono ?_
      rintro e w3 ⟨hk3, ⟨hn, p, r, rfl, hbad⟩ | ⟨m, j2, hs2, rfl, hr3⟩⟩
      · refine ⟨rfl, hk2.trans hk3, .inl ⟨?_, p, r, rfl, hbad⟩⟩
        rw [HPH.out, hn]; rfl
      · obtain ⟨hj2, hjl2, hmx, m0, m1⟩ := byte_next hs2 hr3.le HB.out
        have HMX := Lib.hid (And.intro hjl2 hmx); clear hjl2 hmx
        have hBS3 := hBS.keep hk3 (by omega)
        have hB3 := hB1.keep hk3 (by omega)
        have hk4 := hk2.trans hk3
        have hle := hr3.le
        have g1 := hr3.c1
        have hlt3 := hr3.lt
        have hj2a : 1 ≤ j2 := by omega
        have HK4 := Lib.hid hk4
        clear hj2 hk1 hk2 hk3 hr1 hr2 hBS hB1 hB0 hs hk4
        by_cases hm : m ≤ 8
        · have HPH2 : Hid (pHead (l.drop j) = pHead3 n (pSpecs m.toNat (l.drop j2))) := Lib.hid (by rw [HPH.out, hs2]; exact if_pos hm)
          clear HPH hs2
          obtain ⟨M, rfl⟩ := Int.eq_ofNat_of_zero_le m0
          rw [Int.toNat_natCast] at HPH2
          go_wp2_with fail
          refine (insist_ok _ _ _).mono ?_
          rintro e w4 ⟨rfl, rfl⟩
          clear g1 hlt3 hle hj2a
          have HBS := Lib.hid hBS3; clear hBS3
          have HBT := Lib.hid hB3; clear hB3
          have HR3 := Lib.hid hr3; clear hr3
          go_wp2_with fail
          go_loopw [29] (fun k wr => ∃ (i q : Nat) (ss : List Spc) (v : Value), k = .int .i64 i ∧ i ≤ M ∧ Hid (ss.length = i) ∧ Hid (pSpecs M (l.drop j2) = pre ss (pSpecs (M - i) (l.drop q))) ∧ Keep R w wr ∧ Rd wr R l ba bc q ∧
            Blk wr w.heap.size #[Value.int .i64 0, .slice none 0 0, .slice none 0 0, .slice none 0 0] 26 ∧ Blk wr S #[Value.int .i64 n, v, .slice none 0 0, .slice none 0 0] 26 ∧
            wr.ownsRow (S + 1) 59 3 v i (ss.flatMap spcCells)) (fun k _ => M - (intOf k).toNat)
          case atStart => exact ⟨0, j2, [], .slice none 0 0, rfl, by omega, Lib.hid rfl, Lib.hid (by rw [pre_nil]; rfl), HK4.out, HR3.out, HBT.out, HBS.out, World.ownsRow_nil _ _ _ _⟩
          case round =>
            clear HBS HBT HR3 HK4
            obtain ⟨i, q, ss, v, rfl, hi, HL, HP, hk, hr, hbt, hbs, ho⟩ := hrel
            by_cases hlt : i < M
            · have HP2 : Hid (pSpecs M (l.drop j2) = match pSpec (l.drop q) with
                  | none => none
                  | some (s, r) => pre (ss ++ [s]) (pSpecs (M - (i + 1)) r)) := Lib.hid (by
                rw [HP.out, show M - i = (M - (i + 1)) + 1 by omega, pSpecs_step]
                cases pSpec (l.drop q) with
                | none => rfl
                | some x => obtain ⟨s, r⟩ := x; simp only; rw [pre_pre])
              have HO := Lib.hid ho; clear ho
              have hss : S < wr.heap.size := hbs.lt
              have HK := Lib.hid hk; clear hk
              go_wp2_with fail
              refine (byte_any _ R l ba bc q hr HB.out hl).mono ?_
              rintro e a1 ⟨hk1, ⟨hn, p, r, rfl, hbad⟩ | ⟨x1, q1, hs1, rfl, hr1⟩⟩
              · refine ⟨rfl, HK.out.trans hk1, .inl ⟨?_, p, r, rfl, hbad⟩⟩
                rw [HPH2.out, HP2.out, pSpec_byte, hn]; rfl
              · obtain ⟨-, -, -, x10, x11⟩ := byte_next hs1 hr1.le HB.out
                have hS1 := (hbs.keep hk1 (by omega)).alloc (.cells #[Value.int .i64 x1, .int .i64 0, .int .i64 0] 59)
                have hT1 := (hbt.keep hk1 (by omega)).alloc (.cells #[Value.int .i64 x1, .int .i64 0, .int .i64 0] 59)
                have hX1 := Blk.new a1 #[Value.int .i64 x1, .int .i64 0, .int .i64 0] 59
                have hK1 := (HK.out.trans hk1).alloc (.cells #[Value.int .i64 x1, .int .i64 0, .int .i64 0] 59)
                have hr1' := hr1.alloc (.cells #[Value.int .i64 x1, .int .i64 0, .int .i64 0] 59)
                have ho1 := own_ext (hk1.own HO.out (by omega)) ((Ext.refl a1).alloc (.cells #[Value.int .i64 x1, .int .i64 0, .int .i64 0] 59))
                have hTS : S < a1.heap.size := by have := hk1.size; omega
                have hvT : v.ownBlock ≠ some a1.heap.size := fun h => by have := ((hk1.own HO.out (by omega)).lt _ h).2; omega
                clear hr1 hk1 hbs hbt hr HO HK
                go_wp2_with fail
                generalize a1.alloc (.cells #[Value.int .i64 x1, .int .i64 0, .int .i64 0] 59) = b1 at *
                generalize a1.heap.size = T at *
                refine (two_read _ R l ba bc q1 hr1' HB.out hl).mono ?_
                rintro e a2 ⟨hk2, ⟨hn, p, r, rfl, hbad⟩ | ⟨x2, q2, hs2, rfl, hr2⟩⟩
                · refine ⟨rfl, hK1.trans hk2, .inl ⟨?_, p, r, rfl, hbad⟩⟩
                  rw [HPH2.out, HP2.out, pSpec_byte, hs1]; simp only; rw [hn]; rfl
                · have hS2 := (hS1.keep hk2 (by omega)).set_ne (b := T) (i := 1) (by omega) (.int .i64 x2)
                  have hT2 := (hT1.keep hk2 (by omega)).set_ne (b := T) (i := 1) (by omega) (.int .i64 x2)
                  have hX2' := hX1.keep hk2 (by omega)
                  have hX2 := hX2'.set 1 (.int .i64 x2)
                  have hK2 := (hK1.trans hk2).set (b := T) (i := 1) (by omega) (.int .i64 x2)
                  have hr2' := H.out.then hr2 (below_set _ a2 (b := T) (i := 1) (by omega) (.int .i64 x2))
                  have ho2 := own_set_ne (hk2.own ho1 (by omega)) hvT (i := 1) (.int .i64 x2)
                  have f1 := hX2'.cell 1 (v := .int .i64 0) rfl
                  have f2 := hX2'.fz 1
                  have f3 := hX2'.lt
                  clear hS1 hT1 hX1 hK1 hr1' ho1 hk2 hr2 hX2'
                  go_wp2_with fail
                  clear f1 f2 f3
                  generalize a2.setCell ⟨T, 1, none⟩ (.int .i64 x2) = b2 at *
                  have hS2 : Blk b2 S #[Value.int .i64 n, v, .slice none 0 0, .slice none 0 0] 26 := hS2
                  have hX2 : Blk b2 T #[Value.int .i64 x1, .int .i64 x2, .int .i64 0] 59 := hX2
                  refine (two_read _ R l ba bc q2 hr2' HB.out hl).mono ?_
                  rintro e a3 ⟨hk3, ⟨hn, p, r, rfl, hbad⟩ | ⟨x3, q3, hs3, rfl, hr3⟩⟩
                  · refine ⟨rfl, hK2.trans hk3, .inl ⟨?_, p, r, rfl, hbad⟩⟩
                    rw [HPH2.out, HP2.out, pSpec_byte, hs1]; simp only; rw [hs2]; simp only; rw [hn]; rfl
                  · have hS3 := (hS2.keep hk3 (by omega)).set_ne (b := T) (i := 2) (by omega) (.int .i64 x3)
                    have hT3 := (hT2.keep hk3 (by omega)).set_ne (b := T) (i := 2) (by omega) (.int .i64 x3)
                    have hX3' := hX2.keep hk3 (by omega)
                    have hX3 := hX3'.set 2 (.int .i64 x3)
                    have hK3 := (hK2.trans hk3).set (b := T) (i := 2) (by omega) (.int .i64 x3)
                    have hr3' := H.out.then hr3 (below_set _ a3 (b := T) (i := 2) (by omega) (.int .i64 x3))
                    have ho3 := own_set_ne (hk3.own ho2 (by omega)) hvT (i := 2) (.int .i64 x3)
                    have f1 := hX3'.cell 2 (v := .int .i64 0) rfl
                    have f2 := hX3'.fz 2
                    have f3 := hX3'.lt
                    have HPN : Hid (pSpecs M (l.drop j2) = pre (ss ++ [⟨x1, x2, x3⟩]) (pSpecs (M - (i + 1)) (l.drop q3))) := Lib.hid (by
                      rw [HP2.out, pSpec_byte, hs1]; simp only; rw [hs2]; simp only; rw [hs3])
                    clear hS2 hT2 hX2 hK2 hr2' ho2 hk3 hr3 hX3' hs1 hs2 hs3
                    go_upto_region 10 with (fail)
                    clear f1 f2 f3
                    generalize a3.setCell ⟨T, 2, none⟩ (.int .i64 x3) = b3 at *
                    have hX3 : Blk b3 T #[Value.int .i64 x1, .int .i64 x2, .int .i64 x3] 59 := hX3
                    have HO3 := Lib.hid ho3; clear ho3
                    have k0 := hX3.cell 0 (v := .int .i64 x1) rfl
                    have k1 := hX3.cell 1 (v := .int .i64 x2) rfl
                    have k2 := hX3.cell 2 (v := .int .i64 x3) rfl
                    have k3 := hX3.lt
                    have k4 := hS3.cell 1 (v := v) rfl
                    have k5 := hS3.lt
                    go_wp2_with (at_builtin; refine wpList_appS rfl (.tmp 41) (.tmp 43) 22 rfl (S + 1) 59 _ 3 24 Tryd.underlying22 Tryd.infoSpec rfl (by decide) v i (ss.flatMap spcCells) (spcCells ⟨x1, x2, x3⟩) b3.heap.size rfl (own_ext HO3.out ((Ext.refl _).alloc _)) rfl rfl ?_ (spcCells_one _) ?_ ?_ ?_ ?_; rotate_right; intro v' w' ho' hg' hbb'; obtain ⟨sa', cap', rfl, -⟩ := own_slice ho'; have hS4 := (hS3.alloc (.cells #[Value.int .i64 x1, .int .i64 x2, .int .i64 x3] 59)).below hbb' (by omega); have k6 := hS4.cell 1 (v := v) rfl; have k7 := hS4.fz 1; have k8 := hS4.lt)
                    rotate_left
                    · intro j' hj'
                      rw [World.cell?_alloc_at _ _ _ _ rfl]
                      rcases (show j' = 0 ∨ j' = 1 ∨ j' = 2 by omega) with rfl | rfl | rfl <;> rfl
                    · unfold maxLen; omega
                    · omega
                    · simp; omega
                    go_roundw
                    case rel =>
                      refine ⟨i + 1, q3, ss ++ [⟨x1, x2, x3⟩], .slice sa' (i + 1) cap', by go_num, by omega, Lib.hid (by rw [List.length_append, HL.out]; rfl), HPN, ?_, ?_, ?_, ?_, ?_⟩
                      · exact ((hK3.alloc _).then_below (Below.mono hbb' (by omega))).set (by omega) _
                      · exact H.out.then hr3' ((((Ext.refl b3).alloc _).mono (by have := hT3.lt; omega)).trans ((Below.mono hbb' (by omega)).trans (below_set _ _ (by omega) _)))
                      · exact ((hT3.alloc _).below hbb' (by omega)).set_ne (by omega) _
                      · exact hS4.set 1 _
                      · rw [List.flatMap_append]; exact own_set (by simpa using ho') (by omega) _
                    case measure => simp [intOf]; omega
            · have hiM : i = M := by omega
              subst hiM
              have HF : Hid (pHead (l.drop j) = some ((n, ss), l.drop q)) := Lib.hid (by rw [HPH2.out, HP.out, Nat.sub_self]; simp [pSpecs, pre, pHead3])
              obtain ⟨a, cap, rfl, hln, _, hseq, hblk, _⟩ := IsSeq.own (d := spc0) spcCells_len (by decide) ho
              have k0 := hbs.cell 0 (v := .int .i64 n) rfl
              have k1 := hbs.cell 1 (v := .slice a i cap) rfl
              have k2 := hbs.cell 2 (v := .slice none 0 0) rfl
              have k3 := hbs.cell 3 (v := .slice none 0 0) rfl
              have k4 := hbs.lt
              have t0 := hbt.cell 0 (v := .int .i64 0) rfl
              have t1 := hbt.cell 1 (v := .slice none 0 0) rfl
              have t2 := hbt.cell 2 (v := .slice none 0 0) rfl
              have t3 := hbt.cell 3 (v := .slice none 0 0) rfl
              have z0 := hbt.fz 0
              have z1 := hbt.fz 1
              have z2 := hbt.fz 2
              have z3 := hbt.fz 3
              have t4 := hbt.lt
              go_wp2_with fail
              have hbF : Blk ((((wr.setCell ⟨w.heap.size, 0, none⟩ (.int .i64 n)).setCell ⟨w.heap.size, 1, none⟩ (.slice a ss.length cap)).setCell ⟨w.heap.size, 2, none⟩ (.slice none 0 0)).setCell ⟨w.heap.size, 3, none⟩ (.slice none 0 0)) w.heap.size #[Value.int .i64 n, .slice a ss.length cap, .slice none 0 0, .slice none 0 0] 26 :=
                (((hbt.set 0 (.int .i64 n)).set 1 (.slice a ss.length cap)).set 2 (.slice none 0 0)).set 3 (.slice none 0 0)
              have hbel : Below w.heap.size wr ((((wr.setCell ⟨w.heap.size, 0, none⟩ (.int .i64 n)).setCell ⟨w.heap.size, 1, none⟩ (.slice a ss.length cap)).setCell ⟨w.heap.size, 2, none⟩ (.slice none 0 0)).setCell ⟨w.heap.size, 3, none⟩ (.slice none 0 0)) :=
                (((below_set _ _ (Nat.le_refl _) _).trans (below_set _ _ (Nat.le_refl _) _)).trans (below_set _ _ (Nat.le_refl _) _)).trans (below_set _ _ (Nat.le_refl _) _)
              have hsF : IsSeq spc0 3 spcCells ((((wr.setCell ⟨w.heap.size, 0, none⟩ (.int .i64 n)).setCell ⟨w.heap.size, 1, none⟩ (.slice a ss.length cap)).setCell ⟨w.heap.size, 2, none⟩ (.slice none 0 0)).setCell ⟨w.heap.size, 3, none⟩ (.slice none 0 0)) a ss := by
                have hne : ∀ x, a = some x → x.block ≠ w.heap.size := fun x hx => by have := hblk x hx; omega
                exact (((hseq.keep (keep_set _ 0 _ _) hne).keep (keep_set _ 1 _ _) hne).keep (keep_set _ 2 _ _) hne).keep (keep_set _ 3 _ _) hne
              generalize ((((wr.setCell ⟨w.heap.size, 0, none⟩ (.int .i64 n)).setCell ⟨w.heap.size, 1, none⟩ (.slice a ss.length cap)).setCell ⟨w.heap.size, 2, none⟩ (.slice none 0 0)).setCell ⟨w.heap.size, 3, none⟩ (.slice none 0 0)) = wf at hbF hbel hsF ⊢
              have u0 := hbF.cell 0 (v := .int .i64 n) rfl
              have u1 := hbF.cell 1 (v := .slice a ss.length cap) rfl
              have u2 := hbF.cell 2 (v := .slice none 0 0) rfl
              have u3 := hbF.cell 3 (v := .slice none 0 0) rfl
              refine bodyPost_ret (v := .agg #[.int .i64 n, .slice a ss.length cap, .slice none 0 0, .slice none 0 0]) (by simp [results, Tryd.results35, go_sem, u0, u1, u2, u3]) rfl ?_
              exact ⟨hk.then_below hbel, .inr ⟨(n, ss), q, HF.out, ⟨a, cap, rfl, hsF, fun x hx => by have := hblk x hx; omega, n2, n3, (show ss.length ≤ 8 by omega)⟩, H.out.then hr hbel⟩⟩
        · have d1 : decide (m ≤ 8) = false := decide_eq_false (by omega)
          go_wp2_with fail
          refine (insist_no _ _ _).mono ?_
          rintro e w4 ⟨rfl, rfl⟩
          refine ⟨rfl, HK4.out, .inl ⟨?_, Bad.mk l _ _ (by omega) (by omega) (by decide) (fun h => by have := HMX.out.2; rw [eleven h HMX.out.1] at this; omega)⟩⟩
          rw [HPH.out, hs2]; exact if_neg (by omega)
    · rcases (show n < 1 ∨ (1 ≤ n ∧ 16 < n) by omega) with hz | ⟨hz, hz2⟩
      · have d1 : decide (1 ≤ n) = false := decide_eq_false (by omega)
        go_wp2_with fail
        refine (insist_no _ _ _).mono ?_
        rintro e w4 ⟨rfl, rfl⟩
        refine ⟨rfl, ((Keep.of_ext ((Ext.refl w).alloc _)).trans hk1).alloc _, .inl ⟨?_, Bad.mk l _ _ (by omega) (by omega) (by decide) (fun h => by have := HNX.out.2; rw [eleven h HNX.out.1] at this; omega)⟩⟩
        unfold pHead; rw [hs]; exact if_neg hnn
      · have d2 : decide (n ≤ 16) = false := decide_eq_false (by omega)
        go_wp2_with fail
        refine (insist_no _ _ _).mono ?_
        rintro e w4 ⟨rfl, rfl⟩
        refine ⟨rfl, ((Keep.of_ext ((Ext.refl w).alloc _)).trans hk1).alloc _, .inl ⟨?_, Bad.mk l _ _ (by omega) (by omega) (by decide) (fun h => by have := HNX.out.2; rw [eleven h HNX.out.1] at this; omega)⟩⟩
        unfold pHead; rw [hs]; exact if_neg hnn

end Go.Proofs.YtcfbcffmlinlaaaDoor
