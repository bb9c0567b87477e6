/-
  script's reader: calls reads calls of so many threads. (Printed by gen_calls.py.)
-/
import Derived.Test.YtcfbcffmlinlaaaDoorScrHead
namespace Go.Proofs.YtcfbcffmlinlaaaDoor
open Go.RowKit

theorem Tryd.infoCall : (Tryd.prog.info? 49).map (fun i => (i.zero, i.size, i.bytes)) = some (some (.agg #[.int .i64 0, .int .i64 0, .int .i64 0, .int .u64 0, .int .u64 0, .int .u64 0]), 6, 48) := by kernel_rfl
theorem cllCells_one (x : Cll) : ∀ u ∈ cllCells x, u.oneCell' = true := by
  intro u hu
  simp [cllCells] at hu
  rcases hu with rfl | rfl | rfl | rfl | rfl | rfl <;> rfl

/-- What calls hands back. -/
def retCalls (B : Nat) (x : List Cll) (e : Ending) (w' : World) : Prop :=
  ∃ ca cc, e = .returned (.slice ca x.length cc) ∧ IsCalls w' ca x ∧ (∀ p, ca = some p → B ≤ p.block) ∧ x.length ≤ 1000

set_option maxRecDepth 100000 in
set_option maxHeartbeats 2000000 in
theorem calls_read (n : Int) (w : World) (R : Nat) (l : List Int) (ba : Option Addr) (bc j : Nat) (h : Rd w R l ba bc j) (hb : ∀ b ∈ l, byteOk b) (hl : l.length ≤ 9223372036854775807) (h11 : l ≠ [1, 1]) :
    Calls Tryd.prog 36 #[.pointer (some ⟨R, 0, none⟩), .int .i64 n] w (ReadPost w R l ba bc (pAllCalls n (l.drop j)) (retCalls w.heap.size)) := by
  have HB := Lib.hid hb
  have H := Lib.hid h
  have hRw := h.lt
  have g1 := h.c1
  have hjl := h.le
  go_enter Tryd.func36, Tryd.ntmps36
  go_wp2_with fail
  refine (two_read _ R l ba bc j h hb hl).mono ?_
  clear h hb g1
  rintro e w1 ⟨hk1, ⟨hn, p, r, rfl, hbad⟩ | ⟨m, j1, hs, rfl, hr1⟩⟩
  · refine ⟨rfl, hk1, .inl ⟨?_, p, r, rfl, hbad⟩⟩
    rw [pAllCalls_thn, hn]; rfl
  · obtain ⟨m0, m1⟩ := two_bounds hs HB.out
    by_cases hm : m ≤ 1000
    · have HPA : Hid (pAllCalls n (l.drop j) = pCalls n m.toNat (l.drop j1)) := Lib.hid (by rw [pAllCalls_thn, hs, thn_some, if_pos hm])
      have HR1 := Lib.hid hr1
      have HK1 := Lib.hid hk1
      clear hs hr1 hk1
      obtain ⟨M, rfl⟩ := Int.eq_ofNat_of_zero_le m0
      rw [Int.toNat_natCast] at HPA
      go_wp2_with fail
      refine (insist_ok _ _ _).mono ?_
      rintro e w4 ⟨rfl, rfl⟩
      go_wp2_with fail
      go_loopw [7, 20] (fun v k wr => ∃ (i q : Nat) (cs : List Cll), k = .int .i64 i ∧ i ≤ M ∧ Hid (cs.length = i) ∧ Hid (pAllCalls n (l.drop j) = pre cs (pCalls n (M - i) (l.drop q))) ∧ Keep R w wr ∧ Rd wr R l ba bc q ∧
        wr.ownsRow w.heap.size 49 6 v i (cs.flatMap cllCells)) (fun _ k _ => M - (intOf k).toNat)
      case atStart => exact ⟨0, j1, [], rfl, by omega, Lib.hid rfl, Lib.hid (by rw [pre_nil]; exact HPA.out), HK1.out, HR1.out, World.ownsRow_nil _ _ _ _⟩
      case round =>
        clear HR1 HK1
        obtain ⟨i, q, cs, rfl, hi, HL, HP, hk, hr, ho⟩ := hrel
        obtain ⟨va, vc, rfl, -⟩ := own_slice ho
        by_cases hlt : i < M
        · have HP2 : Hid (pAllCalls n (l.drop j) = thn (pCall n (l.drop q)) fun s r => pre (cs ++ [s]) (pCalls n (M - (i + 1)) r)) := Lib.hid (by
            rw [HP.out, show M - i = (M - (i + 1)) + 1 by omega, pCalls_thn]
            cases pCall n (l.drop q) with
            | none => rfl
            | some x => obtain ⟨s, r⟩ := x; simp only [thn_some]; rw [pre_pre])
          clear HPA HP
          have HO := Lib.hid ho; clear ho
          have HK := Lib.hid hk; clear hk
          go_wp2_with fail
          refine (byte_any _ R l ba bc q hr HB.out hl).mono ?_
          rintro e a1 ⟨hk1, ⟨hn, p, r, rfl, hbad⟩ | ⟨x1, q1, hs1, rfl, hr1⟩⟩
          · refine ⟨rfl, HK.out.trans hk1, .inl ⟨?_, p, r, rfl, hbad⟩⟩
            rw [HP2.out, pCall_thn, hn]; rfl
          · obtain ⟨hq1, -, -, x10, x11⟩ := byte_next hs1 hr1.le HB.out
            have HS1 := Lib.hid hs1; clear hs1
            have hX1 := Blk.new a1 #[.int .i64 x1, .int .i64 0, .int .i64 0, .int .u64 0, .int .u64 0, .int .u64 0] 49
            have hK1 := (HK.out.trans hk1).alloc (.cells #[.int .i64 x1, .int .i64 0, .int .i64 0, .int .u64 0, .int .u64 0, .int .u64 0] 49)
            have hr1' := hr1.alloc (.cells #[.int .i64 x1, .int .i64 0, .int .i64 0, .int .u64 0, .int .u64 0, .int .u64 0] 49)
            have ho1 := own_ext (hk1.own HO.out (by omega)) ((Ext.refl a1).alloc (.cells #[.int .i64 x1, .int .i64 0, .int .i64 0, .int .u64 0, .int .u64 0, .int .u64 0] 49))
            have hvT : Hid (∀ k, Value.slice va i vc = k → k.ownBlock ≠ some a1.heap.size) := Lib.hid fun k hk h => by subst hk; have := ((hk1.own HO.out (by omega)).lt _ h).2; omega
            have hTS : w.heap.size ≤ a1.heap.size := (HK.out.trans hk1).size
            have hq1a : 1 ≤ q1 := by omega
            have hq1b := hr1.le
            clear hr1 hk1 hr HO HK hq1
            go_upto_region 8 with (fail)
            generalize a1.alloc (.cells #[.int .i64 x1, .int .i64 0, .int .i64 0, .int .u64 0, .int .u64 0, .int .u64 0] 49) = b0 at *
            generalize a1.heap.size = T at *
            have g1 := hr1'.c1
            have hlt1 := hr1'.lt
            have g2 := hX1.cell 0 (v := .int .i64 x1) rfl
            have g3 := hX1.lt
            by_cases ht : x1 < n
            · have dt : decide (x1 < n) = true := decide_eq_true ht
              go_quiet (refine Calls.quiet_of_same (insist_ok _ _ _))
              clear g1 g2 g3 hlt1
              have hX1 : Blk (b0.drewN nq) T #[.int .i64 x1, .int .i64 0, .int .i64 0, .int .u64 0, .int .u64 0, .int .u64 0] 49 := hX1
              have hK1 := hK1.drewN nq
              have hr1' := hr1'.drewN nq
              have ho1 := own_drewN ho1 nq
              generalize b0.drewN nq = b1 at *
              have HS1' : Hid (pCall n (l.drop q) = thn (pByte (l.drop q1)) fun o l => thn (pByte l) fun k l => thn (pNum 0 1 0 l) fun a l => thn (pNum 0 1 0 l) fun b l => thn (pNum 0 1 0 l) fun c l => some (⟨x1, o, k, a, b, c⟩, l)) := Lib.hid (by
                rw [pCall_thn, HS1.out, thn_some, if_pos ht])
              clear HS1
              go_wp2_with fail
              refine (byte_any _ R l ba bc q1 hr1' HB.out hl).mono ?_
              rintro e a2 ⟨hk2, ⟨hn, p, r, rfl, hbad⟩ | ⟨x2, q2, hs2, rfl, hr2⟩⟩
              · refine ⟨rfl, hK1.trans hk2, .inl ⟨?_, p, r, rfl, hbad⟩⟩
                rw [HP2.out, HS1'.out, hn]; rfl
              · have HS2' := Lib.hid (HS1'.out.trans (by rw [hs2, thn_some]))
                clear HS1' hs2
                have hX2' := hX1.keep hk2 (by omega)
                have hX2 := hX2'.set 1 (.int .i64 x2)
                have hK2 := (hK1.trans hk2).set (b := T) (i := 1) (by omega) (.int .i64 x2)
                have hr2' := H.out.then hr2 (below_set _ a2 (b := T) (i := 1) (by omega) (.int .i64 x2))
                have ho2 := own_set_ne (hk2.own ho1 (by omega)) (hvT.out _ rfl) (i := 1) (.int .i64 x2)
                have f1 := hX2'.cell 1 (v := .int .i64 0) rfl
                have f2 := hX2'.fz 1
                have f3 := hX2'.lt
                clear hX1 hK1 hr1' ho1 hk2 hr2 hX2'
                go_upto_region 10 with (fail)
                clear f1 f2 f3
                generalize a2.setCell ⟨T, 1, none⟩ (.int .i64 x2) = b2 at *
                have hX2 : Blk b2 T #[.int .i64 x1, .int .i64 x2, .int .i64 0, .int .u64 0, .int .u64 0, .int .u64 0] 49 := hX2
                go_wp2_with fail
                refine (byte_any _ R l ba bc q2 hr2' HB.out hl).mono ?_
                rintro e a3 ⟨hk3, ⟨hn, p, r, rfl, hbad⟩ | ⟨x3, q3, hs3, rfl, hr3⟩⟩
                · refine ⟨rfl, hK2.trans hk3, .inl ⟨?_, p, r, rfl, hbad⟩⟩
                  rw [HP2.out, HS2'.out, hn]; rfl
                · have HS3' := Lib.hid (HS2'.out.trans (by rw [hs3, thn_some]))
                  clear HS2' hs3
                  have hX3' := hX2.keep hk3 (by omega)
                  have hX3 := hX3'.set 2 (.int .i64 x3)
                  have hK3 := (hK2.trans hk3).set (b := T) (i := 2) (by omega) (.int .i64 x3)
                  have hr3' := H.out.then hr3 (below_set _ a3 (b := T) (i := 2) (by omega) (.int .i64 x3))
                  have ho3 := own_set_ne (hk3.own ho2 (by omega)) (hvT.out _ rfl) (i := 2) (.int .i64 x3)
                  have f1 := hX3'.cell 2 (v := .int .i64 0) rfl
                  have f2 := hX3'.fz 2
                  have f3 := hX3'.lt
                  clear hX2 hK2 hr2' ho2 hk3 hr3 hX3'
                  go_upto_region 11 with (fail)
                  clear f1 f2 f3
                  generalize a3.setCell ⟨T, 2, none⟩ (.int .i64 x3) = b3 at *
                  have hX3 : Blk b3 T #[.int .i64 x1, .int .i64 x2, .int .i64 x3, .int .u64 0, .int .u64 0, .int .u64 0] 49 := hX3
                  go_wp2_with fail
                  refine (number_read _ R l ba bc q3 hr3' HB.out hl h11).mono ?_
                  rintro e a4 ⟨hk4, ⟨hn, p, r, rfl, hbad⟩ | ⟨x4, q4, hs4, rfl, hr4⟩⟩
                  · refine ⟨rfl, hK3.trans hk4, .inl ⟨?_, p, r, rfl, hbad⟩⟩
                    rw [HP2.out, HS3'.out, hn]; rfl
                  · have HS4' := Lib.hid (HS3'.out.trans (by rw [hs4, thn_some]))
                    clear HS3' hs4
                    have hX4' := hX3.keep hk4 (by omega)
                    have hX4 := hX4'.set 3 (.int .u64 x4)
                    have hK4 := (hK3.trans hk4).set (b := T) (i := 3) (by omega) (.int .u64 x4)
                    have hr4' := H.out.then hr4 (below_set _ a4 (b := T) (i := 3) (by omega) (.int .u64 x4))
                    have ho4 := own_set_ne (hk4.own ho3 (by omega)) (hvT.out _ rfl) (i := 3) (.int .u64 x4)
                    have f1 := hX4'.cell 3 (v := .int .u64 0) rfl
                    have f2 := hX4'.fz 3
                    have f3 := hX4'.lt
                    clear hX3 hK3 hr3' ho3 hk4 hr4 hX4'
                    go_upto_region 12 with (fail)
                    clear f1 f2 f3
                    generalize a4.setCell ⟨T, 3, none⟩ (.int .u64 x4) = b4 at *
                    have hX4 : Blk b4 T #[.int .i64 x1, .int .i64 x2, .int .i64 x3, .int .u64 x4, .int .u64 0, .int .u64 0] 49 := hX4
                    go_wp2_with fail
                    refine (number_read _ R l ba bc q4 hr4' HB.out hl h11).mono ?_
                    rintro e a5 ⟨hk5, ⟨hn, p, r, rfl, hbad⟩ | ⟨x5, q5, hs5, rfl, hr5⟩⟩
                    · refine ⟨rfl, hK4.trans hk5, .inl ⟨?_, p, r, rfl, hbad⟩⟩
                      rw [HP2.out, HS4'.out, hn]; rfl
                    · have HS5' := Lib.hid (HS4'.out.trans (by rw [hs5, thn_some]))
                      clear HS4' hs5
                      have hX5' := hX4.keep hk5 (by omega)
                      have hX5 := hX5'.set 4 (.int .u64 x5)
                      have hK5 := (hK4.trans hk5).set (b := T) (i := 4) (by omega) (.int .u64 x5)
                      have hr5' := H.out.then hr5 (below_set _ a5 (b := T) (i := 4) (by omega) (.int .u64 x5))
                      have ho5 := own_set_ne (hk5.own ho4 (by omega)) (hvT.out _ rfl) (i := 4) (.int .u64 x5)
                      have f1 := hX5'.cell 4 (v := .int .u64 0) rfl
                      have f2 := hX5'.fz 4
                      have f3 := hX5'.lt
                      clear hX4 hK4 hr4' ho4 hk5 hr5 hX5'
                      go_upto_region 13 with (fail)
                      clear f1 f2 f3
                      generalize a5.setCell ⟨T, 4, none⟩ (.int .u64 x5) = b5 at *
                      have hX5 : Blk b5 T #[.int .i64 x1, .int .i64 x2, .int .i64 x3, .int .u64 x4, .int .u64 x5, .int .u64 0] 49 := hX5
                      go_wp2_with fail
                      refine (number_read _ R l ba bc q5 hr5' HB.out hl h11).mono ?_
                      rintro e a6 ⟨hk6, ⟨hn, p, r, rfl, hbad⟩ | ⟨x6, q6, hs6, rfl, hr6⟩⟩
                      · refine ⟨rfl, hK5.trans hk6, .inl ⟨?_, p, r, rfl, hbad⟩⟩
                        rw [HP2.out, HS5'.out, hn]; rfl
                      · have HS6' := Lib.hid (HS5'.out.trans (by rw [hs6, thn_some]))
                        clear HS5' hs6
                        have hX6' := hX5.keep hk6 (by omega)
                        have hX6 := hX6'.set 5 (.int .u64 x6)
                        have hK6 := (hK5.trans hk6).set (b := T) (i := 5) (by omega) (.int .u64 x6)
                        have hr6' := H.out.then hr6 (below_set _ a6 (b := T) (i := 5) (by omega) (.int .u64 x6))
                        have ho6 := own_set_ne (hk6.own ho5 (by omega)) (hvT.out _ rfl) (i := 5) (.int .u64 x6)
                        have f1 := hX6'.cell 5 (v := .int .u64 0) rfl
                        have f2 := hX6'.fz 5
                        have f3 := hX6'.lt
                        clear hX5 hK5 hr5' ho5 hk6 hr6 hX6'
                        go_upto_region 14 with (fail)
                        clear f1 f2 f3
                        generalize a6.setCell ⟨T, 5, none⟩ (.int .u64 x6) = b6 at *
                        have hX6 : Blk b6 T #[.int .i64 x1, .int .i64 x2, .int .i64 x3, .int .u64 x4, .int .u64 x5, .int .u64 x6] 49 := hX6
                        have HPN : Hid (pAllCalls n (l.drop j) = pre (cs ++ [⟨x1, x2, x3, x4, x5, x6⟩]) (pCalls n (M - (i + 1)) (l.drop q6))) := Lib.hid (by rw [HP2.out, HS6'.out, thn_some])
                        have k0 := hX6.cell 0 (v := .int .i64 x1) rfl
                        have k1 := hX6.cell 1 (v := .int .i64 x2) rfl
                        have k2 := hX6.cell 2 (v := .int .i64 x3) rfl
                        have k3 := hX6.cell 3 (v := .int .u64 x4) rfl
                        have k4 := hX6.cell 4 (v := .int .u64 x5) rfl
                        have k5 := hX6.cell 5 (v := .int .u64 x6) rfl
                        have k6 := hX6.lt
                        have HO6 := Lib.hid ho6; clear ho6
                        go_wp2_with (at_builtin; refine wpList_appS rfl (.tmp 50) (.tmp 52) 23 rfl w.heap.size 49 _ 6 48 Tryd.underlying23 Tryd.infoCall rfl (by decide) _ i (cs.flatMap cllCells) (cllCells ⟨x1, x2, x3, x4, x5, x6⟩) b6.heap.size rfl (own_ext HO6.out ((Ext.refl _).alloc _)) rfl rfl ?_ (cllCells_one _) ?_ ?_ ?_ ?_; rotate_right; intro v' w' ho' hg' hbb'; obtain ⟨sa', cap', rfl, -⟩ := own_slice ho')
                        rotate_left
                        · intro j' hj'
                          rw [World.cell?_alloc_at _ _ _ _ rfl]
                          rcases (show j' = 0 ∨ j' = 1 ∨ j' = 2 ∨ j' = 3 ∨ j' = 4 ∨ j' = 5 by omega) with rfl | rfl | rfl | rfl | rfl | rfl <;> rfl
                        · unfold maxLen; omega
                        · omega
                        · have := hK6.size; simp; omega
                        go_roundw
                        case rel =>
                          refine ⟨i + 1, q6, cs ++ [⟨x1, x2, x3, x4, x5, x6⟩], by go_num, by omega, Lib.hid (by rw [List.length_append, HL.out]; rfl), HPN, ?_, ?_, ?_⟩
                          · exact (hK6.alloc _).then_below hbb'
                          · exact H.out.then hr6' (((Ext.refl b6).alloc _).mono hK6.size |>.trans hbb')
                          · rw [List.flatMap_append]; simpa using ho'
                        case measure => simp [intOf]; omega
            · have dt : decide (x1 < n) = false := decide_eq_false (by omega)
              go_still_tail 9, (by kernel_rfl)
              change wpList _ _ _ _ _ (b0.drewN 1)
              have HK := Lib.hid (hK1.drewN 1)
              generalize b0.drewN 1 = b1 at *
              go_wp2_with fail
              refine (insist_no _ _ _).mono ?_
              rintro e w' ⟨rfl, rfl⟩
              refine ⟨rfl, HK.out, .inl ⟨?_, Bad.mk l _ _ (by omega) (by omega) (by decide) (fun h => absurd h h11)⟩⟩
              rw [HP2.out, pCall_thn, HS1.out, thn_some, if_neg (by omega)]; rfl
        · have hiM : i = M := by omega
          subst hiM
          have HF : Hid (pAllCalls n (l.drop j) = some (cs, l.drop q)) := Lib.hid (by rw [HP.out, Nat.sub_self]; simp [pCalls, pre])
          obtain ⟨a, cap, hv, hln, _, hseq, hblk, _⟩ := IsSeq.own (d := cll0) cllCells_len (by decide) ho
          have hln2 : cs.length ≤ 1000 := by omega
          obtain ⟨rfl, rfl⟩ : va = a ∧ vc = cap := by simpa using hv
          have HLN := Lib.hid hln; clear hln hv
          go_wp2
          go_ret
          exact ⟨hk, .inr ⟨cs, q, HF.out, ⟨va, vc, by rw [← HLN.out]; rfl, hseq, hblk, hln2⟩, hr⟩⟩
    · have d1 : decide (m ≤ 1000) = false := decide_eq_false (by omega)
      go_wp2_with fail
      refine (insist_no _ _ _).mono ?_
      rintro e w4 ⟨rfl, rfl⟩
      refine ⟨rfl, hk1, .inl ⟨?_, Bad.mk l _ _ (by omega) (by omega) (by decide) (fun h => absurd h h11)⟩⟩
      rw [pAllCalls_thn, hs, thn_some, if_neg (by omega)]

end Go.Proofs.YtcfbcffmlinlaaaDoor
