/-
  script.right: why a script may not be written.
-/
import Derived.Test.YtcfbcffmlinlaaaDoorScrMem
namespace Go.Proofs.YtcfbcffmlinlaaaDoor
open Go.RowKit

theorem errF_n (s : Scr) (h : s.n < 1 ∨ 16 < s.n) : errF s = 1 := by unfold errF; rw [if_pos h]
theorem errF_long (s : Scr) (h : ¬ (s.n < 1 ∨ 16 < s.n)) (h2 : 8 < s.specs.length ∨ 1000 < s.calls.length ∨ 65536 < s.picks.length) : errF s = 3 := by unfold errF; rw [if_neg h, if_pos h2]
theorem errF_range (s : Scr) (h : ¬ (s.n < 1 ∨ 16 < s.n)) (h2 : ¬ (8 < s.specs.length ∨ 1000 < s.calls.length ∨ 65536 < s.picks.length)) (h3 : okB s = false) : errF s = 10 := by
  unfold errF; rw [if_neg h, if_neg h2, h3]; rfl
theorem errF_ok (s : Scr) (h : ¬ (s.n < 1 ∨ 16 < s.n)) (h2 : ¬ (8 < s.specs.length ∨ 1000 < s.calls.length ∨ 65536 < s.picks.length)) (h3 : okB s = true) : errF s = 0 := by
  unfold errF; rw [if_neg h, if_neg h2, h3]; rfl

set_option maxRecDepth 100000 in
set_option maxHeartbeats 1000000 in
theorem right_any (s : Scr) (m : Lies) (w : World) (hf : Fits s) (hm : LiesAt s m w) :
    Calls Tryd.prog 31 #[.agg #[.int .i64 s.n, .slice m.sa s.specs.length m.sc, .slice m.ca s.calls.length m.cc, .slice m.pa s.picks.length m.pc]] w fun e w' => e = .returned (.int .i64 (errF s)) ∧ Ext w w' := by
  obtain ⟨sa, sc, ca, cc, pa, pc⟩ := m
  simp only
  have HM1 := Lib.hid hm.specs
  have HM2 := Lib.hid hm.calls
  have HM3 := Lib.hid hm.picks
  clear hm
  simp only at HM1 HM2 HM3
  obtain ⟨⟨f1, f2⟩, f3, f4, f5⟩ := hf
  by_cases hn : s.n < 1 ∨ 16 < s.n
  · have HE := Lib.hid (errF_n s hn)
    rcases hn with hn | hn
    · go_enter Tryd.func31, Tryd.ntmps31
      go_wp2
      go_ret
      exact ⟨by rw [HE.out]; rfl, (Ext.refl _).alloc _⟩
    · have hn1 : ¬ s.n < 1 := by omega
      go_enter Tryd.func31, Tryd.ntmps31
      go_wp2
      go_ret
      exact ⟨by rw [HE.out]; rfl, (Ext.refl _).alloc _⟩
  · have hn1 : 1 ≤ s.n := by omega
    have hn2 : s.n ≤ 16 := by omega
    by_cases hl : 8 < s.specs.length ∨ 1000 < s.calls.length ∨ 65536 < s.picks.length
    · have HE := Lib.hid (errF_long s hn hl)
      clear hn
      by_cases l1 : 8 < s.specs.length
      · go_enter Tryd.func31, Tryd.ntmps31
        go_wp2
        go_ret
        exact ⟨by rw [HE.out]; rfl, (Ext.refl _).alloc _⟩
      · by_cases l2 : 1000 < s.calls.length
        · clear hl
          go_enter Tryd.func31, Tryd.ntmps31
          go_wp2
          go_ret
          exact ⟨by rw [HE.out]; rfl, (Ext.refl _).alloc _⟩
        · have l3 : 65536 < s.picks.length := by omega
          clear hl
          go_enter Tryd.func31, Tryd.ntmps31
          go_wp2
          go_ret
          exact ⟨by rw [HE.out]; rfl, (Ext.refl _).alloc _⟩
    · have HR := Lib.hid (errF_range s hn hl)
      have HK := Lib.hid (errF_ok s hn hl)
      have l1 : s.specs.length ≤ 8 := by omega
      have l2 : s.calls.length ≤ 1000 := by omega
      have l3 : s.picks.length ≤ 65536 := by omega
      clear hn hl
      go_enter Tryd.func31, Tryd.ntmps31
      go_wp2_with fail
      refine (within_any 255 _ _ _ s.picks _ rfl (HM3.out.ext ((Ext.refl _).alloc _)) (by omega)).mono ?_
      rintro e w1 ⟨rfl, rfl⟩
      cases hp : s.picks.all (upTo 255)
      · have HE : Hid (errF s = 10) := Lib.hid (HR.out (by unfold okB; rw [hp]; rfl))
        clear hp
        go_wp2
        go_ret
        exact ⟨by rw [HE.out]; rfl, (Ext.refl _).alloc _⟩
      · have HP := Lib.hid hp; clear hp
        go_wp2_with fail
        go_loopw [41] (fun k wr => ∃ j : Nat, j ≤ s.specs.length ∧ k = .int .i64 j ∧ Hid ((s.specs.take j).all specB = true) ∧
          Ext (w.alloc (.cells #[.int .i64 s.n, .slice sa s.specs.length sc, .slice ca s.calls.length cc, .slice pa s.picks.length pc] 26)) wr) (fun k _ => s.specs.length - (intOf k).toNat)
        case atStart => exact ⟨0, Nat.zero_le _, rfl, Lib.hid (by simp), Ext.refl _⟩
        case round =>
          obtain ⟨j, hj, rfl, HJ, hx⟩ := hrel
          have cN : wr.cell? ⟨w.heap.size, 0, none⟩ = some (.int .i64 s.n) := hx.cell (by simp)
          have cC : wr.cell? ⟨w.heap.size, 2, none⟩ = some (.slice ca s.calls.length cc) := hx.cell (by simp)
          have hw : Ext w wr := ((Ext.refl w).alloc _).trans hx
          by_cases hlt : j < s.specs.length
          · have H1 := Lib.hid (all_take_succ spc0 specB s.specs j hlt)
            have H2 := Lib.hid (fun hp => all_no spc0 specB s.specs j hlt hp)
            have hsp := HM1.out.ext hw
            obtain ⟨b, off, rfl, c0, c1, c2⟩ := hsp.at hlt
            clear hsp cC
            generalize nthD spc0 s.specs j = x at *
            have HX := Lib.hid hx; clear hx
            clear hw
            cases hk : upTo 255 x.kind
            · have HF : Hid (errF s = 10) := Lib.hid (HR.out (by unfold okB; rw [H2.out (by unfold specB; rw [hk]; rfl)]; simp))
              have hk1 : [x.kind].all (upTo 255) = false := by simp [hk]
              have HK1 := Lib.hid hk1; clear hk1 hk
              go_wp2_with fail
              refine (within_any 255 _ 1 _ [x.kind] _ rfl (ints_fresh _ _ _ _ rfl _ _ (by simp)) (by simp)).mono ?_
              rintro e w' ⟨rfl, rfl⟩
              rw [HK1.out]
              go_wp2
              go_ret
              exact ⟨by rw [HF.out]; rfl, ((Ext.refl _).alloc _).trans ((HX.out.alloc _).alloc _)⟩
            · have hk1 : [x.kind].all (upTo 255) = true := by simp [hk]
              have HK1 := Lib.hid hk1; clear hk1
              have hal : [x.p, x.q].all (upTo 65535) = (upTo 65535 x.p && upTo 65535 x.q) := by simp
              cases hpq : (upTo 65535 x.p && upTo 65535 x.q)
              · have HF : Hid (errF s = 10) := Lib.hid (HR.out (by unfold okB; rw [H2.out (by unfold specB; rw [hpq, Bool.and_false])]; simp))
                have HK2 := Lib.hid (hal.trans hpq); clear hal hpq hk
                go_wp2_with fail
                refine (within_any 255 _ 1 _ [x.kind] _ rfl (ints_fresh _ _ _ _ rfl _ _ (by simp)) (by simp)).mono ?_
                rintro e w' ⟨rfl, rfl⟩
                rw [HK1.out]
                go_wp2_with fail
                refine (within_any 65535 _ 2 _ [x.p, x.q] _ rfl (ints_fresh _ _ _ _ rfl _ _ (by simp)) (by simp)).mono ?_
                rintro e w' ⟨rfl, rfl⟩
                rw [HK2.out]
                go_wp2
                go_ret
                exact ⟨by rw [HF.out]; rfl, ((Ext.refl _).alloc _).trans (((HX.out.alloc _).alloc _).alloc _)⟩
              · have HT : Hid ((s.specs.take (j + 1)).all specB = true) := Lib.hid (by rw [H1.out, HJ.out]; unfold specB; rw [hk, hpq]; rfl)
                have HK2 := Lib.hid (hal.trans hpq); clear hal hpq hk
                go_wp2_with fail
                refine (within_any 255 _ 1 _ [x.kind] _ rfl (ints_fresh _ _ _ _ rfl _ _ (by simp)) (by simp)).mono ?_
                rintro e w' ⟨rfl, rfl⟩
                rw [HK1.out]
                go_wp2_with fail
                refine (within_any 65535 _ 2 _ [x.p, x.q] _ rfl (ints_fresh _ _ _ _ rfl _ _ (by simp)) (by simp)).mono ?_
                rintro e w' ⟨rfl, rfl⟩
                rw [HK2.out]
                go_wp2
                go_roundw
                case rel => exact ⟨j + 1, by omega, by go_num, HT, ((HX.out.alloc _).alloc _).alloc _⟩
                case measure => simp [intOf]; omega
          · have hje : j = s.specs.length := by omega
            have HSP : Hid (s.specs.all specB = true) := Lib.hid (by have := HJ.out; rw [hje, List.take_length] at this; exact this)
            clear HJ
            go_wp2_with fail
            go_loopw [63] (fun k wr => ∃ j : Nat, j ≤ s.calls.length ∧ k = .int .i64 j ∧ Hid ((s.calls.take j).all (callB s.n) = true) ∧
              Ext (w.alloc (.cells #[.int .i64 s.n, .slice sa s.specs.length sc, .slice ca s.calls.length cc, .slice pa s.picks.length pc] 26)) wr) (fun k _ => s.calls.length - (intOf k).toNat)
            case atStart => exact ⟨0, Nat.zero_le _, rfl, Lib.hid (by simp), hx⟩
            case round =>
              clear hj hlt hje cN hw hx
              obtain ⟨j, hj, rfl, HJ, hx⟩ := hrel
              have cN : wr.cell? ⟨w.heap.size, 0, none⟩ = some (.int .i64 s.n) := hx.cell (by simp)
              have hw : Ext w wr := ((Ext.refl w).alloc _).trans hx
              by_cases hlt : j < s.calls.length
              · have H1 := Lib.hid (all_take_succ cll0 (callB s.n) s.calls j hlt)
                have H2 := Lib.hid (fun hp => all_no cll0 (callB s.n) s.calls j hlt hp)
                obtain ⟨b, off, rfl, c0, c1, c2, c3, c4, c5⟩ := (HM2.out.ext hw).at hlt
                have hbs : w.heap.size < wr.heap.size := World.block_lt_of_cell? _ _ cN
                generalize nthD cll0 s.calls j = x at *
                have HX := Lib.hid hx; clear hx
                clear hw
                cases hk : upTo (s.n - 1) x.thread
                · have HF : Hid (errF s = 10) := Lib.hid (HR.out (by unfold okB; rw [H2.out (by unfold callB; rw [hk]; rfl)]; simp))
                  have hk1 : [x.thread].all (upTo (s.n - 1)) = false := by simp [hk]
                  have HK1 := Lib.hid hk1; clear hk1 hk
                  go_wp2_with fail
                  refine (within_any (s.n - 1) _ 1 _ [x.thread] _ rfl (ints_fresh _ _ _ _ rfl _ _ (by simp)) (by simp)).mono ?_
                  rintro e w' ⟨rfl, rfl⟩
                  rw [HK1.out]
                  go_wp2
                  go_ret
                  exact ⟨by rw [HF.out]; rfl, ((Ext.refl _).alloc _).trans ((HX.out.alloc _).alloc _)⟩
                · have hk1 : [x.thread].all (upTo (s.n - 1)) = true := by simp [hk]
                  have HK1 := Lib.hid hk1; clear hk1
                  have hal : [x.obj, x.kind].all (upTo 255) = (upTo 255 x.obj && upTo 255 x.kind) := by simp
                  cases hpq : (upTo 255 x.obj && upTo 255 x.kind)
                  · have HF : Hid (errF s = 10) := Lib.hid (HR.out (by unfold okB; rw [H2.out (by unfold callB; rw [hpq, Bool.and_false])]; simp))
                    have HK2 := Lib.hid (hal.trans hpq); clear hal hpq hk
                    go_wp2_with fail
                    refine (within_any (s.n - 1) _ 1 _ [x.thread] _ rfl (ints_fresh _ _ _ _ rfl _ _ (by simp)) (by simp)).mono ?_
                    rintro e w' ⟨rfl, rfl⟩
                    rw [HK1.out]
                    go_wp2_with fail
                    refine (within_any 255 _ 2 _ [x.obj, x.kind] _ rfl (ints_fresh _ _ _ _ rfl _ _ (by simp)) (by simp)).mono ?_
                    rintro e w' ⟨rfl, rfl⟩
                    rw [HK2.out]
                    go_wp2
                    go_ret
                    exact ⟨by rw [HF.out]; rfl, ((Ext.refl _).alloc _).trans (((HX.out.alloc _).alloc _).alloc _)⟩
                  · have HT : Hid ((s.calls.take (j + 1)).all (callB s.n) = true) := Lib.hid (by rw [H1.out, HJ.out]; unfold callB; rw [hk, hpq]; rfl)
                    have HK2 := Lib.hid (hal.trans hpq); clear hal hpq hk
                    go_wp2_with fail
                    refine (within_any (s.n - 1) _ 1 _ [x.thread] _ rfl (ints_fresh _ _ _ _ rfl _ _ (by simp)) (by simp)).mono ?_
                    rintro e w' ⟨rfl, rfl⟩
                    rw [HK1.out]
                    go_wp2_with fail
                    refine (within_any 255 _ 2 _ [x.obj, x.kind] _ rfl (ints_fresh _ _ _ _ rfl _ _ (by simp)) (by simp)).mono ?_
                    rintro e w' ⟨rfl, rfl⟩
                    rw [HK2.out]
                    go_wp2
                    go_roundw
                    case rel => exact ⟨j + 1, by omega, by go_num, HT, ((HX.out.alloc _).alloc _).alloc _⟩
                    case measure => simp [intOf]; omega
              · have hje : j = s.calls.length := by omega
                have HCP : Hid (s.calls.all (callB s.n) = true) := Lib.hid (by have := HJ.out; rw [hje, List.take_length] at this; exact this)
                have HF : Hid (errF s = 0) := Lib.hid (HK.out (by unfold okB; rw [HP.out, HSP.out, HCP.out]; rfl))
                go_wp2
                go_ret
                exact ⟨by rw [HF.out]; rfl, hw⟩

end Go.Proofs.YtcfbcffmlinlaaaDoor
