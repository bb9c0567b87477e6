/-
  The reference's Wrong: why a script may not be written.
-/
import Derived.Test.YtmnkkmgfkodmhaaScrRight
namespace Go.Proofs.Ytmnkkmgfkodmhaa
open Go.RowKit

set_option maxHeartbeats 400000 in
theorem byteful_any (n : Int) (w : World) : Calls Try.prog 15 #[.int .i64 n] w fun e w' => e = .returned (.bool (upTo 255 n)) ∧ w' = w := by
  by_cases h1 : 0 ≤ n
  · by_cases h2 : n ≤ 255
    · have H : Hid (upTo 255 n = true) := Lib.hid ((upTo_iff 255 n).2 ⟨h1, h2⟩)
      go_enter Try.func15, Try.ntmps15
      go_wp2
      go_ret
      exact ⟨by rw [H.out]; rfl, rfl⟩
    · have H : Hid (upTo 255 n = false) := Lib.hid (by unfold upTo; rw [decide_eq_false h2, Bool.and_false])
      go_enter Try.func15, Try.ntmps15
      go_wp2
      go_ret
      exact ⟨by rw [H.out]; rfl, rfl⟩
  · have H : Hid (upTo 255 n = false) := Lib.hid (by unfold upTo; rw [decide_eq_false h1]; rfl)
    go_enter Try.func15, Try.ntmps15
    go_wp2
    go_ret
    exact ⟨by rw [H.out]; rfl, rfl⟩

theorem specB_no {x : Spc} (h : upTo 255 x.kind = false ∨ x.p < 0 ∨ 65535 < x.p ∨ x.q < 0 ∨ 65535 < x.q) : specB x = false := by
  unfold specB
  rcases h with h | h | h | h | h
  · rw [h]; rfl
  · have : upTo 65535 x.p = false := by unfold upTo; rw [decide_eq_false (by omega)]; rfl
    rw [this]; simp
  · have : upTo 65535 x.p = false := by unfold upTo; rw [decide_eq_false (by omega : ¬ x.p ≤ 65535), Bool.and_false]
    rw [this]; simp
  · have : upTo 65535 x.q = false := by unfold upTo; rw [decide_eq_false (by omega)]; rfl
    rw [this]; simp
  · have : upTo 65535 x.q = false := by unfold upTo; rw [decide_eq_false (by omega : ¬ x.q ≤ 65535), Bool.and_false]
    rw [this]; simp

theorem callB_no {n : Int} {x : Cll} (h : x.thread < 0 ∨ n ≤ x.thread ∨ upTo 255 x.obj = false ∨ upTo 255 x.kind = false) : callB n x = false := by
  unfold callB
  rcases h with h | h | h | h
  · have : upTo (n - 1) x.thread = false := by unfold upTo; rw [decide_eq_false (by omega)]; rfl
    rw [this]; rfl
  · have : upTo (n - 1) x.thread = false := by unfold upTo; rw [decide_eq_false (by omega : ¬ x.thread ≤ n - 1), Bool.and_false]
    rw [this]; rfl
  · rw [h]; simp
  · rw [h]; simp

set_option maxRecDepth 100000 in
set_option maxHeartbeats 2000000 in
theorem wrong_any (s : Scr) (m : Lies) (w : World) (hf : Fits s) (hm : LiesAt s m w) :
    Calls Try.prog 7 #[.agg #[.int .i64 s.n, .slice m.sa s.specs.length m.sc, .slice m.ca s.calls.length m.cc, .slice m.pa s.picks.length m.pc]] w fun e w' => e = .returned (.int .i64 (errF s)) ∧ Ext w w' := by
  obtain ⟨sa, sc, ca, cc, pa, pc⟩ := m
  simp only
  have HM1 := Lib.hid hm.specs
  have HM2 := Lib.hid hm.calls
  have HM3 := Lib.hid hm.picks
  clear hm
  simp only at HM1 HM2 HM3
  obtain ⟨⟨f1, f2⟩, f3, f4, f5⟩ := hf
  by_cases hn : s.n < 1 ∨ 16 < s.n
  · have HE := Lib.hid (errF_n s hn)
    rcases hn with hn | hn
    · go_enter Try.func7, Try.ntmps7
      go_wp2
      go_ret
      exact ⟨by rw [HE.out]; rfl, (Ext.refl _).alloc _⟩
    · have hn1 : ¬ s.n < 1 := by omega
      go_enter Try.func7, Try.ntmps7
      go_wp2
      go_ret
      exact ⟨by rw [HE.out]; rfl, (Ext.refl _).alloc _⟩
  · have hn1 : 1 ≤ s.n := by omega
    have hn2 : s.n ≤ 16 := by omega
    by_cases hl : 8 < s.specs.length ∨ 1000 < s.calls.length ∨ 65536 < s.picks.length
    · have HE := Lib.hid (errF_long s hn hl)
      clear hn
      by_cases l1 : 8 < s.specs.length
      · go_enter Try.func7, Try.ntmps7
        go_wp2
        go_ret
        exact ⟨by rw [HE.out]; rfl, (Ext.refl _).alloc _⟩
      · by_cases l2 : 1000 < s.calls.length
        · clear hl
          go_enter Try.func7, Try.ntmps7
          go_wp2
          go_ret
          exact ⟨by rw [HE.out]; rfl, (Ext.refl _).alloc _⟩
        · have l3 : 65536 < s.picks.length := by omega
          clear hl
          go_enter Try.func7, Try.ntmps7
          go_wp2
          go_ret
          exact ⟨by rw [HE.out]; rfl, (Ext.refl _).alloc _⟩
    · have HR := Lib.hid (errF_range s hn hl)
      have HK := Lib.hid (errF_ok s hn hl)
      have l1 : s.specs.length ≤ 8 := by omega
      have l2 : s.calls.length ≤ 1000 := by omega
      have l3 : s.picks.length ≤ 65536 := by omega
      clear hn hl
      go_enter Try.func7, Try.ntmps7
      go_wp2_with fail
      go_loopw [35] (fun k wr => ∃ j : Nat, j ≤ s.specs.length ∧ k = .int .i64 j ∧ Hid ((s.specs.take j).all specB = true) ∧
        Ext (w.alloc (.cells #[.int .i64 s.n, .slice sa s.specs.length sc, .slice ca s.calls.length cc, .slice pa s.picks.length pc] 33)) wr) (fun k _ => s.specs.length - (intOf k).toNat)
      case atStart => exact ⟨0, Nat.zero_le _, rfl, Lib.hid (by simp), Ext.refl _⟩
      case round =>
        obtain ⟨j, hj, rfl, HJ, hx⟩ := hrel
        have cS : wr.cell? ⟨w.heap.size, 1, none⟩ = some (.slice sa s.specs.length sc) := hx.cell (by simp)
        have cC : wr.cell? ⟨w.heap.size, 2, none⟩ = some (.slice ca s.calls.length cc) := hx.cell (by simp)
        have hw : Ext w wr := ((Ext.refl w).alloc _).trans hx
        by_cases hlt : j < s.specs.length
        · have H1 := Lib.hid (all_take_succ spc0 specB s.specs j hlt)
          have H2 := Lib.hid (fun hp => all_no spc0 specB s.specs j hlt hp)
          obtain ⟨b, off, rfl, c0, c1, c2⟩ := (HM1.out.ext hw).at hlt
          clear cC
          generalize nthD spc0 s.specs j = x at *
          have HX := Lib.hid hx; clear hx
          clear hw
          by_cases hno : upTo 255 x.kind = false ∨ x.p < 0 ∨ 65535 < x.p ∨ x.q < 0 ∨ 65535 < x.q
          · have HF : Hid (errF s = 10) := Lib.hid (HR.out (by unfold okB; rw [H2.out (specB_no hno)]; simp))
            cases hk : upTo 255 x.kind
            · have HB := Lib.hid (fun w => byteful_any x.kind w)
              rw [hk] at HB; clear hk hno
              go_wp2_with (go_at_call 15; refine (HB.out _).mono ?_; rintro e w' ⟨rfl, rfl⟩)
              go_ret
              exact ⟨by rw [HF.out]; rfl, ((Ext.refl _).alloc _).trans (HX.out.alloc _)⟩
            · have HB := Lib.hid (fun w => byteful_any x.kind w)
              rw [hk] at HB
              have hno2 : x.p < 0 ∨ (0 ≤ x.p ∧ 65535 < x.p) ∨ (0 ≤ x.p ∧ x.p ≤ 65535 ∧ x.q < 0) ∨ (0 ≤ x.p ∧ x.p ≤ 65535 ∧ 0 ≤ x.q ∧ 65535 < x.q) := by
                rcases hno with h | h | h | h | h
                · rw [hk] at h; cases h
                all_goals omega
              clear hk hno
              rcases hno2 with g1 | ⟨g1, g2⟩ | ⟨g1, g2, g3⟩ | ⟨g1, g2, g3, g4⟩
              all_goals
                go_wp2_with (go_at_call 15; refine (HB.out _).mono ?_; rintro e w' ⟨rfl, rfl⟩)
                go_ret
                exact ⟨by rw [HF.out]; rfl, ((Ext.refl _).alloc _).trans (HX.out.alloc _)⟩
          · have hk : upTo 255 x.kind = true := by
              cases h : upTo 255 x.kind
              · exact absurd (.inl h) hno
              · rfl
            obtain ⟨g1, g2, g3, g4⟩ : 0 ≤ x.p ∧ x.p ≤ 65535 ∧ 0 ≤ x.q ∧ x.q ≤ 65535 := by omega
            have HT : Hid ((s.specs.take (j + 1)).all specB = true) := Lib.hid (by
              rw [H1.out, HJ.out]; unfold specB; rw [hk, (upTo_iff 65535 x.p).2 ⟨g1, g2⟩, (upTo_iff 65535 x.q).2 ⟨g3, g4⟩]; rfl)
            have HB := Lib.hid (fun w => byteful_any x.kind w)
            rw [hk] at HB; clear hk hno
            go_wp2_with (go_at_call 15; refine (HB.out _).mono ?_; rintro e w' ⟨rfl, rfl⟩)
            go_roundw
            case rel => exact ⟨j + 1, by omega, by go_num, HT, HX.out.alloc _⟩
            case measure => simp [intOf]; omega
        · have hje : j = s.specs.length := by omega
          have HSP : Hid (s.specs.all specB = true) := Lib.hid (by have := HJ.out; rw [hje, List.take_length] at this; exact this)
          clear HJ cS
          go_wp2_with fail
          go_loopw [71] (fun k wr => ∃ j : Nat, j ≤ s.calls.length ∧ k = .int .i64 j ∧ Hid ((s.calls.take j).all (callB s.n) = true) ∧
            Ext (w.alloc (.cells #[.int .i64 s.n, .slice sa s.specs.length sc, .slice ca s.calls.length cc, .slice pa s.picks.length pc] 33)) wr) (fun k _ => s.calls.length - (intOf k).toNat)
          case atStart => exact ⟨0, Nat.zero_le _, rfl, Lib.hid (by simp), hx⟩
          case round =>
            clear hj hlt hje hw hx cC
            obtain ⟨j, hj, rfl, HJ, hx⟩ := hrel
            have cN : wr.cell? ⟨w.heap.size, 0, none⟩ = some (.int .i64 s.n) := hx.cell (by simp)
            have cC : wr.cell? ⟨w.heap.size, 2, none⟩ = some (.slice ca s.calls.length cc) := hx.cell (by simp)
            have cP : wr.cell? ⟨w.heap.size, 3, none⟩ = some (.slice pa s.picks.length pc) := hx.cell (by simp)
            have hw : Ext w wr := ((Ext.refl w).alloc _).trans hx
            have hbs : w.heap.size < wr.heap.size := World.block_lt_of_cell? _ _ cN
            by_cases hlt : j < s.calls.length
            · have H1 := Lib.hid (all_take_succ cll0 (callB s.n) s.calls j hlt)
              have H2 := Lib.hid (fun hp => all_no cll0 (callB s.n) s.calls j hlt hp)
              obtain ⟨b, off, rfl, c0, c1, c2, c3, c4, c5⟩ := (HM2.out.ext hw).at hlt
              generalize nthD cll0 s.calls j = x at *
              have HX := Lib.hid hx; clear hx
              clear hw cP
              have HB1 := Lib.hid (fun w => byteful_any x.obj w)
              have HB2 := Lib.hid (fun w => byteful_any x.kind w)
              by_cases hno : x.thread < 0 ∨ s.n ≤ x.thread ∨ upTo 255 x.obj = false ∨ upTo 255 x.kind = false
              · have HF : Hid (errF s = 10) := Lib.hid (HR.out (by unfold okB; rw [H2.out (callB_no hno)]; simp))
                have hno2 : x.thread < 0 ∨ (0 ≤ x.thread ∧ s.n ≤ x.thread) ∨ ((0 ≤ x.thread ∧ x.thread < s.n) ∧ upTo 255 x.obj = false) ∨ ((0 ≤ x.thread ∧ x.thread < s.n) ∧ upTo 255 x.obj = true ∧ upTo 255 x.kind = false) := by
                  cases h1 : upTo 255 x.obj <;> cases h2 : upTo 255 x.kind <;> simp [h1, h2] at hno ⊢ <;> omega
                clear hno
                rcases hno2 with g1 | ⟨g1, g2⟩ | ⟨⟨g1, g2⟩, g3⟩ | ⟨⟨g1, g2⟩, g3, g4⟩
                · go_wp2
                  go_ret
                  exact ⟨by rw [HF.out]; rfl, ((Ext.refl _).alloc _).trans (HX.out.alloc _)⟩
                · go_wp2
                  go_ret
                  exact ⟨by rw [HF.out]; rfl, ((Ext.refl _).alloc _).trans (HX.out.alloc _)⟩
                · rw [g3] at HB1; clear g3
                  go_wp2_with fail
                  refine (HB1.out _).mono ?_
                  rintro e w' ⟨rfl, rfl⟩
                  go_wp2
                  go_ret
                  exact ⟨by rw [HF.out]; rfl, ((Ext.refl _).alloc _).trans (HX.out.alloc _)⟩
                · rw [g3] at HB1; clear g3
                  rw [g4] at HB2; clear g4
                  go_wp2_with fail
                  refine (HB1.out _).mono ?_
                  rintro e w' ⟨rfl, rfl⟩
                  go_wp2_with fail
                  refine (HB2.out _).mono ?_
                  rintro e w' ⟨rfl, rfl⟩
                  go_wp2
                  go_ret
                  exact ⟨by rw [HF.out]; rfl, ((Ext.refl _).alloc _).trans (HX.out.alloc _)⟩
              · obtain ⟨g1, g2, g3, g4⟩ : 0 ≤ x.thread ∧ x.thread < s.n ∧ upTo 255 x.obj = true ∧ upTo 255 x.kind = true := by
                  cases h1 : upTo 255 x.obj <;> cases h2 : upTo 255 x.kind <;> simp [h1, h2] at hno ⊢ <;> omega
                have HT : Hid ((s.calls.take (j + 1)).all (callB s.n) = true) := Lib.hid (by
                  rw [H1.out, HJ.out]; unfold callB; rw [g3, g4, (upTo_iff (s.n - 1) x.thread).2 ⟨g1, by omega⟩]; rfl)
                rw [g3] at HB1; clear g3
                rw [g4] at HB2; clear g4 hno
                go_wp2_with fail
                refine (HB1.out _).mono ?_
                rintro e w' ⟨rfl, rfl⟩
                go_wp2_with fail
                refine (HB2.out _).mono ?_
                rintro e w' ⟨rfl, rfl⟩
                go_wp2
                go_roundw
                case rel => exact ⟨j + 1, by omega, by go_num, HT, HX.out.alloc _⟩
                case measure => simp [intOf]; omega
            · have hje : j = s.calls.length := by omega
              have HCP : Hid (s.calls.all (callB s.n) = true) := Lib.hid (by have := HJ.out; rw [hje, List.take_length] at this; exact this)
              clear HJ cC cN
              have HPI := Lib.hid (HM3.out.ext hw)
              have HW := Lib.hid hw; clear hw
              clear hx
              go_wp2_with fail
              go_loop [105] (fun k => ∃ j : Nat, j ≤ s.picks.length ∧ k = .int .i64 j ∧ Hid ((s.picks.take j).all (upTo 255) = true)) (fun k => s.picks.length - (intOf k).toNat)
              case atStart => exact ⟨0, Nat.zero_le _, rfl, Lib.hid (by simp)⟩
              case round =>
                clear hj hlt hje
                obtain ⟨j, hj, rfl, HJ⟩ := hrel
                by_cases hlt : j < s.picks.length
                · have H1 := Lib.hid (all_take_succ 0 (upTo 255) s.picks j hlt)
                  have H2 := Lib.hid (fun hp => all_no 0 (upTo 255) s.picks j hlt hp)
                  rw [nth_nthD] at H1 H2
                  obtain ⟨b, off, rfl, c0⟩ := HPI.out.at hlt
                  generalize nth s.picks j = x at *
                  have HB := Lib.hid (fun w => byteful_any x w)
                  cases hk : upTo 255 x
                  · have HF : Hid (errF s = 10) := Lib.hid (HR.out (by unfold okB; rw [H2.out hk]; rfl))
                    rw [hk] at HB; clear hk
                    go_wp2_with (go_at_call 15; refine (HB.out _).mono ?_; rintro e w' ⟨rfl, rfl⟩)
                    go_ret
                    exact ⟨by rw [HF.out]; rfl, HW.out⟩
                  · have HT : Hid ((s.picks.take (j + 1)).all (upTo 255) = true) := Lib.hid (by rw [H1.out, HJ.out, hk]; rfl)
                    rw [hk] at HB; clear hk
                    go_wp2_with (go_at_call 15; refine (HB.out _).mono ?_; rintro e w' ⟨rfl, rfl⟩)
                    go_round
                    case rel => exact ⟨j + 1, by omega, by go_num, HT⟩
                    case measure => simp [intOf]; omega
                · have hje : j = s.picks.length := by omega
                  have HP : Hid (s.picks.all (upTo 255) = true) := Lib.hid (by have := HJ.out; rw [hje, List.take_length] at this; exact this)
                  have HF : Hid (errF s = 0) := Lib.hid (HK.out (by unfold okB; rw [HP.out, HSP.out, HCP.out]; rfl))
                  go_wp2
                  go_ret
                  exact ⟨by rw [HF.out]; rfl, HW.out⟩

end Go.Proofs.Ytmnkkmgfkodmhaa
