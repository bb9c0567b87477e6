/-
  The law RegionFinds: it answers true, and nothing that was there turns.
-/
import Derived.Test.YtiicflmkhchmlaaWLays
namespace Go.Proofs.Ytiicflmkhchmlaa
open Go.RowKit

theorem b2_of {p q : Bool} (h : p = q) : (p == q) = true := by simp [h]

set_option maxHeartbeats 400000 in
theorem finds_walk (a : Option Addr) (cap : Nat) (zs : List Int) (x : Int) (w : World) (hs : IsInts .i64 w a zs)
    (hz : ∀ i, i < zs.length → -9223372036854775808 ≤ nth zs i ∧ nth zs i ≤ 9223372036854775807) (hx1 : -9223372036854775808 ≤ x) (hx2 : x ≤ 9223372036854775807) :
    Calls Try.prog 4 #[.slice a zs.length cap, .int .i64 x] w fun e w' => e = .returned (.bool true) ∧ Ext w w' := by
  by_cases hbig : 300 < zs.length
  · go_enter Try.func4, Try.ntmps4
    go_wp2_with (go_at_call 5; refine (three_any _).mono ?_; rintro e w' ⟨rfl, hext⟩)
    go_ret
    exact ⟨rfl, hext⟩
  · have hfind := find_any x a cap zs _ w rfl hs (by omega) hz hx1 hx2
    have HW := fun w hs => Lib.hid (wrong_any a cap zs _ w rfl hs (by omega) hz)
    have HS := Lib.hid hs; clear hs
    have HZ := Lib.hid hz; clear hz
    have HL := Lib.hid hfind; clear hfind
    by_cases hw : wrong zs 0 = 0
    · have H0 := Lib.hid hw; clear hw
      have hb : ∀ j, j ≤ zs.length → 0 ≤ sum (zs.take j) ∧ sum (zs.take j) ≤ 65536 := fun j hj => by
        have := right_bounds zs 0 (by omega) (by omega) H0.out j hj; simpa using this
      have hbe := fun w' i hi (hs' : IsInts .i64 w' a zs) => Lib.hid (begin_any a cap zs _ i w' rfl hs' hi (by omega) hb)
      have hha := fun w' i hi (hs' : IsInts .i64 w' a zs) => Lib.hid (has_any a cap zs _ i x w' rfl hs' hi (by omega) hb)
      have HB := Lib.hid hb; clear hb
      have HC0 := Lib.hid (cnt_zero zs x)
      go_enter Try.func4, Try.ntmps4
      go_wp2_with fail
      refine HL.out.mono ?_
      rintro e w1 ⟨hext, rfl⟩
      generalize hfi : find zs x = F
      obtain ⟨f1, f2, f3⟩ := F
      have HF := Lib.hid hfi; clear hfi
      go_wp2_with fail
      refine ((HW _ (HS.out.ext hext)).out).mono ?_
      rintro e w' ⟨rfl, rfl⟩
      rw [H0.out]
      go_wp2_with fail
      go_loopw [8, 9, 39] (fun c _ k wr => ∃ j : Nat, j ≤ zs.length ∧ k = .int .i64 j ∧ Ext w wr ∧ c = .int .i64 (cnt zs x j)) (fun _ _ k _ => zs.length - (intOf k).toNat)
      case atStart => exact ⟨0, Nat.zero_le _, rfl, hext, by rw [HC0.out]⟩
      case round =>
        obtain ⟨j, hj, rfl, hxr, rfl⟩ := hrel
        by_cases hlt : j < zs.length
        · have hbj := hbe wr j hj (HS.out.ext hxr)
          have hbj2 := fun m => hbe (wr.drewN m) j hj (HS.out.ext (hxr.drewN m))
          have hhj := hha wr j hlt (HS.out.ext hxr)
          clear hbe hha
          have hcb := cnt_bounds zs x j
          go_wp2_with fail
          refine hhj.out.mono ?_
          rintro e w2 ⟨rfl, m, rfl⟩
          by_cases hh : has zs j x = true
          · have HH := Lib.hid hh
            have hfh := find_has zs x H0.out j hlt hh
            have hcy := cnt_yes zs x H0.out j hlt hh
            have HCY := Lib.hid hcy; clear hcy
            rw [HF.out] at hfh
            have e1 : f1 = j := congrArg (·.1) hfh
            have e2 : f2 = x - sum (zs.take j) := congrArg (·.2.1) hfh
            have e3 : f3 = true := congrArg (·.2.2) hfh
            have bz := HB.out j hj
            clear hfh
            subst e1 e2 e3
            have hlo : sum (zs.take j) ≤ x := by have := hh; simp only [has, decide_eq_true_eq] at this; exact this.1
            rw [hh]; clear hh
            go_wp2_with (go_at_call 8; refine ((hbj2 _).out).mono ?_; rintro e w' ⟨rfl, rfl⟩)
            go_roundw
            case rel => exact ⟨j + 1, by omega, by go_num, hxr.drewN _, by rw [HCY.out.1, HCY.out.2]; rfl⟩
            case measure => simp [intOf]; omega
          · have hh : has zs j x = false := by simpa using hh
            have HCN := Lib.hid (cnt_no zs x H0.out j hlt hh)
            rw [hh]; clear hh
            go_wp2
            go_roundw
            case rel => exact ⟨j + 1, by omega, by go_num, hxr.drewN _, by rw [HCN.out]⟩
            case measure => simp [intOf]; omega
        · have hje : j = zs.length := by omega
          subst hje
          have hcb := cnt_bounds zs x zs.length
          have hcl := cnt_last zs x H0.out
          rw [HF.out] at hcl
          simp only at hcl
          subst hcl
          have hnf := find_not zs x
          rw [HF.out] at hnf
          have HNF := Lib.hid hnf; clear hnf
          clear hbe hha
          have hle : cnt zs x zs.length ≤ 1 := hcb.2
          by_cases hc : cnt zs x zs.length = 1
          · rw [hc]; rw [hc] at HF HNF
            clear hcb hle
            go_wp2_with (go_at_call 5; refine (three_any _).mono ?_; rintro e w' ⟨rfl, hext2⟩)
            go_ret
            exact ⟨rfl, hxr.trans hext2⟩
          · have hc0 : cnt zs x zs.length = 0 := by omega
            rw [hc0]; rw [hc0] at HF HNF
            have hnn := HNF.out rfl
            obtain ⟨rfl, rfl⟩ : f1 = 0 ∧ f2 = 0 := ⟨congrArg (·.1) hnn, congrArg (·.2.1) hnn⟩
            clear hcb hle hnn hc hc0
            go_wp2_with (go_at_call 5; refine (three_any _).mono ?_; rintro e w' ⟨rfl, hext2⟩)
            go_ret
            exact ⟨rfl, hxr.trans hext2⟩
    · have hno := findPost_no (zs := zs) (x := x) (.inl hw)
      have H0 := Lib.hid hw; clear hw
      have hne : (wrong zs 0 != 0) = true := by simpa using H0.out
      have HNO := Lib.hid hno; clear hno
      go_enter Try.func4, Try.ntmps4
      go_wp2_with fail
      refine HL.out.mono ?_
      rintro e w1 ⟨hext, rfl⟩
      rw [HNO.out]
      go_wp2_with fail
      refine ((HW _ (HS.out.ext hext)).out).mono ?_
      rintro e w' ⟨rfl, rfl⟩
      go_wp2_with (go_at_call 5; refine (three_any _).mono ?_; rintro e w' ⟨rfl, hext2⟩)
      go_ret
      exact ⟨rfl, hext.trans hext2⟩

end Go.Proofs.Ytiicflmkhchmlaa
