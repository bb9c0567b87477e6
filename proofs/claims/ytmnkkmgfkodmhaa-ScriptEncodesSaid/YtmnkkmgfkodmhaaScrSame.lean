/-
  The reference's Same: two scripts with one content are alike; and the law's ref.
-/
import Derived.Test.YtmnkkmgfkodmhaaScrEnc
namespace Go.Proofs.Ytmnkkmgfkodmhaa
open Go.RowKit

set_option maxRecDepth 100000 in
set_option maxHeartbeats 1000000 in
theorem same_any (s : Scr) (m1 m2 : Lies) (w : World) (hf : Fits s) (h1 : LiesAt s m1 w) (h2 : LiesAt s m2 w) :
    Calls Try.prog 11 #[.agg #[.int .i64 s.n, .slice m1.sa s.specs.length m1.sc, .slice m1.ca s.calls.length m1.cc, .slice m1.pa s.picks.length m1.pc],
      .agg #[.int .i64 s.n, .slice m2.sa s.specs.length m2.sc, .slice m2.ca s.calls.length m2.cc, .slice m2.pa s.picks.length m2.pc]] w
      fun e w' => e = .returned (.bool true) ∧ Ext w w' := by
  obtain ⟨sa, sc, ca, cc, pa, pc⟩ := m1
  obtain ⟨ta, tc, da, dc, qa, qc⟩ := m2
  simp only
  have HM1 := Lib.hid h1.specs
  have HM2 := Lib.hid h1.calls
  have HM3 := Lib.hid h1.picks
  have HN1 := Lib.hid h2.specs
  have HN2 := Lib.hid h2.calls
  have HN3 := Lib.hid h2.picks
  clear h1 h2
  simp only at HM1 HM2 HM3 HN1 HN2 HN3
  obtain ⟨⟨f1, f2⟩, f3, f4, f5⟩ := hf
  go_enter Try.func11, Try.ntmps11
  go_wp2_with fail
  have hw : Ext w ((w.alloc (.cells #[.int .i64 s.n, .slice sa s.specs.length sc, .slice ca s.calls.length cc, .slice pa s.picks.length pc] 33)).alloc (.cells #[.int .i64 s.n, .slice ta s.specs.length tc, .slice da s.calls.length dc, .slice qa s.picks.length qc] 33)) :=
    ((Ext.refl w).alloc _).alloc _
  have hc : ∀ W : World, W = ((w.alloc (.cells #[.int .i64 s.n, .slice sa s.specs.length sc, .slice ca s.calls.length cc, .slice pa s.picks.length pc] 33)).alloc (.cells #[.int .i64 s.n, .slice ta s.specs.length tc, .slice da s.calls.length dc, .slice qa s.picks.length qc] 33)) →
      W.cell? ⟨w.heap.size, 1, none⟩ = some (.slice sa s.specs.length sc) ∧ W.cell? ⟨w.heap.size, 2, none⟩ = some (.slice ca s.calls.length cc) ∧ W.cell? ⟨w.heap.size, 3, none⟩ = some (.slice pa s.picks.length pc) ∧
      W.cell? ⟨w.heap.size + 1, 1, none⟩ = some (.slice ta s.specs.length tc) ∧ W.cell? ⟨w.heap.size + 1, 2, none⟩ = some (.slice da s.calls.length dc) ∧ W.cell? ⟨w.heap.size + 1, 3, none⟩ = some (.slice qa s.picks.length qc) := by
    rintro W rfl
    have e : w.heap.size + 1 = (w.alloc (.cells #[.int .i64 s.n, .slice sa s.specs.length sc, .slice ca s.calls.length cc, .slice pa s.picks.length pc] 33)).heap.size := by simp
    refine ⟨?_, ?_, ?_, ?_, ?_, ?_⟩ <;> first | simp | (rw [World.cell?_alloc_at _ _ _ _ e]; rfl)
  obtain ⟨b1, b2, b3, c1, c2, c3⟩ := hc _ rfl
  clear hc
  generalize ((w.alloc (.cells #[.int .i64 s.n, .slice sa s.specs.length sc, .slice ca s.calls.length cc, .slice pa s.picks.length pc] 33)).alloc (.cells #[.int .i64 s.n, .slice ta s.specs.length tc, .slice da s.calls.length dc, .slice qa s.picks.length qc] 33)) = W0 at *
  have HW := Lib.hid hw; clear hw
  go_loopw [43] (fun k wr => ∃ j : Nat, j ≤ s.specs.length ∧ k = .int .i64 j ∧ ∃ q, wr = W0.drewN q) (fun k _ => s.specs.length - (intOf k).toNat)
  case atStart => exact ⟨0, Nat.zero_le _, rfl, 0, rfl⟩
  case round =>
    obtain ⟨j, hj, rfl, q, rfl⟩ := hrel
    by_cases hlt : j < s.specs.length
    · obtain ⟨b, off, rfl, e0, e1, e2⟩ := (HM1.out.ext HW.out).at hlt
      obtain ⟨d, of2, rfl, g0, g1, g2⟩ := (HN1.out.ext HW.out).at hlt
      generalize nthD spc0 s.specs j = x at *
      go_wp2
      go_quiet (fail)
      go_wp2
      go_roundw
      case rel => exact ⟨j + 1, by omega, by go_num, _, rfl⟩
      case measure => simp [intOf]; omega
    · skip
      go_wp2
      go_loopw [61] (fun k wr => ∃ j : Nat, j ≤ s.calls.length ∧ k = .int .i64 j ∧ ∃ q, wr = W0.drewN q) (fun k _ => s.calls.length - (intOf k).toNat)
      case atStart => exact ⟨0, Nat.zero_le _, rfl, _, rfl⟩
      case round =>
        clear hlt hj
        obtain ⟨j, hj, rfl, q, rfl⟩ := hrel
        by_cases hlt : j < s.calls.length
        · obtain ⟨b, off, rfl, e0, e1, e2, e3, e4, e5⟩ := (HM2.out.ext HW.out).at hlt
          obtain ⟨d, of2, rfl, g0, g1, g2, g3, g4, g5⟩ := (HN2.out.ext HW.out).at hlt
          generalize nthD cll0 s.calls j = x at *
          go_wp2
          go_quiet (fail)
          go_wp2
          go_roundw
          case rel => exact ⟨j + 1, by omega, by go_num, _, rfl⟩
          case measure => simp [intOf]; omega
        · skip
          go_wp2
          go_loopw [79] (fun k wr => ∃ j : Nat, j ≤ s.picks.length ∧ k = .int .i64 j ∧ ∃ q, wr = W0.drewN q) (fun k _ => s.picks.length - (intOf k).toNat)
          case atStart => exact ⟨0, Nat.zero_le _, rfl, _, rfl⟩
          case round =>
            clear hlt hj
            obtain ⟨j, hj, rfl, q, rfl⟩ := hrel
            by_cases hlt : j < s.picks.length
            · obtain ⟨b, off, rfl, e0⟩ := (HM3.out.ext HW.out).at hlt
              obtain ⟨d, of2, rfl, g0⟩ := (HN3.out.ext HW.out).at hlt
              generalize nth s.picks j = x at *
              go_wp2
              go_quiet (fail)
              go_wp2
              go_roundw
              case rel => exact ⟨j + 1, by omega, by go_num, _, rfl⟩
              case measure => simp [intOf]; omega
            · skip
              go_wp2
              go_ret
              exact ⟨rfl, HW.out.drewN _⟩

end Go.Proofs.Ytmnkkmgfkodmhaa
