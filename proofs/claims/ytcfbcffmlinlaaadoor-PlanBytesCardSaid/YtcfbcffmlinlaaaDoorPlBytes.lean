/-
  The law's PlanBytes: a plan's script, written as bytes, and read, has the same plan.
-/
import Derived.Test.YtcfbcffmlinlaaaDoorPlBack
import Derived.Test.YtcfbcffmlinlaaaDoorScrEncB
import Derived.Test.YtcfbcffmlinlaaaDoorScrDec
namespace Go.Proofs.YtcfbcffmlinlaaaDoor
open Go.RowKit

set_option maxRecDepth 100000 in
set_option maxHeartbeats 4000000 in
theorem pbytes_any (t : List UInt8) (w : World) (hl : t.length ≤ 9223372036854775807) (hm : MaxAt w) :
    Calls Tryd.prog 6 #[.string (St t)] w fun e w' => e = .returned (.bool true) ∧ Ext w w' := by
  have HM := Lib.hid hm
  have HF := Lib.hid (four_any w hm)
  clear hm
  by_cases h4 : 4000 < t.length
  · have d4 : decide ((4000 : Int) < (t.length : Int)) = true := decide_eq_true (by omega)
    go_enter Tryd.func6, Tryd.ntmps6
    go_wp2_with fail
    refine HF.out.mono ?_
    rintro e w1 ⟨rfl, hx⟩
    have HX := Lib.hid hx; clear hx
    go_wp2_with fail
    refine bodyPost_ret (v := .bool true) (by simp [results, Tryd.results6, go_sem]) rfl ?_
    exact ⟨rfl, HX.out⟩
  · have d4 : decide ((4000 : Int) < (t.length : Int)) = false := decide_eq_false (by omega)
    have HR := Lib.hid (pread_any t w (by omega) HM.out)
    go_enter Tryd.func6, Tryd.ntmps6
    go_wp2_with fail
    refine HR.out.mono ?_
    rintro e w1 ⟨hx, ⟨h0, h1, rfl⟩ | ⟨h0, h1, m, rfl, hla, hcap⟩⟩
    · have HX := Lib.hid hx
      have HF1 := Lib.hid (four_any _ ((HM.out.ext hx).ext ((Ext.refl w1).alloc (.cells #[.int .i64 0, .slice none 0 0, .slice none 0 0, .slice none 0 0] 26))))
      have e1 : ((Pl.readP t).2.1 != 0) = true := by simpa using h1
      clear hx h0 h1
      generalize (Pl.readP t).1 = x1 at *
      generalize (Pl.readP t).2.1 = x2 at *
      go_wp2_with fail
      refine HF1.out.mono ?_
      rintro e w2 ⟨rfl, hx⟩
      have HX2 := Lib.hid (HX.out.trans (((Ext.refl w1).alloc _).trans hx)); clear hx
      go_wp2_with fail
      refine bodyPost_ret (v := .bool true) (by simp [results, Tryd.results6, go_sem]) rfl ?_
      exact ⟨rfl, HX2.out⟩
    · obtain ⟨-, hpl, hok, hwd⟩ := Pl.read_back (e := (Pl.readP t).2.1) (r := (Pl.readP t).2.2) (t := t) (by rw [← h0])
      generalize (Pl.readP t).2.2.s = s at *
      have hf := ok_fits hok
      have he := (errF_zero _).2 hok
      obtain ⟨sa, sc, ca, cc, pa, pc⟩ := m
      simp only at hcap ⊢
      have hb := Blk.new w1 #[.int .i64 s.n, .slice sa s.specs.length sc, .slice ca s.calls.length cc, .slice pa s.picks.length pc] 26
      have hx2 := (Ext.refl w1).alloc (.cells #[.int .i64 s.n, .slice sa s.specs.length sc, .slice ca s.calls.length cc, .slice pa s.picks.length pc] 26)
      have HENC := Lib.hid (encode_any s ⟨sa, sc, ca, cc, pa, pc⟩ _ hf hwd (hla.ext hx2))
      have HX := Lib.hid (hx.trans hx2)
      have HPL := Lib.hid hpl
      have HE := Lib.hid he
      have HOK := Lib.hid hok
      have HWD := Lib.hid hwd
      have HFI := Lib.hid hf
      clear hx h0 h1 hpl hok hwd hf he hla hcap hx2
      simp only at HENC
      go_upto_region 4 with (fail)
      generalize w1.alloc (.cells #[.int .i64 s.n, .slice sa s.specs.length sc, .slice ca s.calls.length cc, .slice pa s.picks.length pc] 26) = W2 at *
      have u0 := hb.cell 0 (v := .int .i64 s.n) rfl
      have u1 := hb.cell 1 (v := .slice sa s.specs.length sc) rfl
      have u2 := hb.cell 2 (v := .slice ca s.calls.length cc) rfl
      have u3 := hb.cell 3 (v := .slice pa s.picks.length pc) rfl
      clear hb
      go_wp2_with fail
      clear u0 u1 u2 u3
      refine HENC.out.mono ?_
      rintro e w3 ⟨hx, ⟨h0, -⟩ | ⟨-, a, cap, rfl, -, hi⟩⟩
      · exact absurd HE.out h0
      have HX3 := Lib.hid (HX.out.trans hx)
      have HDEC := Lib.hid (decode_any (encS s) a cap w3 hi (encS_bytes s HOK.out HWD.out) (Nat.le_trans (encS_len s HOK.out) (by decide)))
      clear hx HX HENC hi
      go_wp2_with fail
      refine HDEC.out.mono ?_
      rintro e w4 ⟨hx, ⟨hn, -⟩ | ⟨s2, m2, hs, rfl, hla, hcap⟩⟩
      · rw [pS_enc s HOK.out HWD.out] at hn; cases hn
      rw [pS_enc s HOK.out HWD.out] at hs
      cases hs
      obtain ⟨sa2, sc2, ca2, cc2, pa2, pc2⟩ := m2
      simp only at hcap ⊢
      have hb := Blk.new w4 #[.int .i64 s.n, .slice sa2 s.specs.length sc2, .slice ca2 s.calls.length cc2, .slice pa2 s.picks.length pc2] 26
      have hx2 := (Ext.refl w4).alloc (.cells #[.int .i64 s.n, .slice sa2 s.specs.length sc2, .slice ca2 s.calls.length cc2, .slice pa2 s.picks.length pc2] 26)
      have HW := Lib.hid (pwrite_any s ⟨sa2, sc2, ca2, cc2, pa2, pc2⟩ _ HFI.out HWD.out (hla.ext hx2) hcap)
      have HX4 := Lib.hid (HX3.out.trans (hx.trans hx2))
      clear hx HX3 HDEC hla hcap hx2
      simp only at HW
      go_upto_region 8 with (fail)
      generalize w4.alloc (.cells #[.int .i64 s.n, .slice sa2 s.specs.length sc2, .slice ca2 s.calls.length cc2, .slice pa2 s.picks.length pc2] 26) = W5 at *
      have u0 := hb.cell 0 (v := .int .i64 s.n) rfl
      have u1 := hb.cell 1 (v := .slice sa2 s.specs.length sc2) rfl
      have u2 := hb.cell 2 (v := .slice ca2 s.calls.length cc2) rfl
      have u3 := hb.cell 3 (v := .slice pa2 s.picks.length pc2) rfl
      clear hb
      go_wp2_with fail
      clear u0 u1 u2 u3
      refine HW.out.mono ?_
      rintro e w6 ⟨hx, ⟨h0, -⟩ | ⟨-, rfl⟩⟩
      · exact absurd HE.out h0
      rw [HPL.out]
      have HX6 := Lib.hid (HX4.out.trans hx)
      clear hx HX4 HW
      go_wp2_with fail
      refine (four_any _ (HM.out.ext HX6.out)).mono ?_
      rintro e w7 ⟨rfl, hx⟩
      have HX7 := Lib.hid (HX6.out.trans hx); clear hx
      go_wp2_with fail
      refine bodyPost_ret (v := .bool true) (by simp [results, Tryd.results6, go_sem]) rfl ?_
      exact ⟨rfl, HX7.out⟩

end Go.Proofs.YtcfbcffmlinlaaaDoor
