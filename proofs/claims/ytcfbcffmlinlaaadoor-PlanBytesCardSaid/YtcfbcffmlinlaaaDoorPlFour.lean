/-
  The law's four lines.
-/
import Derived.Test.YtcfbcffmlinlaaaDoorPlWrite
import Derived.Test.YtcfbcffmlinlaaaDoorPlAll
namespace Go.Proofs.YtcfbcffmlinlaaaDoor
open Go.RowKit

def fourA : List UInt8 := [116, 104, 114, 101, 97, 100, 115, 32, 50, 10, 111, 98, 106, 101, 99, 116, 32, 49, 32, 48, 32, 48, 10, 99, 97, 108, 108, 32, 48, 32, 48, 32, 48, 32, 53, 32, 48, 32, 48, 10, 112, 105, 99, 107, 115, 32, 48, 32, 48, 10]
def fourB : List UInt8 := [116, 104, 114, 101, 97, 100, 115, 32, 50, 10, 112, 105, 99, 107, 115, 32, 48, 32, 48, 49, 10]
def fourS : Scr := ⟨2, [⟨1, 0, 0⟩], [⟨0, 0, 0, 5, 0, 0⟩], [0, 0]⟩
theorem readA : Pl.readP fourA = (0, 0, ⟨fourS, 3, true⟩) := by kernel_rfl
theorem readB : Pl.readP fourB = (2, 5, ⟨⟨2, [], [], []⟩, 1, false⟩) := by kernel_rfl

theorem ok_fits {s : Scr} (h : s.ok) : Fits s := ⟨by have := h.1; omega, by have := h.2.1; omega, by have := h.2.2.1; omega, by have := h.2.2.2.1; omega⟩

set_option maxRecDepth 100000 in
set_option maxHeartbeats 4000000 in
theorem four_any (w : World) (hm : MaxAt w) : Calls Tryd.prog 7 #[] w fun e w' => e = .returned (.bool true) ∧ Ext w w' := by
  have HM := Lib.hid hm
  have H1 := Lib.hid (pread_any fourA w (by decide) hm)
  clear hm
  go_enter Tryd.func7, Tryd.ntmps7
  go_wp2_with fail
  refine H1.out.mono ?_
  rw [readA]
  obtain ⟨-, hpl, hok, hwd⟩ := Pl.read_back readA
  have hf := ok_fits hok
  have he := (errF_zero _).2 hok
  have HPL := Lib.hid hpl
  have HOK := Lib.hid he
  clear hpl hok he
  rintro e w1 ⟨hx, ⟨h0, -⟩ | ⟨-, -, m, rfl, hla, hcap⟩⟩
  · exact absurd rfl h0
  have HX1 := Lib.hid hx
  clear hx
  obtain ⟨b2, off2, e2, -, -, -, u3, -, -⟩ := IsCalls.at (i := 0) hla.calls (by decide)
  have HLA := Lib.hid hla
  have HWD := Lib.hid hwd
  have HF := Lib.hid hf
  have HC := Lib.hid hcap
  obtain ⟨sa, sc, ca, cc, pa, pc⟩ := m
  simp only at e2
  subst e2
  have HU : Hid (w1.cell? ⟨b2, off2 + 3, none⟩ = some (.int .u64 5)) := Lib.hid (by simpa [show (nthD cll0 fourS.calls 0).a = 5 from rfl] using u3)
  clear hla hwd hf hcap u3
  simp only [show (⟨fourS, 3, true⟩ : Pl.St).s = fourS from rfl, show fourS.n = 2 from rfl, show fourS.specs.length = 1 from rfl, show fourS.calls.length = 1 from rfl, show fourS.picks.length = 2 from rfl] at HLA HC ⊢
  go_upto_region 2 with (fail)
  have hb := Blk.new w1 #[.int .i64 2, .slice sa 1 sc, .slice (some ⟨b2, off2, none⟩) 1 cc, .slice pa 2 pc] 26
  have hx2 := (Ext.refl w1).alloc (.cells #[.int .i64 2, .slice sa 1 sc, .slice (some ⟨b2, off2, none⟩) 1 cc, .slice pa 2 pc] 26)
  have HE2 := Lib.hid hx2
  have HW : Hid (Calls Tryd.prog 8 #[.agg #[.int .i64 2, .slice sa 1 sc, .slice (some ⟨b2, off2, none⟩) 1 cc, .slice pa 2 pc]] (w1.alloc (.cells #[.int .i64 2, .slice sa 1 sc, .slice (some ⟨b2, off2, none⟩) 1 cc, .slice pa 2 pc] 26)) (WrPost fourS (w1.alloc (.cells #[.int .i64 2, .slice sa 1 sc, .slice (some ⟨b2, off2, none⟩) 1 cc, .slice pa 2 pc] 26)))) := Lib.hid (pwrite_any fourS ⟨sa, sc, some ⟨b2, off2, none⟩, cc, pa, pc⟩ _ HF.out HWD.out (HLA.out.ext hx2) HC.out)
  have HB := Lib.hid hb
  have HU2 : Hid ((w1.alloc (.cells #[.int .i64 2, .slice sa 1 sc, .slice (some ⟨b2, off2, none⟩) 1 cc, .slice pa 2 pc] 26)).cell? ⟨b2, off2 + 3, none⟩ = some (.int .u64 5)) := Lib.hid (hx2.cell HU.out)
  have HM2 : Hid (MaxAt (w1.alloc (.cells #[.int .i64 2, .slice sa 1 sc, .slice (some ⟨b2, off2, none⟩) 1 cc, .slice pa 2 pc] 26))) := Lib.hid ((HM.out.ext HX1.out).ext hx2)
  clear hb hx2 HM HU
  generalize w1.alloc (.cells #[.int .i64 2, .slice sa 1 sc, .slice (some ⟨b2, off2, none⟩) 1 cc, .slice pa 2 pc] 26) = W2 at *
  have u0 := HB.out.cell 0 (v := .int .i64 2) rfl
  have u1 := HB.out.cell 1 (v := .slice sa 1 sc) rfl
  have u2 := HB.out.cell 2 (v := .slice (some ⟨b2, off2, none⟩) 1 cc) rfl
  have u3 := HB.out.cell 3 (v := .slice pa 2 pc) rfl
  go_wp2_with fail
  clear u0 u1 u2 u3
  refine HW.out.mono ?_
  rintro e w3 ⟨hx, ⟨h0, -⟩ | ⟨-, rfl⟩⟩
  · exact absurd HOK.out h0
  rw [show Pl.planT fourS = fourA from HPL.out]
  have HX3 := Lib.hid hx
  have H4 := Lib.hid (pread_any fourB w3 (by decide) (HM2.out.ext hx))
  clear hx HW
  go_wp2_with fail
  refine H4.out.mono ?_
  rw [readB]
  rintro e w4 ⟨hx, ⟨-, -, rfl⟩ | ⟨h0, -⟩⟩
  rotate_left
  · cases h0
  have HX4 := Lib.hid hx
  clear hx H4
  simp only
  have hx5 := (HX3.out.trans HX4.out).alloc (.cells #[.int .i64 0, .slice none 0 0, .slice none 0 0, .slice none 0 0] 26)
  have v0 := hx5.cell (HB.out.cell 0 (v := .int .i64 2) rfl)
  have v1 := hx5.cell (HB.out.cell 1 (v := .slice sa 1 sc) rfl)
  have v2 := hx5.cell (HB.out.cell 2 (v := .slice (some ⟨b2, off2, none⟩) 1 cc) rfl)
  have v3 := hx5.cell (HB.out.cell 3 (v := .slice pa 2 pc) rfl)
  have v4 := hx5.cell HU2.out
  have HXX : Hid (Ext w (w4.alloc (.cells #[.int .i64 0, .slice none 0 0, .slice none 0 0, .slice none 0 0] 26))) := Lib.hid (HX1.out.trans (HE2.out.trans hx5))
  clear hx5 HX1 HX3 HX4 HB HU2
  go_upto_region 4 with (fail)
  generalize w4.alloc (.cells #[.int .i64 0, .slice none 0 0, .slice none 0 0, .slice none 0 0] 26) = W5 at *
  simp only [fourA]
  go_wp2_with fail
  refine bodyPost_ret (v := .bool true) (by simp [results, Tryd.results7, go_sem]) rfl ?_
  exact ⟨rfl, HXX.out⟩

end Go.Proofs.YtcfbcffmlinlaaaDoor
