/-
  The law's ScriptBack: what is read is written in the same bytes.
-/
import Derived.Test.YtmnkkmgfkodmhaaScrThree
namespace Go.Proofs.Ytmnkkmgfkodmhaa
open Go.RowKit

set_option maxRecDepth 100000 in
set_option maxHeartbeats 1000000 in
theorem back_any (l : List Int) (ba : Option Addr) (bc : Nat) (w : World) (hi : IsInts .u8 w ba l) (hb : ∀ b ∈ l, byteOk b) (hl : l.length ≤ 9223372036854775807) :
    Calls Try.prog 4 #[.slice ba l.length bc] w fun e w' => e = .returned (.bool true) ∧ Ext w w' := by
  have hdec := decode_any l ba bc w hi hb hl
  have HI := Lib.hid hi
  have HB := Lib.hid hb
  have HD := Lib.hid hdec
  clear hdec hi hb
  by_cases hlong : 3000 < l.length
  · go_enter Try.func4, Try.ntmps4
    go_wp2_with fail
    refine (three_any _).mono ?_
    rintro e w1 ⟨rfl, hx⟩
    have HX := Lib.hid hx; clear hx
    go_wp2
    go_ret
    exact ⟨rfl, HX.out⟩
  · go_enter Try.func4, Try.ntmps4
    go_wp2_with fail
    refine HD.out.mono ?_
    rintro e w1 ⟨hx1, ⟨-, p, r, rfl, hp0, hp1, hr, -⟩ | ⟨s, m, hs, rfl, hm⟩⟩
    · have hr' : (r != 0) = true := by simpa using hr
      have HX1 := Lib.hid hx1; clear hx1
      clear hr
      go_wp2_with fail
      refine (three_any _).mono ?_
      rintro e w2 ⟨rfl, hx⟩
      have HX := Lib.hid ((HX1.out.alloc _).trans hx); clear hx
      go_wp2
      go_ret
      exact ⟨rfl, HX.out⟩
    · obtain ⟨henc, hok, hwd⟩ := pS_back HB.out hs
      have herr := (errF_zero s).2 hok
      have hfit : Fits s := ⟨by have := hok.1; omega, by have := hok.2.1; omega, by have := hok.2.2.1; omega, by have := hok.2.2.2.1; omega⟩
      have HX1 := Lib.hid hx1; clear hx1
      have HE := Lib.hid (encode_any s m (w1.alloc (.cells #[.int .i64 s.n, .slice m.sa s.specs.length m.sc, .slice m.ca s.calls.length m.cc, .slice m.pa s.picks.length m.pc] 26)) hfit hwd (hm.ext ((Ext.refl w1).alloc _)))
      have HENC := Lib.hid henc
      have HERR := Lib.hid herr
      clear hm hs hok hwd hfit henc herr
      obtain ⟨sa, sc, ca, cc, pa, pc⟩ := m
      simp only at HE ⊢
      go_wp2_with fail
      refine HE.out.mono ?_
      rintro e w2 ⟨hx2, ⟨he, -⟩ | ⟨-, a, cap, rfl, hnil, hi2⟩⟩
      · exact absurd HERR.out he
      · rw [HENC.out] at hi2 ⊢
        have hxx := (((Ext.refl w1).alloc (.cells #[.int .i64 s.n, .slice sa s.specs.length sc, .slice ca s.calls.length cc, .slice pa s.picks.length pc] 26))).trans hx2
        have HX2 := Lib.hid (HX1.out.trans hxx)
        have h1 := str_run w2 a cap l hi2
        have h2 := str_run w2 ba bc l (HI.out.ext HX2.out)
        clear hx2 hxx hi2 hnil
        generalize strOfNums l = S at h1 h2
        go_wp2_with fail
        refine (three_any _).mono ?_
        rintro e w3 ⟨rfl, hx⟩
        have HX := Lib.hid (HX2.out.trans hx); clear hx
        go_wp2
        go_ret
        exact ⟨rfl, HX.out⟩

end Go.Proofs.Ytmnkkmgfkodmhaa
