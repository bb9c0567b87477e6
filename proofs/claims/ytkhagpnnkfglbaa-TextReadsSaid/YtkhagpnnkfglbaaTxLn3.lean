/-
  The reference's line: numbers that may be below 0.
-/
import Derived.Test.YtkhagpnnkfglbaaTxLn2
namespace Go.Proofs.Ytkhagpnnkfglbaa
open Go.RowKit

theorem rdigGo_le (M : Nat) : ∀ (l : List UInt8) (n x : Nat), x ≤ M → (Tx.rdigGo M l n x).1 ≤ M := by
  intro l
  induction l with
  | nil => intro n x h; exact h
  | cons c t ih =>
    intro n x h
    rw [Tx.rdigGo_cons]
    split
    · split
      · exact h
      · exact ih _ _ (by omega)
    · exact h
theorem rdigitsF_le (M : Nat) (r : Tx.Rd) : (Tx.rdigitsF M r).1 ≤ M := by
  unfold Tx.rdigitsF
  split
  · exact Nat.zero_le _
  · exact rdigGo_le M _ _ _ (Nat.zero_le _)

theorem m63_digs : Tx.digs 20 Tx.m63 = [57, 50, 50, 51, 51, 55, 50, 48, 51, 54, 56, 53, 52, 55, 55, 53, 56, 48, 55] := by decide +kernel
theorem m631_digs : Tx.digs 20 (Tx.m63 + 1) = [57, 50, 50, 51, 51, 55, 50, 48, 51, 54, 56, 53, 52, 55, 55, 53, 56, 48, 56] := by decide +kernel
theorem m64_digs : Tx.digs 20 Tx.m64 = [49, 56, 52, 52, 54, 55, 52, 52, 48, 55, 51, 55, 48, 57, 53, 53, 49, 54, 49, 53] := by decide +kernel

theorem ldig63 (w : World) (R : Nat) (s : List UInt8) (r : Tx.Rd) (h : LnAt w R s r) (hs : s.length ≤ 1000000) :
    Calls Try.prog 34 #[.pointer (some ⟨R, 0, none⟩), .string (St [57, 50, 50, 51, 51, 55, 50, 48, 51, 54, 56, 53, 52, 55, 55, 53, 56, 48, 55])] w (LnPost w R s (Tx.rdigitsF Tx.m63 r).2 (.int .u64 (Tx.rdigitsF Tx.m63 r).1)) := by
  have := ldigits_any Tx.m63 w R s r (by decide) (by decide) h hs
  rw [m63_digs] at this; exact this
theorem ldig631 (w : World) (R : Nat) (s : List UInt8) (r : Tx.Rd) (h : LnAt w R s r) (hs : s.length ≤ 1000000) :
    Calls Try.prog 34 #[.pointer (some ⟨R, 0, none⟩), .string (St [57, 50, 50, 51, 51, 55, 50, 48, 51, 54, 56, 53, 52, 55, 55, 53, 56, 48, 56])] w (LnPost w R s (Tx.rdigitsF (Tx.m63 + 1) r).2 (.int .u64 (Tx.rdigitsF (Tx.m63 + 1) r).1)) := by
  have := ldigits_any (Tx.m63 + 1) w R s r (by decide) (by decide) h hs
  rw [m631_digs] at this; exact this
theorem ldig64 (w : World) (R : Nat) (s : List UInt8) (r : Tx.Rd) (h : LnAt w R s r) (hs : s.length ≤ 1000000) :
    Calls Try.prog 34 #[.pointer (some ⟨R, 0, none⟩), .string (St [49, 56, 52, 52, 54, 55, 52, 52, 48, 55, 51, 55, 48, 57, 53, 53, 49, 54, 49, 53])] w (LnPost w R s (Tx.ruintF r).2 (.int .u64 (Tx.ruintF r).1)) := by
  have := ldigits_any Tx.m64 w R s r (by decide) (by decide) h hs
  rw [m64_digs] at this; exact this

set_option maxRecDepth 100000 in
set_option maxHeartbeats 1000000 in
theorem lint_any (w : World) (R : Nat) (s : List UInt8) (r : Tx.Rd) (h : LnAt w R s r) (hs : s.length ≤ 1000000) :
    Calls Try.prog 32 #[.pointer (some ⟨R, 0, none⟩)] w (LnPost w R s (Tx.rintF r).2 (.int .i64 (Tx.rintF r).1)) := by
  have ht := is_any 45 45 w R s r rfl h hs
  have HT := Lib.hid ht
  have H := Lib.hid h
  clear ht h
  cases hi : Tx.isF 45 r with
  | false =>
    rw [hi] at HT
    have hi' : (Tx.takeF 45 r).1 = false := hi
    have HE : Hid (Tx.rintF r = (((Tx.rdigitsF Tx.m63 r).1 : Int), (Tx.rdigitsF Tx.m63 r).2)) := Lib.hid (by unfold Tx.rintF; rw [hi']; rfl)
    have hle := rdigitsF_le Tx.m63 r
    have hle' : (Tx.rdigitsF Tx.m63 r).1 ≤ 9223372036854775807 := hle
    clear hi hi' hle
    go_enter Try.func32, Try.ntmps32
    go_wp2_with fail
    refine HT.out.mono ?_
    rintro e w1 ⟨rfl, hx⟩
    have HD := Lib.hid (ldig63 w1 R s r (H.out.ext hx) hs)
    have HX := Lib.hid hx; clear hx
    generalize Tx.rdigitsF Tx.m63 r = p at *
    obtain ⟨v, r2⟩ := p
    simp only at hle' HD HE
    go_wp2_with fail
    refine HD.out.mono ?_
    rintro e w2 ⟨rfl, hr, hk⟩
    have HR := Lib.hid hr
    have HK := Lib.hid ((Keep.of_ext HX.out).trans hk)
    clear hr hk
    go_wp2_with fail
    go_ret
    rw [HE.out]
    exact ⟨rfl, HR.out, HK.out⟩
  | true =>
    rw [hi] at HT
    have hi' : (Tx.takeF 45 r).1 = true := hi
    obtain ⟨hback, hnb⟩ := Tx.takeF_back (r' := (Tx.takeF 45 r).2) (by rw [← hi'])
    have HE : Hid (Tx.rintF r = (if (Tx.takeF 45 r).2.rest.head? = some 48 then (0, ⟨(Tx.takeF 45 r).2.rest, true⟩) else (-((Tx.rdigitsF (Tx.m63 + 1) (Tx.takeF 45 r).2).1 : Int), (Tx.rdigitsF (Tx.m63 + 1) (Tx.takeF 45 r).2).2))) := Lib.hid (by
      show (if (Tx.takeF 45 r).1 = true then _ else _) = _
      rw [if_pos hi'])
    generalize (Tx.takeF 45 r).2 = r1 at *
    have HB := Lib.hid hback
    have HNB := Lib.hid hnb
    clear hi hi' hback hnb
    go_enter Try.func32, Try.ntmps32
    go_wp2_with fail
    refine HT.out.mono ?_
    rintro e w1 ⟨rfl, hx⟩
    obtain ⟨k, hk, hr, hb⟩ := H.out.ext hx
    have HX := Lib.hid hx; clear hx
    rw [HB.out] at hr hb
    simp only at hr hb
    have hkl : k < s.length := by
      rcases Nat.lt_or_ge k s.length with h | h
      · exact h
      · rw [List.drop_eq_nil_iff.2 h] at hr; cases hr
    rw [List.drop_eq_getElem_cons hkl] at hr
    have c1 := hb.cell 1 (v := .int .i64 k) rfl
    have f1 := hb.fz 1
    have l1 := hb.lt
    have hn1 : LnAt (w1.setCell ⟨R, 1, none⟩ (.int .i64 ((k : Int) + 1))) R s r1 := by
      refine ⟨k + 1, hkl, (List.cons.inj hr).2, ?_⟩
      rw [HNB.out]
      exact hb.set 1 (.int .i64 ((k : Int) + 1))
    have HN1 := Lib.hid hn1
    have HK1 := Lib.hid ((Keep.of_ext HX.out).trans (keep_set R 1 w1 (.int .i64 ((k : Int) + 1))))
    clear hb hr hn1
    go_upto_region 4 with (fail)
    clear c1 f1
    generalize (w1.setCell ⟨R, 1, none⟩ (.int .i64 ((k : Int) + 1))) = w2 at *
    have HT2 := Lib.hid (is_any 48 48 w2 R s r1 rfl HN1.out hs)
    by_cases hz : r1.rest.head? = some 48
    · have HE2 : Hid (Tx.rintF r = (0, ⟨r1.rest, true⟩)) := Lib.hid (by rw [HE.out, if_pos hz])
      have hii : Tx.isF 48 r1 = true := by
        unfold Tx.isF
        cases r1 with
        | mk rest bad =>
          cases rest with
          | nil => cases hz
          | cons c t =>
            simp only [List.head?_cons, Option.some.injEq] at hz
            have hnb : bad = false := HNB.out
            subst hz hnb
            rw [Tx.takeF_yes]
      rw [hii] at HT2
      clear hz hii HE
      go_wp2_with fail
      refine HT2.out.mono ?_
      rintro e w3 ⟨rfl, hx⟩
      obtain ⟨j, hj, hr, hb⟩ := HN1.out.ext hx
      have HX3 := Lib.hid hx; clear hx
      have c2 := hb.cell 2 rfl
      have f2 := hb.fz 2
      have l2 := hb.lt
      have HBB := Lib.hid hb
      have HR := Lib.hid hr
      clear hb hr
      go_wp2_with fail
      go_ret
      rw [HE2.out]
      exact ⟨rfl, ⟨j, hj, HR.out, HBB.out.set 2 (.bool true)⟩, HK1.out.trans ((Keep.of_ext HX3.out).trans (keep_set R 2 w3 _))⟩
    · have HE2 : Hid (Tx.rintF r = (-((Tx.rdigitsF (Tx.m63 + 1) r1).1 : Int), (Tx.rdigitsF (Tx.m63 + 1) r1).2)) := Lib.hid (by rw [HE.out, if_neg hz])
      have hii : Tx.isF 48 r1 = false := by unfold Tx.isF; rw [Tx.takeF_no hz]
      rw [hii] at HT2
      have hle := rdigitsF_le (Tx.m63 + 1) r1
      have hle' : (Tx.rdigitsF (Tx.m63 + 1) r1).1 ≤ 9223372036854775808 := hle
      clear hz hii HE hle
      go_wp2_with fail
      refine HT2.out.mono ?_
      rintro e w3 ⟨rfl, hx⟩
      have HD := Lib.hid (ldig631 w3 R s r1 (HN1.out.ext hx) hs)
      have HK3 := Lib.hid (HK1.out.trans (Keep.of_ext hx)); clear hx
      generalize Tx.rdigitsF (Tx.m63 + 1) r1 = p at *
      obtain ⟨v, r2⟩ := p
      simp only at hle' HD HE2
      go_wp2_with fail
      refine HD.out.mono ?_
      rintro e w4 ⟨rfl, hr, hk⟩
      have HR := Lib.hid hr
      have HK4 := Lib.hid (HK3.out.trans hk)
      clear hr hk
      by_cases hv : v = 0
      · have hv' : ((v : Int) == 0) = true := by rw [beq_iff_eq]; omega
        have HV := Lib.hid hv; clear hv
        go_wp2_with fail
        go_ret
        rw [HE2.out]
        exact ⟨ret_int (by simp only; have := HV.out; omega), HR.out, HK4.out⟩
      · have hv' : ((v : Int) == 0) = false := by rw [beq_eq_false_iff_ne]; omega
        have hv1 : 1 ≤ v := by omega
        clear hv
        go_wp2_with fail
        go_ret
        rw [HE2.out]
        exact ⟨ret_int (by simp only; omega), HR.out, HK4.out⟩

end Go.Proofs.Ytkhagpnnkfglbaa
