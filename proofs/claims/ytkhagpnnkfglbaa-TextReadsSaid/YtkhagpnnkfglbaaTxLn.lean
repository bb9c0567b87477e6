/-
  The reference's line: the next byte; a byte that must come; which digits fit.
-/
import Derived.Test.YtkhagpnnkfglbaaTxRd2
import Derived.Test.YtkhagpnnkfglbaaTxRPure
import Derived.Test.YtkhagpnnkfglbaaTxSame
namespace Go.Proofs.Ytkhagpnnkfglbaa
open Go.RowKit

/-- The reference's line at R: the line s, and how far it has come. -/
def LnAt (w : World) (R : Nat) (s : List UInt8) (r : Tx.Rd) : Prop :=
  ∃ k : Nat, k ≤ s.length ∧ r.rest = s.drop k ∧ Blk w R #[.string (St s), .int .i64 k, .bool r.bad] 39
theorem LnAt.ext {w w' : World} {R : Nat} {s : List UInt8} {r : Tx.Rd} (h : LnAt w R s r) (he : Ext w w') : LnAt w' R s r := by
  obtain ⟨k, h1, h2, h3⟩ := h
  exact ⟨k, h1, h2, h3.ext he⟩
theorem LnAt.lt {w : World} {R : Nat} {s : List UInt8} {r : Tx.Rd} (h : LnAt w R s r) : R < w.heap.size := by
  obtain ⟨k, h1, h2, h3⟩ := h
  exact h3.lt

/-- What a call of the reference's line leaves. -/
def LnPost (w : World) (R : Nat) (s : List UInt8) (r' : Tx.Rd) (v : Value) (e : Ending) (w' : World) : Prop := e = .returned v ∧ LnAt w' R s r' ∧ Keep R w w'

set_option maxRecDepth 100000 in
set_option maxHeartbeats 1000000 in
theorem is_any (c : Int) (b : UInt8) (w : World) (R : Nat) (s : List UInt8) (r : Tx.Rd) (hc : c = b.toNat) (h : LnAt w R s r) (hs : s.length ≤ 1000000) :
    Calls Try.prog 35 #[.pointer (some ⟨R, 0, none⟩), .int .u8 c] w fun e w' => e = .returned (.bool (Tx.isF b r)) ∧ Ext w w' := by
  obtain ⟨k, hk, hr, hb⟩ := h
  have c0 := hb.cell 0 (v := .string (St s)) rfl
  have c1 := hb.cell 1 (v := .int .i64 k) rfl
  have c2 := hb.cell 2 (v := .bool r.bad) rfl
  clear hb
  have HI := Lib.hid (show Tx.isF b r = (Tx.takeF b r).1 from rfl)
  rcases take_cases b r with ⟨h1, hbad, t, hrest, h2⟩ | ⟨h1, hcase⟩
  · have hkl : k < s.length := by
      rcases Nat.lt_or_ge k s.length with h | h
      · exact h
      · rw [hrest, List.drop_eq_nil_iff.2 h] at hr; cases hr
    have hv : (s[k].toNat : Int) = c := by
      rw [hrest, List.drop_eq_getElem_cons hkl] at hr
      rw [hc, ← (List.cons.inj hr).1]
    have hve : ((s[k].toNat : Int) == c) = true := by rw [hv]; simp
    have HT : Hid (Tx.isF b r = true) := Lib.hid (by rw [HI.out, h1])
    rw [hbad] at c2
    clear h1 h2 hr hrest hc hbad hv HI
    go_enter Try.func35, Try.ntmps35
    go_wp2
    go_quiet (fail)
    go_wp2
    go_ret
    exact ⟨ret_bool HT.out.symm, (Ext.refl _).drewN _⟩
  · have HT : Hid (Tx.isF b r = false) := Lib.hid (by rw [HI.out, h1])
    rcases hcase with hbad | ⟨hbad, hrest⟩ | ⟨hbad, d, t, hrest, hne⟩
    · rw [hbad] at c2
      clear h1 hr hbad hc HI
      go_enter Try.func35, Try.ntmps35
      go_wp2
      go_quiet (fail)
      go_wp2
      go_ret
      exact ⟨ret_bool HT.out.symm, (Ext.refl _).drewN _⟩
    · have hkl : ¬ k < s.length := fun h => by
        rw [hrest] at hr
        exact absurd (List.drop_eq_nil_iff.1 hr.symm) (by omega)
      have hkd : decide ((k : Int) < (s.length : Int)) = false := by simp; omega
      rw [hbad] at c2
      clear h1 hr hbad hc HI hrest
      go_enter Try.func35, Try.ntmps35
      go_wp2
      go_quiet (fail)
      go_wp2
      go_ret
      exact ⟨ret_bool HT.out.symm, (Ext.refl _).drewN _⟩
    · have hkl : k < s.length := by
        rcases Nat.lt_or_ge k s.length with h | h
        · exact h
        · rw [hrest, List.drop_eq_nil_iff.2 h] at hr; cases hr
      have hv : ((s[k].toNat : Int) == c) = false := by
        rw [hrest, List.drop_eq_getElem_cons hkl] at hr
        rw [beq_eq_false_iff_ne, hc, ← (List.cons.inj hr).1]
        exact toNat_ne hne
      rw [hbad] at c2
      clear h1 hr hbad hc HI hrest hne
      go_enter Try.func35, Try.ntmps35
      go_wp2
      go_quiet (fail)
      go_wp2
      go_ret
      exact ⟨ret_bool HT.out.symm, (Ext.refl _).drewN _⟩

set_option maxHeartbeats 1000000 in
theorem sign_any (c : Int) (b : UInt8) (w : World) (R : Nat) (s : List UInt8) (r : Tx.Rd) (hc : c = b.toNat) (h : LnAt w R s r) (hs : s.length ≤ 1000000) :
    Calls Try.prog 33 #[.pointer (some ⟨R, 0, none⟩), .int .u8 c] w (LnPost w R s (Tx.mustF b r) (.tuple #[])) := by
  have ht := is_any c b w R s r hc h hs
  have HT := Lib.hid ht
  have H := Lib.hid h
  clear ht h hc
  cases hi : Tx.isF b r with
  | true =>
    rw [hi] at HT
    have HM := Lib.hid (Tx.mustF_is hi)
    have HB2 := Lib.hid (Tx.takeF_back (r' := (Tx.takeF b r).2) (by rw [← hi]; rfl))
    clear hi
    generalize (Tx.takeF b r).2 = r2 at *
    go_enter Try.func33, Try.ntmps33
    go_wp2_with fail
    refine HT.out.mono ?_
    rintro e w1 ⟨rfl, hx⟩
    have HX := Lib.hid hx; clear hx
    obtain ⟨k, hk, hr, hb⟩ := H.out.ext HX.out
    have c1 := hb.cell 1 (v := .int .i64 k) rfl
    have f1 := hb.fz 1
    have l1 := hb.lt
    have HBB := Lib.hid hb
    have HR := Lib.hid hr
    clear hb hr
    go_wp2_with fail
    first | go_end0 | refine bodyPost_ret (results_none rfl _ _ _) rfl ?_
    rw [HM.out]
    have hr := HR.out
    rw [HB2.out.1] at hr
    simp only at hr
    have hkl : k < s.length := by
      rcases Nat.lt_or_ge k s.length with h | h
      · exact h
      · rw [List.drop_eq_nil_iff.2 h] at hr; cases hr
    rw [List.drop_eq_getElem_cons hkl] at hr
    refine ⟨rfl, ⟨k + 1, hkl, (List.cons.inj hr).2, ?_⟩, (Keep.of_ext HX.out).trans (keep_set R 1 w1 _)⟩
    have hb3 : Blk w1 R #[.string (St s), .int .i64 k, .bool r2.bad] 39 := by
      have := HBB.out
      rw [HB2.out.1] at this
      rw [HB2.out.2]; exact this
    exact hb3.set 1 (.int .i64 ((k : Int) + 1))
  | false =>
    rw [hi] at HT
    have HM : Hid (Tx.mustF b r = ⟨r.rest, true⟩) := Lib.hid (by unfold Tx.mustF; unfold Tx.isF at hi; rw [hi]; rfl)
    clear hi
    go_enter Try.func33, Try.ntmps33
    go_wp2_with fail
    refine HT.out.mono ?_
    rintro e w1 ⟨rfl, hx⟩
    have HX := Lib.hid hx; clear hx
    obtain ⟨k, hk, hr, hb⟩ := H.out.ext HX.out
    have c2 := hb.cell 2 (v := .bool r.bad) rfl
    have f2 := hb.fz 2
    have l1 := hb.lt
    have HBB := Lib.hid hb
    have HR := Lib.hid hr
    clear hb hr
    go_wp2_with fail
    first | go_end0 | refine bodyPost_ret (results_none rfl _ _ _) rfl ?_
    rw [HM.out]
    exact ⟨rfl, ⟨k, hk, HR.out, HBB.out.set 2 (.bool true)⟩, (Keep.of_ext HX.out).trans (keep_set R 2 w1 _)⟩

theorem lexLe_eq : ∀ a b : List UInt8, Tx.lexLe a b = (Op.bytesLess a b || a == b)
  | [], [] => rfl
  | [], _ :: _ => rfl
  | _ :: _, [] => rfl
  | x :: a, y :: b => by
    unfold Tx.lexLe Op.bytesLess
    rw [lexLe_eq a b, Bool.eq_iff_iff]
    simp only [Bool.or_eq_true, Bool.and_eq_true, decide_eq_true_eq, beq_iff_eq, List.cons.injEq, UInt8.lt_iff_toNat_lt, ← UInt8.toNat_inj]
    constructor
    · rintro (h | ⟨h, h2 | h2⟩)
      · exact .inl (.inl h)
      · exact .inl (.inr ⟨h, h2⟩)
      · exact .inr ⟨h, h2⟩
    · rintro ((h | ⟨h, h2⟩) | ⟨h, h2⟩)
      · exact .inl h
      · exact .inr ⟨h, .inl h2⟩
      · exact .inr ⟨h, .inr h2⟩

set_option maxHeartbeats 1000000 in
theorem fits_any (d most : List UInt8) (w : World) (h1 : d.length ≤ 1000000) (h2 : most.length ≤ 1000000) :
    Calls Try.prog 45 #[.string (St d), .string (St most)] w fun e w' => e = .returned (.bool (Tx.fitsB d most)) ∧ w' = w := by
  have HF := Lib.hid (show Tx.fitsB d most = if decide (1 < d.length) && (d.head? == some 48) then false else decide (d.length < most.length) || (decide (d.length = most.length) && Tx.lexLe d most) from rfl)
  have hrest : (decide (1 < d.length) && (d.head? == some 48)) = false → Hid (Tx.fitsB d most = (decide (d.length < most.length) || (decide (d.length = most.length) && Tx.lexLe d most))) := fun h => Lib.hid (by rw [HF.out, h]; rfl)
  have HREST := Lib.hid hrest; clear hrest
  by_cases hl : 1 < d.length
  · have h0 : 0 < d.length := by omega
    have hh : d.head? = some d[0] := by cases d with
      | nil => simp at h0
      | cons c t => rfl
    by_cases hz : d[0] = 48
    · have hv : ((d[0].toNat : Int) == 48) = true := by rw [hz]; rfl
      have HT : Hid (Tx.fitsB d most = false) := Lib.hid (by rw [HF.out, hh, hz]; simp [hl])
      clear hz hh HF HREST
      go_enter Try.func45, Try.ntmps45
      go_wp2_with fail
      go_ret
      exact ⟨ret_bool HT.out.symm, rfl⟩
    · have hv : ((d[0].toNat : Int) == 48) = false := by
        rw [beq_eq_false_iff_ne]
        intro e; apply hz
        apply UInt8.toNat_inj.1
        have : d[0].toNat = 48 := by omega
        rw [this]; rfl
      have HT := HREST.out (by rw [hh, Bool.and_eq_false_iff]; right; rw [beq_eq_false_iff_ne]; simpa using hz)
      clear hz hh HF HREST
      rcases Nat.lt_trichotomy d.length most.length with h | h | h
      · have HU : Hid (Tx.fitsB d most = true) := Lib.hid (by rw [HT.out]; simp [h])
        clear HT
        go_enter Try.func45, Try.ntmps45
        go_wp2_with fail
        go_ret
        exact ⟨ret_bool HU.out.symm, rfl⟩
      · have HU : Hid (Tx.fitsB d most = (Op.bytesLess d most || d == most)) := Lib.hid (by rw [HT.out, lexLe_eq]; simp [h])
        have e1 : ((d.length : Int) == (most.length : Int)) = true := by rw [h]; simp
        have e2 : decide (d.length < most.length) = false := by simp; omega
        have e3 : decide ((d.length : Int) < (most.length : Int)) = false := by simp; omega
        clear HT h
        go_enter Try.func45, Try.ntmps45
        go_wp2_with fail
        go_ret
        exact ⟨ret_bool HU.out.symm, rfl⟩
      · have HU : Hid (Tx.fitsB d most = false) := Lib.hid (by rw [HT.out]; simp; exact ⟨by omega, fun e => by omega⟩)
        have e1 : ((d.length : Int) == (most.length : Int)) = false := by rw [beq_eq_false_iff_ne]; omega
        have e2 : decide (d.length < most.length) = false := by simp; omega
        have e3 : decide ((d.length : Int) < (most.length : Int)) = false := by simp; omega
        clear HT
        go_enter Try.func45, Try.ntmps45
        go_wp2_with fail
        go_ret
        exact ⟨ret_bool HU.out.symm, rfl⟩
  · have HT := HREST.out (by rw [Bool.and_eq_false_iff]; left; simpa using hl)
    clear HF HREST
    rcases Nat.lt_trichotomy d.length most.length with h | h | h
    · have HU : Hid (Tx.fitsB d most = true) := Lib.hid (by rw [HT.out]; simp [h])
      clear HT
      go_enter Try.func45, Try.ntmps45
      go_wp2_with fail
      go_ret
      exact ⟨ret_bool HU.out.symm, rfl⟩
    · have HU : Hid (Tx.fitsB d most = (Op.bytesLess d most || d == most)) := Lib.hid (by rw [HT.out, lexLe_eq]; simp [h])
      have e1 : ((d.length : Int) == (most.length : Int)) = true := by rw [h]; simp
      have e2 : decide (d.length < most.length) = false := by simp; omega
      have e3 : decide ((d.length : Int) < (most.length : Int)) = false := by simp; omega
      clear HT h
      go_enter Try.func45, Try.ntmps45
      go_wp2_with fail
      go_ret
      exact ⟨ret_bool HU.out.symm, rfl⟩
    · have HU : Hid (Tx.fitsB d most = false) := Lib.hid (by rw [HT.out]; simp; exact ⟨by omega, fun e => by omega⟩)
      have e1 : ((d.length : Int) == (most.length : Int)) = false := by rw [beq_eq_false_iff_ne]; omega
      have e2 : decide (d.length < most.length) = false := by simp; omega
      have e3 : decide ((d.length : Int) < (most.length : Int)) = false := by simp; omega
      clear HT
      go_enter Try.func45, Try.ntmps45
      go_wp2_with fail
      go_ret
      exact ⟨ret_bool HU.out.symm, rfl⟩

end Go.Proofs.Ytkhagpnnkfglbaa
