/-
  text's reader: numbers.
-/
import Derived.Test.YtkhagpnnkfglbaaTxRd2
namespace Go.Proofs.Ytkhagpnnkfglbaa
open Go.RowKit

theorem takeF_rest {b : UInt8} {r : Tx.Rd} (h : (Tx.takeF b r).1 = true) : (Tx.takeF b r).2.bad = false := (Tx.takeF_back (r' := (Tx.takeF b r).2) (by rw [← h])).2

theorem ret_int {k : IntKind} {a b : Int} (h : a = b) : Ending.returned (.int k a) = .returned (.int k b) := by rw [h]
theorem negu (v : Nat) (h : v ≤ 9223372036854775808) : wrap64 (IntKind.u64.wrap (-(v : Int))) = -(v : Int) := by
  unfold wrap64
  simp [IntKind.wrap, IntKind.bits, IntKind.signed]; omega

theorem digGo_le (M : Nat) : ∀ (l : List UInt8) (n x : Nat), x ≤ M → (Tx.digGo M l n x).1 ≤ M := by
  intro l
  induction l with
  | nil => intro n x h; exact h
  | cons c t ih =>
    intro n x h
    rw [Tx.digGo_cons]
    split
    · split
      · exact Nat.zero_le _
      · exact ih _ _ (by omega)
    · exact h
theorem digitsF_le (M : Nat) (r : Tx.Rd) : (Tx.digitsF M r).1 ≤ M := by
  unfold Tx.digitsF
  split
  · exact Nat.zero_le _
  · exact digGo_le M _ _ _ (Nat.zero_le _)

set_option maxHeartbeats 400000 in
theorem uint_any (w : World) (R : Nat) (s : List UInt8) (r : Tx.Rd) (h : RdAt w R s r) (hs : s.length ≤ 1000000) :
    Calls Try.prog 29 #[.pointer (some ⟨R, 0, none⟩)] w (RdPost w R s (Tx.uintF r).2 (.int .u64 (Tx.uintF r).1)) := by
  have hd := rdigits_rd Tx.m64 w R s r (by decide) (by decide) h hs 18446744073709551615 rfl
  have HD := Lib.hid hd; clear hd
  have HE := Lib.hid (show Tx.uintF r = (((Tx.digitsF Tx.m64 r).1 : Int), (Tx.digitsF Tx.m64 r).2) from rfl)
  go_enter Try.func29, Try.ntmps29
  go_wp2_with fail
  refine HD.out.mono ?_
  rintro e w1 ⟨rfl, hr, hk⟩
  have HR := Lib.hid hr
  have HK := Lib.hid hk
  clear hr hk
  go_wp2_with fail
  go_ret
  rw [HE.out]
  exact ⟨rfl, HR.out, HK.out⟩

set_option maxRecDepth 100000 in
set_option maxHeartbeats 1000000 in
theorem int_any (w : World) (R : Nat) (s : List UInt8) (r : Tx.Rd) (h : RdAt w R s r) (hs : s.length ≤ 1000000) :
    Calls Try.prog 27 #[.pointer (some ⟨R, 0, none⟩)] w (RdPost w R s (Tx.intF r).2 (.int .i64 (Tx.intF r).1)) := by
  have ht := take_any 45 45 w R s r rfl h hs
  have HT := Lib.hid ht; clear ht
  cases h1 : (Tx.takeF 45 r).1 with
  | false =>
    have h2 : (Tx.takeF 45 r).2 = r := Tx.takeF_false (b := 45) (r := r) (by rw [← h1])
    have HE : Hid (Tx.intF r = (((Tx.digitsF Tx.m63 r).1 : Int), (Tx.digitsF Tx.m63 r).2)) := Lib.hid (by unfold Tx.intF; rw [h1]; rfl)
    rw [h1, h2] at HT
    have hle := digitsF_le Tx.m63 r
    have hle' : (Tx.digitsF Tx.m63 r).1 ≤ 9223372036854775807 := hle
    clear h h1 h2 hle
    go_enter Try.func27, Try.ntmps27
    go_wp2_with fail
    refine HT.out.mono ?_
    rintro e w1 ⟨rfl, hr, hk⟩
    have hd := rdigits_rd Tx.m63 w1 R s r (by decide) (by decide) hr hs 9223372036854775807 rfl
    have HD := Lib.hid hd; clear hd
    have HK := Lib.hid hk
    clear hr hk
    generalize Tx.digitsF Tx.m63 r = p at *
    obtain ⟨v, r2⟩ := p
    simp only at hle' HD HE
    go_wp2_with fail
    refine HD.out.mono ?_
    rintro e w2 ⟨rfl, hr, hk⟩
    have HR := Lib.hid hr
    have HK2 := Lib.hid (HK.out.trans hk)
    clear hr hk
    go_wp2_with fail
    go_ret
    rw [HE.out]
    exact ⟨rfl, HR.out, HK2.out⟩
  | true =>
    have hb2 := takeF_rest h1
    have HE : Hid (Tx.intF r = (if (Tx.takeF 45 r).2.rest.head? = some 48 then (0, ⟨(Tx.takeF 45 r).2.rest, true⟩) else (-((Tx.digitsF (Tx.m63 + 1) (Tx.takeF 45 r).2).1 : Int), (Tx.digitsF (Tx.m63 + 1) (Tx.takeF 45 r).2).2))) := Lib.hid (by
      show (if (Tx.takeF 45 r).1 = true then _ else _) = _
      rw [if_pos h1])
    rw [h1] at HT
    generalize (Tx.takeF 45 r).2 = r1 at *
    clear h h1
    go_enter Try.func27, Try.ntmps27
    go_wp2_with fail
    refine HT.out.mono ?_
    rintro e w1 ⟨rfl, hr, hk⟩
    have hnx := next_any w1 R s r1 hr hs
    have HNX := Lib.hid hnx; clear hnx
    have HR1 := Lib.hid hr
    have HK := Lib.hid hk
    clear hr hk
    by_cases hz : r1.rest.head? = some 48
    · have HE2 : Hid (Tx.intF r = (0, ⟨r1.rest, true⟩)) := Lib.hid (by rw [HE.out, if_pos hz])
      have hv : hdv r1.rest = 48 := by
        cases hrr : r1.rest with
        | nil => rw [hrr] at hz; cases hz
        | cons c t => rw [hrr] at hz; simp at hz; subst hz; rfl
      rw [hv] at HNX
      clear hz hv HE
      go_wp2_with fail
      refine HNX.out.mono ?_
      rintro e w2 ⟨rfl, hx⟩
      have HX := Lib.hid hx; clear hx
      obtain ⟨k, hk, hrk, hb⟩ := HR1.out.ext HX.out
      have c2 := hb.cell 2 rfl
      have f2 := hb.fz 2
      have hlt := hb.lt
      have HB := Lib.hid hb
      have HRK := Lib.hid hrk
      clear hb hrk
      go_wp2_with fail
      go_ret
      rw [HE2.out]
      exact ⟨rfl, ⟨k, hk, HRK.out, HB.out.set 2 (.bool true)⟩, HK.out.trans ((Keep.of_ext HX.out).trans (keep_set R 2 w2 _))⟩
    · have HE2 : Hid (Tx.intF r = (-((Tx.digitsF (Tx.m63 + 1) r1).1 : Int), (Tx.digitsF (Tx.m63 + 1) r1).2)) := Lib.hid (by rw [HE.out, if_neg hz])
      have hv : (hdv r1.rest == 48) = false := by
        rw [beq_eq_false_iff_ne]
        intro e
        cases hrr : r1.rest with
        | nil => rw [hrr] at e; cases e
        | cons c t =>
          rw [hrr] at e hz
          apply hz
          have : c.toNat = 48 := by have : (c.toNat : Int) = 48 := e; omega
          simp only [List.head?_cons, Option.some.injEq]
          exact UInt8.toNat_inj.1 this
      have hle := digitsF_le (Tx.m63 + 1) r1
      have hle' : (Tx.digitsF (Tx.m63 + 1) r1).1 ≤ 9223372036854775808 := hle
      generalize hdv r1.rest = y at *
      clear hz HE hle
      go_wp2_with fail
      refine HNX.out.mono ?_
      rintro e w2 ⟨rfl, hx⟩
      have HK2 := Lib.hid (HK.out.trans (Keep.of_ext hx))
      have hd := rdigits_rd (Tx.m63 + 1) w2 R s r1 (by decide) (by decide) (HR1.out.ext hx) hs 9223372036854775808 rfl
      have HD := Lib.hid hd; clear hd hx
      generalize Tx.digitsF (Tx.m63 + 1) r1 = p at *
      obtain ⟨v, r2⟩ := p
      simp only at hle' HD HE2
      have HN := Lib.hid (negu v hle')
      go_wp2_with fail
      refine HD.out.mono ?_
      rintro e w3 ⟨rfl, hr, hk⟩
      have HR := Lib.hid hr
      have HK3 := Lib.hid (HK2.out.trans hk)
      clear hr hk
      go_wp2_with fail
      go_ret
      rw [HE2.out]
      exact ⟨ret_int HN.out, HR.out, HK3.out⟩

end Go.Proofs.Ytkhagpnnkfglbaa
