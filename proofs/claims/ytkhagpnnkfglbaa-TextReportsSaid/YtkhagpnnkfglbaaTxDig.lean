/-
  text's digits.
-/
import Derived.Test.YtkhagpnnkfglbaaChecked
import Derived.Test.YtkhagpnnkfglbaaStr
import Derived.Test.YtkhagpnnkfglbaaTxPure
import Derived.Outline
namespace Go.Proofs.Ytkhagpnnkfglbaa
open Go.RowKit

theorem enc_ch (n : Int) (h0 : 0 ≤ n) (h1 : n < 10) : Utf8.encode (48 + n) = St [Tx.ch n.toNat] := by
  rw [enc_small (48 + n) (by omega) (by omega), show (48 + n).toNat = 48 + n.toNat by omega]; rfl

theorem digs_len (f : Nat) : ∀ x, (Tx.digs f x).length ≤ f + 1 := by
  induction f with
  | zero => intro x; simp [Tx.digs]
  | succ f ih =>
    intro x
    unfold Tx.digs
    split
    · simp
    · have := ih (x / 10); simp; omega

set_option maxHeartbeats 400000 in
theorem digits_any (x : Int) (w : World) (h0 : 0 ≤ x) (h1 : x ≤ 18446744073709551615) :
    Calls Try.prog 41 #[.int .u64 x] w fun e w' => e = .returned (.string (St (Tx.digs 20 x.toNat))) ∧ w' = w := by
  go_enter Try.func41, Try.ntmps41
  go_wp2
  go_loop [0, 3] (fun a s => ∃ (y : Int) (t : List UInt8), 0 ≤ y ∧ y ≤ 18446744073709551615 ∧ a = .int .u64 y ∧ s = .string (St t) ∧ t.length ≤ 21 ∧ Hid (Tx.digs 20 x.toNat = Tx.digs 20 y.toNat ++ t)) (fun a _ => (intOf a).toNat)
  case atStart => exact ⟨x, [], h0, h1, rfl, rfl, by simp, Lib.hid (by simp)⟩
  case round =>
    obtain ⟨y, t, hy0, hy1, rfl, rfl, ht, HD⟩ := hrel
    have hl : (Tx.digs 20 x.toNat).length ≤ 21 := digs_len 20 _
    by_cases hlt : 10 ≤ y
    · have he := enc_ch (y % 10) (by omega) (by omega)
      go_wp2
      go_round
      case rel =>
        have hd := HD.out
        rw [Tx.digs_big (x := y.toNat) (by omega) (Tx.big21 (by omega)), List.append_assoc, show y.toNat / 10 = (y / 10).toNat by omega, show y.toNat % 10 = (y % 10).toNat by omega] at hd
        refine ⟨y / 10, [Tx.ch (y % 10).toNat] ++ t, by omega, by omega, rfl, rfl, ?_, Lib.hid hd⟩
        rw [hd, List.length_append] at hl
        omega
      case measure => simp [intOf]; omega
    · have he := enc_ch y (by omega) (by omega)
      have hd := HD.out
      rw [Tx.digs_small (x := y.toNat) (by omega)] at hd
      have HE := Lib.hid hd; clear hd
      go_wp2
      go_ret
      have hd := HE.out
      exact ⟨ret_str (by rw [hd]; rfl), rfl⟩

end Go.Proofs.Ytkhagpnnkfglbaa
