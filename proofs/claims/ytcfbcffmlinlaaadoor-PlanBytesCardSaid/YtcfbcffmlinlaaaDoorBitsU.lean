/-
  Bits of words of 64 bits: the low seven, and one above them.
-/
import Derived.WalkKit
namespace Go.Proofs.YtcfbcffmlinlaaaDoor

theorem wraps_u64 (n : Int) (h0 : 0 ≤ n) (h1 : n < 2 ^ 64) : IntKind.u64.wrap n = n := by rw [IntKind.wrap_u64]; omega

theorem u64_and127 (y : Int) (h0 : 0 ≤ y) (h1 : y < 18446744073709551616) : bits .and .u64 y 127 = y % 128 :=
  bits_mask .u64 64 (by decide) wraps_u64 7 (by decide) y h0 h1

theorem nat_or128 (a : Nat) (h : a < 128) : a ||| 128 = a + 128 := by
  have := Nat.two_pow_add_eq_or_of_lt (i := 7) (b := a) h 1
  have e : (2 : Nat) ^ 7 * 1 = 128 := by decide
  rw [e] at this
  rw [Nat.or_comm, ← this, Nat.add_comm]

theorem u64_or128 (m : Int) (h0 : 0 ≤ m) (h1 : m < 128) : bits .or .u64 m 128 = 128 + m := by
  obtain ⟨a, rfl⟩ := Int.eq_ofNat_of_zero_le h0
  have := bits_or_u64_nat a 128 (by omega) (by decide)
  have e : ((128 : Nat) : Int) = 128 := rfl
  rw [e] at this
  rw [this, nat_or128 a (by omega)]; omega

end Go.Proofs.YtcfbcffmlinlaaaDoor
