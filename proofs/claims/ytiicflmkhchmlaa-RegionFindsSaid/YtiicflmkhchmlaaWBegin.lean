/-
  Where a region begins, and whether sizes may be laid: the walks of the reference.
-/
import Derived.Test.YtiicflmkhchmlaaChecked
import Derived.Test.YtiicflmkhchmlaaBase
import Derived.Test.YtiicflmkhchmlaaPlain
namespace Go.Proofs.Ytiicflmkhchmlaa
open Go.RowKit

theorem ret_int {k : IntKind} {a b : Int} (h : a = b) : Ending.returned (.int k a) = .returned (.int k b) := by rw [h]

set_option maxHeartbeats 400000 in
theorem begin_any (a : Option Addr) (cap : Nat) (zs : List Int) (n i : Nat) (w : World) (hn : n = zs.length) (hs : IsInts .i64 w a zs) (hi : i ≤ zs.length) (hlen : zs.length ≤ 1000000)
    (hb : ∀ j, j ≤ zs.length → 0 ≤ sum (zs.take j) ∧ sum (zs.take j) ≤ 65536) :
    Calls Try.prog 8 #[.slice a n cap, .int .i64 i] w fun e w' => e = .returned (.int .i64 (sum (zs.take i))) ∧ w' = w := by
  have HB := Lib.hid hb; clear hb
  have HN := Lib.hid hn; clear hn
  have HS := Lib.hid hs; clear hs
  go_enter Try.func8, Try.ntmps8
  go_wp2
  go_loop [5, 6] (fun o k => ∃ j : Nat, j ≤ i ∧ k = .int .i64 j ∧ o = .int .i64 (sum (zs.take j))) (fun _ k => i - (intOf k).toNat)
  case atStart => exact ⟨0, Nat.zero_le _, rfl, rfl⟩
  case round =>
    obtain ⟨j, hj, rfl, rfl⟩ := hrel
    have b0 := HB.out j (by omega)
    by_cases hlt : j < i
    · have b1 := HB.out (j + 1) (by omega)
      have H1 := Lib.hid (sum_take_succ zs j (by omega))
      rw [H1.out] at b1
      obtain ⟨b, off, rfl, hc⟩ := HS.out.at (i := j) (by omega)
      have hjn : j < n := by have := HN.out; omega
      go_wp2
      go_round
      case rel => exact ⟨j + 1, by omega, by go_num, by rw [H1.out]⟩
      case measure => simp [intOf]; omega
    · go_wp2
      go_ret
      have : j = i := by omega
      subst this
      exact ⟨rfl, rfl⟩

end Go.Proofs.Ytiicflmkhchmlaa
