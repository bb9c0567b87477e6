/-
  plan.give and plan.fits, walked.
-/
import Derived.Test.YtcfbcffmlinlaaaDoorPlDig
namespace Go.Proofs.YtcfbcffmlinlaaaDoor
open Go.RowKit

/-- It gives up, and says why. -/
def Gave (e : Int) (x : Ending) : Prop := x = .panicked [{ v := .iface 28 (.int .i64 e), recovered := false }]

theorem give_ok (e : Int) (w : World) : Calls Tryd.prog 23 #[.bool true, .int .i64 e] w fun x w' => x = .returned (.tuple #[]) ∧ w = w' := by
  go_enter Tryd.func23, Tryd.ntmps23
  go_wp2
  go_end0
  exact ⟨rfl, rfl⟩

theorem give_no (e : Int) (w : World) : Calls Tryd.prog 23 #[.bool false, .int .i64 e] w fun x w' => Gave e x ∧ w = w' := by
  go_enter Tryd.func23, Tryd.ntmps23
  go_wp2
  unfold Gave
  exact ⟨rfl, rfl, rfl⟩

theorem fits_ok (x most : Int) (w : World) (h0 : 0 ≤ x) (h1 : x ≤ most) (hm : most ≤ 1000000) :
    Calls Tryd.prog 56 #[.int .u64 x, .int .i64 most] w fun e w' => e = .returned (.int .i64 x) ∧ w = w' := by
  have hd : decide (x ≤ most) = true := decide_eq_true h1
  have hm0 : 0 ≤ most := by omega
  go_enter Tryd.func56, Tryd.ntmps56
  go_wp2_with fail
  refine (give_ok 10 _).mono ?_
  rintro e w' ⟨rfl, rfl⟩
  go_wp2_with fail
  go_ret
  exact ⟨rfl, rfl⟩

theorem fits_no (x most : Int) (w : World) (h0 : 0 ≤ x) (h1 : most < x) (hx : x ≤ 18446744073709551615) (hm0 : 0 ≤ most) (hm : most ≤ 1000000) :
    Calls Tryd.prog 56 #[.int .u64 x, .int .i64 most] w fun e w' => Gave 10 e ∧ w = w' := by
  have hd : decide (x ≤ most) = false := decide_eq_false (by omega)
  go_enter Tryd.func56, Tryd.ntmps56
  go_wp2_with fail
  refine (give_no 10 _).mono ?_
  rintro e w' ⟨hg, rfl⟩
  unfold Gave at hg
  subst hg
  exact ⟨rfl, rfl, rfl⟩

end Go.Proofs.YtcfbcffmlinlaaaDoor
