/-
  The reference's Ahead; keys that lie in memory; the closure by which Order compares.
-/
import Derived.Test.YthkfplkajlanoaaWCmp
import Derived.Test.YthkfplkajlanoaaSeq
namespace Go.Proofs.Ythkfplkajlanoaa
open Go.RowKit

/-- Does a key stand ahead of another one? -/
def aheadB (a b : List Int) : Bool := decide (cmpK a b < 0)

theorem cmpK_stop (a b : List Int) (i : Nat) (h1 : i ≤ a.length) (h2 : i ≤ b.length) (h : ¬ (i < a.length ∧ i < b.length)) : decide (cmpK (a.drop i) (b.drop i) < 0) = decide (a.length < b.length) := by
  by_cases ha : i < a.length
  · rw [cmpK_over a b i ha (by omega), show decide (a.length < b.length) = false from decide_eq_false (by omega)]; rfl
  · have : i = a.length := by omega
    subst this
    rw [cmpK_end a b (by omega)]
    by_cases hb : a.length < b.length
    · simp [hb]
    · simp [hb]

set_option maxHeartbeats 1000000 in
theorem ahead_any (a b : List Int) (pa : Option Addr) (ca : Nat) (pb : Option Addr) (cb : Nat) (w : World) (ha : IsInts .i64 w pa a) (hb : IsInts .i64 w pb b) (la : a.length ≤ 9223372036854775807) (lb : b.length ≤ 9223372036854775807) :
    Calls Try.prog 7 #[.slice pa a.length ca, .slice pb b.length cb] w fun e w' => e = .returned (.bool (aheadB a b)) ∧ ∃ n, w' = w.drewN n := by
  have HA := Lib.hid ha; clear ha
  have HB := Lib.hid hb; clear hb
  go_enter Try.func7, Try.ntmps7
  go_wp2
  go_loopw [5] (fun k wr => ∃ i : Nat, i ≤ a.length ∧ i ≤ b.length ∧ k = .int .i64 i ∧ Hid (cmpK a b = cmpK (a.drop i) (b.drop i)) ∧ Hid (∃ n, wr = w.drewN n)) (fun k _ => a.length - (intOf k).toNat)
  case atStart => exact ⟨0, Nat.zero_le _, Nat.zero_le _, rfl, Lib.hid rfl, Lib.hid ⟨0, rfl⟩⟩
  case round =>
    obtain ⟨i, hia, hib, rfl, HC, HW⟩ := hrel
    have hwx : Ext w wr := by obtain ⟨n, rfl⟩ := HW.out; exact (Ext.refl w).drewN n
    have HAi := Lib.hid (HA.out.ext hwx)
    have HBi := Lib.hid (HB.out.ext hwx)
    clear hwx
    by_cases hlt : i < a.length ∧ i < b.length
    · obtain ⟨hlt, hlb⟩ := hlt
      obtain ⟨ba, oa, rfl, e1⟩ := HAi.out.at hlt
      obtain ⟨bb, ob, rfl, e2⟩ := HBi.out.at hlb
      have HD := Lib.hid (cmpK_drop a b i hlt hlb)
      generalize nth a i = x at *
      generalize nth b i = y at *
      by_cases hxy : x = y
      · have HC2 : Hid (cmpK a b = cmpK (a.drop (i + 1)) (b.drop (i + 1))) := Lib.hid (by rw [HC.out, HD.out, if_pos (cmp3_zero.2 hxy)])
        have h0 : (x != y) = false := by simp [hxy]
        clear hxy
        go_wp2_with fail
        go_quiet (fail)
        go_wp2_with fail
        go_roundw
        case rel => exact ⟨i + 1, by omega, by omega, by go_num, HC2, Lib.hid (by obtain ⟨n, hn⟩ := HW.out; rw [hn]; exact ⟨n + nq, World.drewN_drewN _ _ _⟩)⟩
        case measure => simp [intOf]; omega
      · have HC2 : Hid (cmpK a b = cmp3 x y) := Lib.hid (by rw [HC.out, HD.out, if_neg (fun h => hxy (cmp3_zero.1 h))])
        have h0 : (x != y) = true := by simp [hxy]
        clear hxy
        go_wp2_with fail
        go_quiet (fail)
        have g1 : (wr.drewN nq).cell? ⟨ba, oa + i, none⟩ = some (.int .i64 x) := e1
        have g2 : (wr.drewN nq).cell? ⟨bb, ob + i, none⟩ = some (.int .i64 y) := e2
        have HW2 : Hid (∃ n, wr.drewN nq = w.drewN n) := Lib.hid (by obtain ⟨n, hn⟩ := HW.out; rw [hn]; exact ⟨n + nq, World.drewN_drewN _ _ _⟩)
        clear e1 e2 HAi HBi HW
        generalize wr.drewN nq = w2 at *
        go_wp2_with fail
        go_quiet (fail)
        go_wp2_with fail
        go_ret
        refine ⟨ret_bool ?_, ?_⟩
        · unfold aheadB; rw [HC2.out, decide_eq_decide.2 cmp3_neg]
        · obtain ⟨n, hn⟩ := HW2.out; rw [hn]; exact ⟨_, World.drewN_drewN _ _ _⟩
    · have HC2 : Hid (aheadB a b = decide (a.length < b.length)) := Lib.hid (by unfold aheadB; rw [HC.out]; exact cmpK_stop a b i hia hib hlt)
      by_cases h1 : i < a.length
      · have hd : decide (i < b.length) = false := decide_eq_false (by omega)
        go_wp2_with fail
        go_ret
        exact ⟨ret_bool (by rw [HC2.out]), HW.out⟩
      · have hd : decide (i < a.length) = false := decide_eq_false (by omega)
        go_wp2_with fail
        go_ret
        exact ⟨ret_bool (by rw [HC2.out]), HW.out⟩

end Go.Proofs.Ythkfplkajlanoaa
