/-
  The greatest one of numbers: stat.Greatest and what it calls.
-/
import Derived.Test.YtnknlamcdeaacaaWSum
import Derived.Test.YtnknlamcdeaacaaGreat
namespace Go.Proofs.Ytnknlamcdeaacaa
open Go.RowKit

theorem call19 (n : Int) (w : World) : (callFunc 19 #[.int .u64 n]).run Try.prog w = .ok (.value (.float .f64 n.toNat)) w := by
  rw [run_callFunc_extern (P := Try.prog) Try.func19 (by kernel_rfl) (by kernel_rfl) (by kernel_rfl) (e := Extern.MathFloatBits.float64frombits) (by kernel_rfl)]
  rfl
theorem call21 (b : Nat) (w : World) : (callFunc 21 #[.float .f64 b]).run Try.prog w = .ok (.value (.int .u64 b)) w := by
  rw [run_callFunc_extern (P := Try.prog) Try.func21 (by kernel_rfl) (by kernel_rfl) (by kernel_rfl) (e := Extern.MathFloatBits.float64bits) (by kernel_rfl)]
  rfl

set_option maxHeartbeats 400000 in
theorem inf_any (w : World) : Calls Try.prog 16 #[.int .i64 (-1)] w fun e w' => e = .returned (.float .f64 NINF) ∧ w' = w := by
  have h := call19
  go_enter Try.func16, Try.ntmps16
  go_wp2
  go_ret
  exact ⟨rfl, rfl⟩

set_option maxHeartbeats 400000 in
theorem isnan_any (b : Nat) (w : World) : Calls Try.prog 17 #[.float .f64 b] w fun e w' => e = .returned (.bool (nan b)) ∧ w' = w := by
  cases h : nan b
  · have h1 := fo_self b h
    go_enter Try.func17, Try.ntmps17
    go_wp2
    go_ret
    exact ⟨rfl, rfl⟩
  · have h1 := fo_nan b h
    go_enter Try.func17, Try.ntmps17
    go_wp2
    go_ret
    exact ⟨rfl, rfl⟩

set_option maxHeartbeats 400000 in
theorem signbit_any (b : Nat) (w : World) (hb : b < 2 * B63) : Calls Try.prog 20 #[.float .f64 b] w fun e w' => e = .returned (.bool (neg b)) ∧ w' = w := by
  have h := call21
  go_enter Try.func20, Try.ntmps20
  go_wp2
  go_ret
  refine ⟨ret_bool ?_, rfl⟩
  have h0 : 0 < B63 := by decide
  have e : b < 2 * 9223372036854775808 := hb
  unfold neg wrap64
  by_cases hl : b < 9223372036854775808
  · have : b / B63 = 0 := Nat.div_eq_of_lt hl
    rw [this, decide_eq_false (by omega)]; rfl
  · have : b / B63 = 1 := by
      have h1 : 1 ≤ b / B63 := (Nat.le_div_iff_mul_le h0).2 (by have : B63 = 9223372036854775808 := rfl; omega)
      have h2 : b / B63 < 2 := Nat.div_lt_of_lt_mul (by have : B63 = 9223372036854775808 := rfl; omega)
      omega
    rw [this, decide_eq_true (by omega)]; rfl

set_option maxHeartbeats 1000000 in
theorem above_any (a b : Nat) (w : World) (hla : a < 2 * B63) (hlb : b < 2 * B63) :
    Calls Try.prog 18 #[.float .f64 a, .float .f64 b] w fun e w' => e = .returned (.bool (aboveF a b)) ∧ w' = w := by
  have HLA := Lib.hid hla; clear hla
  have HLB := Lib.hid hlb; clear hlb
  cases ha : nan a
  · cases hb : nan b
    · by_cases hk : key b < key a
      · have f1 := fo_gt a b ha hb hk
        have HH : Hid (aboveF a b = true) := Lib.hid (by unfold aboveF; simp [ha, hb, key2_lt_of b a hk])
        clear hk ha hb
        go_enter Try.func18, Try.ntmps18
        go_wp2
        go_ret
        exact ⟨by rw [HH.out]; rfl, rfl⟩
      · by_cases hz : key a = 0 ∧ key b = 0
        · have za := key_zero a HLA.out hz.1
          have zb := key_zero b HLB.out hz.2
          have o0 : FloatKind.f64.format.order 0 0 = some .eq := by decide
          have o1 : FloatKind.f64.format.order B63 0 = some .eq := by decide
          have o2 : FloatKind.f64.format.order 0 B63 = some .eq := by decide
          have o3 : FloatKind.f64.format.order B63 B63 = some .eq := by decide
          clear hk hz ha hb
          rcases za with rfl | rfl <;> rcases zb with rfl | rfl
          all_goals
            go_enter Try.func18, Try.ntmps18
            go_wp2_with (go_at_call 20; refine (signbit_any _ _ (by decide)).mono ?_; rintro e w' ⟨rfl, rfl⟩)
            go_ret
            exact ⟨ret_bool (by decide), rfl⟩
        · have HH : Hid (aboveF a b = false) := Lib.hid (by
            unfold aboveF; simp only [ha, hb, Bool.not_false, Bool.true_and]
            apply decide_eq_false
            by_cases he : key a = key b
            · rw [key2_of_key a b he (by intro h0; exact hz ⟨h0, by omega⟩)]; omega
            · have := key2_lt_of a b (by omega); omega)
          have f1 : FloatKind.f64.format.order a b = some .lt ∨ FloatKind.f64.format.order a b = some .eq := by
            by_cases he : key a = key b
            · exact .inr (fo_same a b ha hb he)
            · exact .inl (fo_lt a b ha hb (by omega))
          have f2 : FloatKind.f64.format.order a 0 = some .lt ∨ FloatKind.f64.format.order a 0 = some .gt ∨ (FloatKind.f64.format.order a 0 = some .eq ∧ (FloatKind.f64.format.order b 0 = some .lt ∨ FloatKind.f64.format.order b 0 = some .gt)) := by
            by_cases h0 : key a = 0
            · exact .inr (.inr ⟨fo_same a 0 ha nan_zero (by rw [key_0]; exact h0), fo_ne b 0 hb nan_zero (by rw [key_0]; intro h1; exact hz ⟨h0, h1⟩)⟩)
            · rcases fo_ne a 0 ha nan_zero (by rw [key_0]; exact h0) with h | h
              · exact .inl h
              · exact .inr (.inl h)
          clear hk hz ha hb
          rcases f1 with f1 | f1 <;> rcases f2 with f2 | f2 | ⟨f2, f3 | f3⟩
          all_goals
            go_enter Try.func18, Try.ntmps18
            go_wp2
            go_ret
            exact ⟨by rw [HH.out]; rfl, rfl⟩
    · have f1 := order_nan_right a b hb
      have f2 := order_nan_left b 0 hb
      have f1' : FloatKind.f64.format.order a b = none := f1
      have f2' : FloatKind.f64.format.order b 0 = none := f2
      have HH : Hid (aboveF a b = false) := Lib.hid (by unfold aboveF; simp [hb])
      have f3 : FloatKind.f64.format.order a 0 = some .eq ∨ FloatKind.f64.format.order a 0 = some .lt ∨ FloatKind.f64.format.order a 0 = some .gt := by
        by_cases h0 : key a = 0
        · exact .inl (fo_same a 0 ha nan_zero (by rw [key_0]; exact h0))
        · exact .inr (fo_ne a 0 ha nan_zero (by rw [key_0]; exact h0))
      clear ha hb f1 f2
      rcases f3 with f3 | f3 | f3
      all_goals
        go_enter Try.func18, Try.ntmps18
        go_wp2
        go_ret
        exact ⟨by rw [HH.out]; rfl, rfl⟩
  · have f1' : FloatKind.f64.format.order a b = none := order_nan_left a b ha
    have f2' : FloatKind.f64.format.order a 0 = none := order_nan_left a 0 ha
    have HH : Hid (aboveF a b = false) := Lib.hid (by unfold aboveF; simp [ha])
    clear ha
    go_enter Try.func18, Try.ntmps18
    go_wp2
    go_ret
    exact ⟨by rw [HH.out]; rfl, rfl⟩

/-- The slice at a reads as these numbers' words. -/
def IsFl (w : World) (a : Option Addr) (bs : List Nat) : Prop :=
  bs = [] ∨ ∃ b off, a = some ⟨b, off, none⟩ ∧ ∀ i, i < bs.length → w.cell? ⟨b, off + i, none⟩ = some (.float .f64 (nthD 0 bs i))

theorem IsFl.ext {w w' : World} {a : Option Addr} {bs : List Nat} (h : IsFl w a bs) (he : Ext w w') : IsFl w' a bs := by
  rcases h with h | ⟨b, off, ha, hc⟩
  · exact .inl h
  · exact .inr ⟨b, off, ha, fun i hi => he.cell (hc i hi)⟩

theorem IsFl.at {w : World} {a : Option Addr} {bs : List Nat} (h : IsFl w a bs) {i : Nat} (hi : i < bs.length) :
    ∃ b off, a = some ⟨b, off, none⟩ ∧ w.cell? ⟨b, off + i, none⟩ = some (.float .f64 (nthD 0 bs i)) := by
  rcases h with rfl | ⟨b, off, ha, hc⟩
  · simp at hi
  · exact ⟨b, off, ha, hc i hi⟩

theorem greatest_drop (bs : List Nat) (j : Nat) (h : j < bs.length) (out : Nat) :
    greatest (bs.drop j) out = if nan (nthD 0 bs j) then nthD 0 bs j else greatest (bs.drop (j + 1)) (if aboveF (nthD 0 bs j) out then nthD 0 bs j else out) := by
  rw [dropD_cons 0 bs j h]; rfl

set_option maxHeartbeats 400000 in
theorem greatest_any (a : Option Addr) (cap : Nat) (bs : List Nat) (w : World) (hs : IsFl w a bs) (hlt : ∀ i, i < bs.length → nthD 0 bs i < 2 * B63) (hlen : bs.length ≤ 100000) :
    Calls Try.prog 13 #[.slice a bs.length cap] w fun e w' => e = .returned (.float .f64 (greatest bs NINF)) ∧ w' = w := by
  have HS := Lib.hid hs; clear hs
  have HL := Lib.hid hlt; clear hlt
  have H0 : Hid (greatest (bs.drop 0) NINF = greatest bs NINF) := Lib.hid (by simp)
  go_enter Try.func13, Try.ntmps13
  go_wp2_with (go_at_call 16; refine (inf_any _).mono ?_; rintro e w' ⟨rfl, rfl⟩)
  go_loop [3, 9] (fun o k => ∃ (j : Nat) (m : Nat), j ≤ bs.length ∧ k = .int .i64 j ∧ o = .float .f64 m ∧ Hid (m < 2 * B63) ∧ Hid (greatest (bs.drop j) m = greatest bs NINF)) (fun _ k => bs.length - (intOf k).toNat)
  case atStart => exact ⟨0, NINF, Nat.zero_le _, rfl, rfl, Lib.hid (by decide), H0⟩
  case round =>
    obtain ⟨j, m, hj, rfl, rfl, HM, HG⟩ := hrel
    by_cases hlt : j < bs.length
    · have H1 := Lib.hid (greatest_drop bs j hlt m)
      obtain ⟨b, off, rfl, hc⟩ := HS.out.at hlt
      have HX := Lib.hid (HL.out j hlt)
      generalize hx : nthD 0 bs j = x at hc H1 HX
      clear hx
      have hab := fun w => above_any x m w HX.out HM.out
      have HA := Lib.hid hab; clear hab
      cases hn : nan x
      · have HN := Lib.hid hn
        cases hu : aboveF x m
        · have HU := Lib.hid hu
          rw [hu] at HA; clear hu
          have hin := isnan_any x
          rw [hn] at hin; clear hn
          have HI := Lib.hid hin; clear hin
          go_wp2_with (first | (go_at_call 17; refine (HI.out _).mono ?_; rintro e w' ⟨rfl, rfl⟩) | (go_at_call 18; refine (HA.out _).mono ?_; rintro e w' ⟨rfl, rfl⟩))
          go_round
          case rel => exact ⟨j + 1, m, by omega, by go_num, rfl, HM, Lib.hid (by rw [← HG.out, H1.out, HN.out, HU.out]; rfl)⟩
          case measure => simp [intOf]; omega
        · have HU := Lib.hid hu
          rw [hu] at HA; clear hu
          have hin := isnan_any x
          rw [hn] at hin; clear hn
          have HI := Lib.hid hin; clear hin
          go_wp2_with (first | (go_at_call 17; refine (HI.out _).mono ?_; rintro e w' ⟨rfl, rfl⟩) | (go_at_call 18; refine (HA.out _).mono ?_; rintro e w' ⟨rfl, rfl⟩))
          go_round
          case rel => exact ⟨j + 1, x, by omega, by go_num, rfl, HX, Lib.hid (by rw [← HG.out, H1.out, HN.out, HU.out]; rfl)⟩
          case measure => simp [intOf]; omega
      · have HN := Lib.hid hn
        have hin := isnan_any x
        rw [hn] at hin; clear hn
        have HI := Lib.hid hin; clear hin
        go_wp2_with (go_at_call 17; refine (HI.out _).mono ?_; rintro e w' ⟨rfl, rfl⟩)
        go_ret
        exact ⟨by rw [← HG.out, H1.out, HN.out]; rfl, rfl⟩
    · go_wp2
      go_ret
      have hje : j = bs.length := by omega
      subst hje
      refine ⟨?_, rfl⟩
      have := HG.out
      rw [List.drop_length] at this
      rw [← this]; rfl

end Go.Proofs.Ytnknlamcdeaacaa
