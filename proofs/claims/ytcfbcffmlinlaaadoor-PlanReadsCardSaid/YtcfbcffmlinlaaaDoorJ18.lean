/-
  The reference's number that is read.
-/
import Derived.Test.YtcfbcffmlinlaaaDoorJ12
import Derived.Test.YtcfbcffmlinlaaaDoorJ06
set_option linter.unusedVariables false
namespace Go.Proofs.YtcfbcffmlinlaaaDoor
open Go.RowKit

namespace Pl
/-- Digits' number, however great. -/
def dec (x : Nat) : List UInt8 → Nat
  | [] => x
  | c :: t => dec (x * 10 + Tx.dv c) t
theorem dec_snoc (x : Nat) (l : List UInt8) (c : UInt8) : dec x (l ++ [c]) = dec x l * 10 + Tx.dv c := by
  induction l generalizing x with
  | nil => rfl
  | cons d t ih => exact ih _
theorem numGo_dec : ∀ (l : List UInt8) (x v : Nat), numGo l x = some v → dec x l = v
  | [], x, v, h => by
    simp only [numGo, Option.some.injEq] at h; exact h
  | c :: t, x, v, h => by
    rw [numGo_cons] at h
    split at h
    · exact numGo_dec t _ v h
    · cases h
theorem dec_digs {v : Nat} (h : v ≤ 18446744073709551615) : dec 0 (Tx.digs 20 v) = v := numGo_dec _ _ _ (numGo_digs v h)
theorem digs_short (f : Nat) : ∀ (k x : Nat), x < 10 ^ (k + 1) → (Tx.digs f x).length ≤ k + 1 := by
  induction f with
  | zero => intro k x _; simp [Tx.digs]
  | succ f ih =>
    intro k x hx
    unfold Tx.digs
    split
    · simp
    · rename_i h
      cases k with
      | zero => simp at hx; omega
      | succ k =>
        have := ih k (x / 10) (by rw [Nat.pow_succ] at hx; omega)
        simp; omega
theorem digs20 {v : Nat} (h : v ≤ 18446744073709551615) : (Tx.digs 20 v).length ≤ 20 := digs_short 20 19 v (by
  have : (10 : Nat) ^ (19 + 1) = 100000000000000000000 := by decide
  omega)
theorem numP_long {l : List UInt8} (h : 20 < l.length) : numP l = none := by
  cases hn : numP l with
  | none => rfl
  | some v =>
    obtain ⟨e, hv⟩ := numP_back hn
    have := digs20 hv
    rw [← e] at this; omega
theorem numP_bad {l : List UInt8} {c : UInt8} (h : c ∈ l) (hc : Tx.isD c = false) : numP l = none := by
  cases hn : numP l with
  | none => rfl
  | some v =>
    obtain ⟨e, hv⟩ := numP_back hn
    rw [e] at h
    have := Tx.digs_isD 20 v (Tx.big21 (by omega)) c h
    rw [hc] at this; cases this
theorem numP_eq {l : List UInt8} {x : Nat} (h : Tx.digs 20 x = l) (hx : x ≤ 18446744073709551615) : numP l = some x := by rw [← h]; exact numP_digs hx
theorem numP_ne {l : List UInt8} {x : Nat} (hx : x = dec 0 l % 18446744073709551616) (h : Tx.digs 20 x ≠ l) : numP l = none := by
  cases hn : numP l with
  | none => rfl
  | some v =>
    obtain ⟨e, hv⟩ := numP_back hn
    refine absurd ?_ h
    have : dec 0 l = v := by rw [e]; exact dec_digs hv
    rw [hx, this, Nat.mod_eq_of_lt (by omega)]; exact e.symm
end Pl

theorem wrap_mod (n : Int) : IntKind.u64.wrap n = n % 18446744073709551616 := by
  simp [IntKind.wrap, IntKind.bits, IntKind.signed]

/-- What value answers. -/
def ValPost (l : List UInt8) (e : Ending) : Prop :=
  match Pl.numP l with
  | some v => e = .returned (.tuple #[.int .u64 v, .bool true])
  | none => ∃ y : Int, 0 ≤ y ∧ y ≤ 18446744073709551615 ∧ e = .returned (.tuple #[.int .u64 y, .bool false])
theorem ValPost.no {l : List UInt8} {e : Ending} {y : Int} (h : Pl.numP l = none) (h0 : 0 ≤ y) (h1 : y ≤ 18446744073709551615) (he : e = .returned (.tuple #[.int .u64 y, .bool false])) : ValPost l e := by
  unfold ValPost; rw [h]; exact ⟨y, h0, h1, he⟩
theorem ValPost.yes {l : List UInt8} {e : Ending} {v : Nat} (h : Pl.numP l = some v) (he : e = .returned (.tuple #[.int .u64 v, .bool true])) : ValPost l e := by
  unfold ValPost; rw [h]; exact he

/-- How far the number is read. -/
def ValAt (l : List UInt8) (i : Nat) (x : Int) : Prop := x = (Pl.dec 0 (l.take i) : Int) % 18446744073709551616

set_option maxRecDepth 100000 in
set_option maxHeartbeats 4000000 in
theorem value_any (l : List UInt8) (w : World) (hl : l.length ≤ 1000000) :
    Calls Tryd.prog 46 #[.string (St l)] w fun e w' => ValPost l e ∧ Ext w w' := by
  go_enter Tryd.func46, Tryd.ntmps46
  go_wp2_with fail
  go_loop [4, 8] (fun u v => ∃ (i : Nat) (x : Int), i ≤ l.length ∧ i ≤ 20 ∧ v = .int .i64 (i : Int) ∧ u = .int .u64 x ∧ 0 ≤ x ∧ x ≤ 18446744073709551615 ∧ Hid (ValAt l i x)) (fun _ v => l.length - (intOf v).toNat)
  case atStart => exact ⟨0, 0, Nat.zero_le _, by omega, rfl, rfl, by omega, by omega, Lib.hid rfl⟩
  case round =>
    obtain ⟨i, x, hi, hi20, rfl, rfl, hx0, hx1, HV⟩ := hrel
    by_cases hlt : i < l.length
    · have hmem : l[i] ∈ l := List.getElem_mem hlt
      have hts : l.take (i + 1) = l.take i ++ [l[i]] := List.take_succ_eq_append_getElem hlt
      have HV2 : Hid (Tx.isD l[i] = true → ∀ y : Int, y = ((x * 10) + ((l[i].toNat : Int) - 48)) % 18446744073709551616 → ValAt l (i + 1) y) := Lib.hid (fun hd y hy => by
        have hv := HV.out
        unfold ValAt at hv ⊢
        rw [hts, Pl.dec_snoc, hy, hv]
        unfold Tx.isD at hd
        simp only [Bool.and_eq_true, decide_eq_true_eq] at hd
        unfold Tx.dv
        omega)
      have HB : Hid (Tx.isD l[i] = false → Pl.numP l = none) := Lib.hid (fun h => Pl.numP_bad hmem h)
      clear hmem hts HV
      have hdn := UInt8.toNat_lt l[i]
      unfold Tx.isD at HV2 HB
      by_cases hA : l[i].toNat < 48
      · have HN : Hid (Pl.numP l = none) := Lib.hid (HB.out (by simp; omega))
        have hd1 : decide ((l[i].toNat : Int) < 48) = true := decide_eq_true (by omega)
        clear HV2 HB hdn
        go_wp2_with fail
        go_ret2
        exact ⟨.no HN.out (by decide) (by decide) rfl, Ext.refl _⟩
      · by_cases hB : 57 < l[i].toNat
        · have HN : Hid (Pl.numP l = none) := Lib.hid (HB.out (by simp; omega))
          have hd1 : decide ((l[i].toNat : Int) < 48) = false := decide_eq_false (by omega)
          have hd2 : decide ((57 : Int) < (l[i].toNat : Int)) = true := decide_eq_true (by omega)
          clear HV2 HB hdn
          go_wp2_with fail
          go_ret2
          exact ⟨.no HN.out (by decide) (by decide) rfl, Ext.refl _⟩
        · have hd1 : decide ((l[i].toNat : Int) < 48) = false := decide_eq_false (by omega)
          have hd2 : decide ((57 : Int) < (l[i].toNat : Int)) = false := decide_eq_false (by omega)
          have hA1 : 48 ≤ l[i].toNat := by omega
          have hA2 : l[i].toNat ≤ 57 := by omega
          have HV3 := Lib.hid (HV2.out (by simp; omega))
          clear hA hB hdn HV2 HB
          by_cases h20 : i = 20
          · have HN : Hid (Pl.numP l = none) := Lib.hid (Pl.numP_long (by omega))
            have hd3 : decide ((20 : Int) ≤ (i : Int)) = true := decide_eq_true (by omega)
            have hd4 : decide (20 ≤ i) = true := decide_eq_true (by omega)
            clear h20
            go_wp2_with fail
            go_ret2
            exact ⟨.no HN.out (by decide) (by decide) rfl, Ext.refl _⟩
          · have hd3 : decide ((20 : Int) ≤ (i : Int)) = false := decide_eq_false (by omega)
            have hd4 : decide (20 ≤ i) = false := decide_eq_false (by omega)
            go_wp2_with fail
            go_round
            case rel => exact ⟨i + 1, _, by omega, by omega, by go_num, rfl, by rw [wrap_mod]; omega, by rw [wrap_mod]; omega, Lib.hid (HV3.out _ (by simp only [wrap_mod]; omega))⟩
            case measure => simp [intOf]; omega
    · obtain rfl : i = l.length := by omega
      have hx : x = (Pl.dec 0 l : Int) % 18446744073709551616 := by have := HV.out; unfold ValAt at this; rwa [List.take_length] at this
      have HX := Lib.hid (show x.toNat = Pl.dec 0 l % 18446744073709551616 by omega)
      have HXX := Lib.hid (show ((x.toNat : Nat) : Int) = x by omega)
      clear hx HV
      by_cases h0 : 0 < l.length
      · have hd1 : decide ((0 : Int) < (l.length : Int)) = true := decide_eq_true (by omega)
        by_cases he : Tx.digs 20 x.toNat = l
        · have HN := Lib.hid (Pl.numP_eq he (by omega))
          have HE := Lib.hid he
          clear he
          go_wp2_with fail
          refine (rdigits_any x _ hx0 hx1).mono ?_
          rintro e w2 ⟨rfl, hx2⟩
          rw [HE.out]
          have HX2 := Lib.hid hx2
          clear hx2
          go_wp2_with fail
          go_ret2
          exact ⟨.yes HN.out (by rw [HXX.out]; rfl), HX2.out⟩
        · have HN := Lib.hid (Pl.numP_ne HX.out he)
          have he2 : (Tx.digs 20 x.toNat == l) = false := beq_eq_false_iff_ne.2 he
          clear he
          go_wp2_with fail
          refine (rdigits_any x _ hx0 hx1).mono ?_
          rintro e w2 ⟨rfl, hx2⟩
          have HX2 := Lib.hid hx2
          clear hx2
          go_wp2_with fail
          go_ret2
          exact ⟨.no HN.out hx0 hx1 rfl, HX2.out⟩
      · have hd1 : decide ((0 : Int) < (l.length : Int)) = false := decide_eq_false (by omega)
        have HN : Hid (Pl.numP l = none) := Lib.hid (by
          obtain rfl : l = [] := List.length_eq_zero_iff.1 (by omega)
          rfl)
        go_wp2_with fail
        go_ret2
        exact ⟨.no HN.out hx0 hx1 rfl, Ext.refl _⟩

end Go.Proofs.YtcfbcffmlinlaaaDoor
