/-
  plan's digits and lines, walked.
-/
import Derived.Test.YtcfbcffmlinlaaaDoorBase
import Derived.Test.YtcfbcffmlinlaaaDoorStr
import Derived.Test.YtcfbcffmlinlaaaDoorPlPure
import Derived.Test.YtcfbcffmlinlaaaDoorProg
namespace Go.Proofs.YtcfbcffmlinlaaaDoor
open Go.RowKit

theorem enc_ch (n : Int) (h0 : 0 ≤ n) (h1 : n < 10) : Utf8.encode (48 + n) = St [Tx.ch n.toNat] := by
  rw [enc_small (48 + n) (by omega) (by omega), show (48 + n).toNat = 48 + n.toNat by omega]; rfl

theorem digs_len (f : Nat) : ∀ x, (Tx.digs f x).length ≤ f + 1 := by
  induction f with
  | zero => intro x; simp [Tx.digs]
  | succ f ih =>
    intro x
    unfold Tx.digs
    split
    · simp
    · have := ih (x / 10); simp; omega

set_option maxHeartbeats 1000000 in
theorem pdigits_fuel (f : Nat) : ∀ (x : Int) (w : World), 0 ≤ x → x ≤ 18446744073709551615 → x.toNat ≤ f →
    Calls Tryd.prog 39 #[.int .u64 x] w fun e w' => e = .returned (.string (St (Tx.digs 20 x.toNat))) ∧ w = w' := by
  induction f with
  | zero =>
    intro x w h0 h1 hf
    have hx : x = 0 := by omega
    subst hx
    go_enter Tryd.func39, Tryd.ntmps39
    go_wp2
    go_ret
    exact ⟨by first | rfl | decide, rfl⟩
  | succ f ih =>
    intro x w h0 h1 hf
    by_cases hx : x < 10
    · have HD := Lib.hid (Tx.digs_small (x := x.toNat) (by omega))
      have he := enc_ch x h0 hx
      go_enter Tryd.func39, Tryd.ntmps39
      go_wp2
      go_ret
      exact ⟨ret_str (by rw [HD.out]), rfl⟩
    · have HD : Hid (Tx.digs 20 x.toNat = Tx.digs 20 (x / 10).toNat ++ [Tx.ch (x % 10).toNat]) := Lib.hid (by
        rw [Tx.digs_big (x := x.toNat) (by omega) (Tx.big21 (by omega)), show x.toNat / 10 = (x / 10).toNat by omega, show x.toNat % 10 = (x % 10).toNat by omega])
      have he := enc_ch (x % 10) (by omega) (by omega)
      have hl := digs_len 20 (x / 10).toNat
      have HIH := Lib.hid (ih (x / 10) w (by omega) (by omega) (by omega))
      go_enter Tryd.func39, Tryd.ntmps39
      go_wp2_with fail
      refine HIH.out.mono ?_
      rintro e w' ⟨rfl, rfl⟩
      go_wp2_with fail
      go_ret
      exact ⟨ret_str (by rw [HD.out]), rfl⟩

theorem pdigits_any (x : Int) (w : World) (h0 : 0 ≤ x) (h1 : x ≤ 18446744073709551615) :
    Calls Tryd.prog 39 #[.int .u64 x] w fun e w' => e = .returned (.string (St (Tx.digs 20 x.toNat))) ∧ w = w' := pdigits_fuel x.toNat x w h0 h1 (Nat.le_refl _)

theorem numsT_snoc (l : List Int) (i : Nat) (h : i < l.length) : Pl.numsT (l.take (i + 1)) = Pl.numsT (l.take i) ++ 32 :: Pl.dg (nth l i) := by
  unfold Pl.numsT; rw [take_snoc l i h, List.flatMap_append]; simp

theorem numsT_len (l : List Int) : (Pl.numsT l).length ≤ 22 * l.length := by
  induction l with
  | nil => simp [Pl.numsT]
  | cons x l ih =>
    unfold Pl.numsT at *
    have := digs_len 20 x.toNat
    rw [List.flatMap_cons, List.length_append, List.length_cons (a := (32 : UInt8)), List.length_cons]
    unfold Pl.dg at *
    omega

set_option maxHeartbeats 1000000 in
theorem line_any (wd : List UInt8) (l : List Int) (a : Option Addr) (c : Nat) (w : World) (hi : IsInts .u64 w a l) (hg : ∀ x ∈ l, 0 ≤ x ∧ x ≤ 18446744073709551615) (hl : l.length ≤ 100) (hw : wd.length ≤ 100) :
    Calls Tryd.prog 18 #[.string (St wd), .slice a l.length c] w fun e w' => e = .returned (.string (St (Pl.lineT wd l))) ∧ w = w' := by
  have HI := Lib.hid hi
  have HG := Lib.hid hg
  clear hi hg
  go_enter Tryd.func18, Tryd.ntmps18
  go_wp2_with fail
  simp only [lit_St]
  go_loopw [0, 9] (fun u v wr => ∃ i : Nat, i ≤ l.length ∧ v = .int .i64 (i : Int) ∧ u = .string (St (wd ++ Pl.numsT (l.take i))) ∧ Hid (wr = w)) (fun _ v _ => l.length - (intOf v).toNat)
  case atStart => exact ⟨0, Nat.zero_le _, rfl, vs (by simp [Pl.numsT]), Lib.hid rfl⟩
  case round =>
    obtain ⟨i, hil, rfl, rfl, HW⟩ := hrel
    have hnl := numsT_len (l.take i)
    have htl : (l.take i).length ≤ i := List.length_take_le _ _
    by_cases hlt : i < l.length
    · have hcell : IsInts .u64 wr a l := by rw [HW.out]; exact HI.out
      obtain ⟨b, off, rfl, e1⟩ := hcell.at hlt
      obtain ⟨x0, x1⟩ := HG.out _ (nth_mem l i hlt)
      have HS := Lib.hid (numsT_snoc l i hlt)
      generalize Pl.numsT (l.take i) = T at *
      clear hcell
      unfold Pl.dg at HS
      generalize nth l i = x at *
      have hdl := digs_len 20 x.toNat
      go_wp2_with fail
      refine (pdigits_any x _ x0 x1).mono ?_
      rintro e w' ⟨rfl, rfl⟩
      generalize Tx.digs 20 x.toNat = D at *
      go_wp2_with fail
      go_roundw
      case rel => exact ⟨i + 1, by omega, by go_num, vs (by rw [HS.out]; try simp), HW⟩
      case measure => simp [intOf]; omega
    · obtain rfl : i = l.length := by omega
      have HT := Lib.hid (List.take_length (l := l))
      have hnl2 := numsT_len l
      go_wp2_with fail
      go_ret
      exact ⟨ret_str (by unfold Pl.lineT; first | rfl | simp), HW.out.symm⟩

end Go.Proofs.YtcfbcffmlinlaaaDoor
