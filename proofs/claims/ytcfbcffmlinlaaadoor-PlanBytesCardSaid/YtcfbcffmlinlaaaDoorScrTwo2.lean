/-
  script's reader: the next two bytes' number.
-/
import Derived.Test.YtcfbcffmlinlaaaDoorScrRd
namespace Go.Proofs.YtcfbcffmlinlaaaDoor
open Go.RowKit

theorem pTwo_byte (l : List Int) : pTwo l = match pByte l with
    | none => none
    | some (h, r) => match pByte r with
      | none => none
      | some (x, r) => some (256 * h + x, r) := by
  match l with
  | [] => rfl
  | [_] => rfl
  | _ :: _ :: _ => rfl

theorem byte_next {l : List Int} {j j1 : Nat} {x : Int} (h : pByte (l.drop j) = some (x, l.drop j1)) (hle : j1 ≤ l.length) (hb : ∀ b ∈ l, byteOk b) : j1 = j + 1 ∧ j < l.length ∧ x = nth l j ∧ byteOk x := by
  by_cases hj : j < l.length
  · rw [pByte_some hj] at h
    simp only [Option.some.injEq, Prod.mk.injEq] at h
    obtain ⟨h1, h2⟩ := h
    have := congrArg List.length h2
    rw [List.length_drop, List.length_drop] at this
    exact ⟨by omega, hj, h1.symm, by rw [← h1]; exact hb _ (nth_mem l j hj)⟩
  · rw [pByte_none hj] at h; cases h

theorem i64_or256 (x y : Int) (hx0 : 0 ≤ x) (hx1 : x ≤ 255) (hy0 : 0 ≤ y) (hy1 : y ≤ 255) : bits .or .i64 (x * 256) y = 256 * x + y := by
  rw [bits_join .i64 63 (by decide) (fun n h0 h1 => by rw [IntKind.wrap_i64]; omega) 8 (x * 256) y (by omega) (by omega) (by omega) hy0 (by omega) (by omega)]
  omega

set_option maxHeartbeats 1000000 in
theorem two_read (w : World) (R : Nat) (l : List Int) (ba : Option Addr) (bc j : Nat) (h : Rd w R l ba bc j) (hb : ∀ b ∈ l, byteOk b) (hl : l.length ≤ 9223372036854775807) :
    Calls Tryd.prog 50 #[.pointer (some ⟨R, 0, none⟩)] w (ReadPost w R l ba bc (pTwo (l.drop j)) (retInt .i64)) := by
  have HB := Lib.hid hb
  have HP := Lib.hid (pTwo_byte (l.drop j))
  have HC := Lib.hid (byte_any w R l ba bc j h hb hl)
  clear h hb
  go_enter Tryd.func50, Tryd.ntmps50
  go_wp2_with fail
  refine HC.out.mono ?_
  rintro e w1 ⟨hk1, ⟨hn, p, r, rfl, hbad⟩ | ⟨x, j1, hs, rfl, hr1⟩⟩
  · refine ⟨rfl, hk1, .inl ⟨?_, p, r, rfl, hbad⟩⟩
    rw [HP.out, hn]
  · obtain ⟨-, -, -, x0, x1⟩ := byte_next hs hr1.le HB.out
    have HC1 := Lib.hid (byte_any w1 R l ba bc j1 hr1 HB.out hl)
    have HK1 := Lib.hid hk1; clear hk1
    have HS := Lib.hid hs; clear hs
    clear hr1 HC
    go_wp2_with fail
    refine HC1.out.mono ?_
    rintro e w2 ⟨hk2, ⟨hn, p, r, rfl, hbad⟩ | ⟨y, j2, hs, rfl, hr2⟩⟩
    · refine ⟨rfl, HK1.out.trans hk2, .inl ⟨?_, p, r, rfl, hbad⟩⟩
      rw [HP.out, HS.out]; simp only; rw [hn]
    · obtain ⟨-, -, -, y0, y1⟩ := byte_next hs hr2.le HB.out
      have e1 := i64_or256 x y x0 x1 y0 y1
      have HR2 := Lib.hid hr2; clear hr2
      have HK2 := Lib.hid (HK1.out.trans hk2); clear hk2
      have HS2 := Lib.hid hs; clear hs
      go_wp2
      go_ret
      refine ⟨HK2.out, .inr ⟨256 * x + y, j2, ?_, rfl, HR2.out⟩⟩
      rw [HP.out, HS.out]; simp only; rw [HS2.out]

end Go.Proofs.YtcfbcffmlinlaaaDoor
