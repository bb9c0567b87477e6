/-
  The law's own event, whose line is known.
-/
import Derived.Test.YtkhagpnnkfglbaaTxRead
import Derived.Test.YtkhagpnnkfglbaaTxSame
import Derived.Test.YtkhagpnnkfglbaaTxEvt2
namespace Go.Proofs.Ytkhagpnnkfglbaa
open Go.RowKit

abbrev zero8 : Array Value := #[.int .i64 0, .int .i64 0, .int .i64 0, .int .i64 0, .int .i64 0, .int .u64 0, .slice none 0 0, .slice none 0 0]
abbrev aggE (e : Tx.Evt) (m : EvM) : Value := .agg #[.int .i64 e.call, .int .i64 e.inv, .int .i64 e.resp, .int .i64 e.steps, .int .i64 e.err, .int .u64 e.val, .slice m.la e.list.length m.lc, .slice m.ka e.key.length m.kc]

theorem read_yes (s : List UInt8) (e : Tx.Evt) (w : World) (hs : s.length ≤ 1000000) (h : Tx.readE ⟨s, false⟩ = (e, ⟨[], false⟩)) :
    Calls Try.prog 12 #[.string (St s)] w fun x w' => ∃ la lc ka kc, x = .returned (.tuple #[.agg #[.int .i64 e.call, .int .i64 e.inv, .int .i64 e.resp, .int .i64 e.steps, .int .i64 e.err, .int .u64 e.val, .slice la e.list.length lc, .slice ka e.key.length kc], .int .i64 0, .bool true]) ∧ EvAt e ⟨la, lc, ka, kc⟩ w' ∧ Ext w w' := by
  refine (tread_any s w hs).mono ?_
  rintro x w' ⟨hx, ⟨-, la, lc, ka, kc, h1, h2, h3⟩ | ⟨h1, -⟩⟩
  · rw [h] at h1 h2 h3
    exact ⟨la, lc, ka, kc, h1, ⟨h2, h3⟩, hx⟩
  · rw [h] at h1; cases h1

theorem read_no (s : List UInt8) (k : Nat) (w : World) (hs : s.length ≤ 1000000) (h : Tx.okRd (Tx.readE ⟨s, false⟩).2 = false) (hk : (Tx.readE ⟨s, false⟩).2.rest.length + k = s.length) :
    Calls Try.prog 12 #[.string (St s)] w fun x w' => x = .returned (.tuple #[.agg #[.int .i64 0, .int .i64 0, .int .i64 0, .int .i64 0, .int .i64 0, .int .u64 0, .slice none 0 0, .slice none 0 0], .int .i64 k, .bool false]) ∧ Ext w w' := by
  refine (tread_any s w hs).mono ?_
  rintro x w' ⟨hx, ⟨h1, -⟩ | ⟨h1, j, hj, hd, he⟩⟩
  · rw [h] at h1; cases h1
  · have := congrArg List.length hd
    rw [List.length_drop] at this
    obtain rfl : j = k := by omega
    exact ⟨he, hx⟩

def ev3 : Tx.Evt := ⟨3, 1, 4, 2, 0, 5, [], [8, 2]⟩
theorem ev3_fit : EvFit ev3 := by
  refine ⟨?_, by decide, by decide⟩
  unfold Tx.Evt.ok Tx.i64 Tx.u64 ev3
  refine ⟨by decide, by decide, by decide, by decide, by decide, by decide, by simp, ?_⟩
  intro x hx
  simp at hx
  rcases hx with rfl | rfl <;> decide
theorem ev3_line : Tx.evT ev3 = [51, 32, 49, 32, 52, 32, 50, 32, 48, 32, 53, 32, 91, 93, 32, 91, 56, 32, 50, 93] := by decide +kernel
theorem ev3_read : Tx.readE ⟨[51, 32, 49, 32, 52, 32, 50, 32, 48, 32, 53, 32, 91, 93, 32, 91, 56, 32, 50, 93], false⟩ = (ev3, ⟨[], false⟩) := by decide +kernel
theorem bad3_read : Tx.okRd (Tx.readE ⟨[51, 32, 49, 32, 52, 32, 50, 32, 48, 32, 48, 53], false⟩).2 = false := by decide +kernel
theorem bad3_at : (Tx.readE ⟨[51, 32, 49, 32, 52, 32, 50, 32, 48, 32, 48, 53], false⟩).2.rest.length + 11 = [51, 32, 49, 32, 52, 32, 50, 32, 48, 32, 48, (53 : UInt8)].length := by decide +kernel
theorem call3_line : Tx.callT 1 0 0 7 0 0 = [49, 32, 48, 32, 48, 32, 55, 32, 48, 32, 48] := by decide +kernel

theorem event3 (w : World) (ka : Option Addr) (hk : IsInts .i64 w ka [8, 2]) :
    Calls Try.prog 8 #[.agg #[.int .i64 3, .int .i64 1, .int .i64 4, .int .i64 2, .int .i64 0, .int .u64 5, .slice none 0 0, .slice ka 2 2]] w fun x w' => x = .returned (.string (St [51, 32, 49, 32, 52, 32, 50, 32, 48, 32, 53, 32, 91, 93, 32, 91, 56, 32, 50, 93])) ∧ Ext w w' := by
  have h := tevent_any ev3 ⟨none, 0, ka, 2⟩ w ev3_fit ⟨.inl rfl, hk⟩
  rw [ev3_line] at h
  exact h
theorem call3 (w : World) :
    Calls Try.prog 10 #[.agg #[.int .i64 1, .int .i64 0, .int .i64 0, .int .u64 7, .int .u64 0, .int .u64 0]] w fun x w' => x = .returned (.string (St [49, 32, 48, 32, 48, 32, 55, 32, 48, 32, 48])) ∧ Ext w w' := by
  have h := tcall_any 1 0 0 7 0 0 w ⟨by decide, by decide⟩ ⟨by decide, by decide⟩ ⟨by decide, by decide⟩ ⟨by decide, by decide⟩ ⟨by decide, by decide⟩ ⟨by decide, by decide⟩
  rw [call3_line] at h
  exact h
theorem same3 (w : World) (la : Option Addr) (lc : Nat) (ka : Option Addr) (kc : Nat) (kb : Option Addr) (h1 : EvAt ev3 ⟨la, lc, ka, kc⟩ w) (h2 : IsInts .i64 w kb [8, 2]) :
    Calls Try.prog 14 #[.agg #[.int .i64 3, .int .i64 1, .int .i64 4, .int .i64 2, .int .i64 0, .int .u64 5, .slice la 0 lc, .slice ka 2 kc], .agg #[.int .i64 3, .int .i64 1, .int .i64 4, .int .i64 2, .int .i64 0, .int .u64 5, .slice none 0 0, .slice kb 2 2]] w fun x w' => x = .returned (.bool true) ∧ Ext w w' := by
  have h := same_evt ev3 ev3 ⟨la, lc, ka, kc⟩ ⟨none, 0, kb, 2⟩ w h1 ⟨.inl rfl, h2⟩ (by decide) (by decide) (by decide) (by decide)
  rw [show evB ev3 ev3 = true by decide] at h
  exact h

set_option maxRecDepth 100000 in
set_option maxHeartbeats 2000000 in
theorem three_any (w : World) : Calls Try.prog 7 #[] w fun e w' => e = .returned (.bool true) ∧ Ext w w' := by
  have hk : IsInts .i64 (w.alloc (.cells #[.int .i64 8, .int .i64 2] 3)) (some ⟨w.heap.size, 0, none⟩) [8, 2] := ints_fresh .i64 w [8, 2] _ rfl 3 _ rfl
  go_enter Try.func7, Try.ntmps7
  go_upto_region 2 with (fail)
  have hb : Blk ((w.alloc (.cells #[.int .i64 8, .int .i64 2] 3)).alloc (.cells #[.int .i64 3, .int .i64 1, .int .i64 4, .int .i64 2, .int .i64 0, .int .u64 5, .slice none 0 0, .slice (some ⟨w.heap.size, 0, none⟩) 2 2] 29)) (w.heap.size + 1) #[.int .i64 3, .int .i64 1, .int .i64 4, .int .i64 2, .int .i64 0, .int .u64 5, .slice none 0 0, .slice (some ⟨w.heap.size, 0, none⟩) 2 2] 29 := by
    have := Blk.new (w.alloc (.cells #[.int .i64 8, .int .i64 2] 3)) #[.int .i64 3, .int .i64 1, .int .i64 4, .int .i64 2, .int .i64 0, .int .u64 5, .slice none 0 0, .slice (some ⟨w.heap.size, 0, none⟩) 2 2] 29
    simpa using this
  have hx : Ext w ((w.alloc (.cells #[.int .i64 8, .int .i64 2] 3)).alloc (.cells #[.int .i64 3, .int .i64 1, .int .i64 4, .int .i64 2, .int .i64 0, .int .u64 5, .slice none 0 0, .slice (some ⟨w.heap.size, 0, none⟩) 2 2] 29)) := ((Ext.refl w).alloc _).alloc _
  have HK := Lib.hid (hk.ext ((Ext.refl _).alloc (.cells #[.int .i64 3, .int .i64 1, .int .i64 4, .int .i64 2, .int .i64 0, .int .u64 5, .slice none 0 0, .slice (some ⟨w.heap.size, 0, none⟩) 2 2] 29)))
  have HB := Lib.hid hb
  have HX := Lib.hid hx
  clear hk hb hx
  generalize ((w.alloc (.cells #[.int .i64 8, .int .i64 2] 3)).alloc (.cells #[.int .i64 3, .int .i64 1, .int .i64 4, .int .i64 2, .int .i64 0, .int .u64 5, .slice none 0 0, .slice (some ⟨w.heap.size, 0, none⟩) 2 2] 29)) = W0 at *
  generalize hkb : (some ⟨w.heap.size, 0, none⟩ : Option Addr) = kb at *
  clear hkb
  have hc := read_yes [51, 32, 49, 32, 52, 32, 50, 32, 48, 32, 53, 32, 91, 93, 32, 91, 56, 32, 50, 93] ev3 W0 (by decide) ev3_read
  have HC := Lib.hid hc; clear hc
  go_wp2_with fail
  refine HC.out.mono ?_
  rintro e W1 ⟨la, lc, ka, kc, rfl, hev, hx⟩
  have HEV := Lib.hid hev
  have HX1 := Lib.hid hx
  clear hev hx HC
  unfold ev3
  go_upto_region 3 with (fail)
  have hb2 := Blk.new W1 #[.int .i64 3, .int .i64 1, .int .i64 4, .int .i64 2, .int .i64 0, .int .u64 5, .slice la 0 lc, .slice ka 2 kc] 29
  have hx2 : Ext W1 (W1.alloc (.cells #[.int .i64 3, .int .i64 1, .int .i64 4, .int .i64 2, .int .i64 0, .int .u64 5, .slice la 0 lc, .slice ka 2 kc] 29)) := (Ext.refl W1).alloc _
  have HB2 := Lib.hid hb2
  have HX2 := Lib.hid hx2
  clear hb2 hx2
  generalize W1.alloc (.cells #[.int .i64 3, .int .i64 1, .int .i64 4, .int .i64 2, .int .i64 0, .int .u64 5, .slice la 0 lc, .slice ka 2 kc] 29) = W2 at *
  generalize hB2 : W1.heap.size = B2 at *
  clear hB2
  have hc := read_no [51, 32, 49, 32, 52, 32, 50, 32, 48, 32, 48, 53] 11 W2 (by decide) bad3_read bad3_at
  have HC := Lib.hid hc; clear hc
  go_wp2_with fail
  refine HC.out.mono ?_
  rintro e W3 ⟨rfl, hx⟩
  have HX3 := Lib.hid hx
  clear hx HC
  go_upto_region 4 with (fail)
  have hx4 : Ext W3 (W3.alloc (.cells #[.int .i64 0, .int .i64 0, .int .i64 0, .int .i64 0, .int .i64 0, .int .u64 0, .slice none 0 0, .slice none 0 0] 29)) := (Ext.refl W3).alloc _
  have HX4 := Lib.hid hx4; clear hx4
  generalize W3.alloc (.cells #[.int .i64 0, .int .i64 0, .int .i64 0, .int .i64 0, .int .i64 0, .int .u64 0, .slice none 0 0, .slice none 0 0] 29) = W4 at *
  have hx24 : Ext W2 W4 := HX3.out.trans HX4.out
  have hx04 : Ext W0 W4 := HX1.out.trans (HX2.out.trans hx24)
  have hb := HB.out.ext hx04
  have a0 := hb.cell 0 rfl
  have a1 := hb.cell 1 rfl
  have a2 := hb.cell 2 rfl
  have a3 := hb.cell 3 rfl
  have a4 := hb.cell 4 rfl
  have a5 := hb.cell 5 rfl
  have a6 := hb.cell 6 rfl
  have a7 := hb.cell 7 rfl
  clear hb
  have hc := event3 W4 kb (HK.out.ext hx04)
  have HC := Lib.hid hc; clear hc
  have HX24 := Lib.hid hx24
  have HX04 := Lib.hid hx04
  clear hx24 hx04
  go_wp2_with fail
  refine HC.out.mono ?_
  rintro e W5 ⟨rfl, hx⟩
  have HX5 := Lib.hid hx
  clear hx HC a0 a1 a2 a3 a4 a5 a6 a7
  have hb := HB.out.ext (HX04.out.trans HX5.out)
  have a0 := hb.cell 0 rfl
  have a1 := hb.cell 1 rfl
  have a2 := hb.cell 2 rfl
  have a3 := hb.cell 3 rfl
  have a4 := hb.cell 4 rfl
  have a5 := hb.cell 5 rfl
  have a6 := hb.cell 6 rfl
  have a7 := hb.cell 7 rfl
  clear hb
  have hb := HB2.out.ext (HX24.out.trans HX5.out)
  have b0 := hb.cell 0 rfl
  have b1 := hb.cell 1 rfl
  have b2 := hb.cell 2 rfl
  have b3 := hb.cell 3 rfl
  have b4 := hb.cell 4 rfl
  have b5 := hb.cell 5 rfl
  have b6 := hb.cell 6 rfl
  have b7 := hb.cell 7 rfl
  clear hb
  have hc := same3 W5 la lc ka kc kb (HEV.out.ext (HX2.out.trans (HX24.out.trans HX5.out))) (HK.out.ext (HX04.out.trans HX5.out))
  have HC := Lib.hid hc; clear hc
  go_wp2_with fail
  refine HC.out.mono ?_
  rintro e W6 ⟨rfl, hx⟩
  have HX6 := Lib.hid hx
  clear hx HC a0 a1 a2 a3 a4 a5 a6 a7 b0 b1 b2 b3 b4 b5 b6 b7
  have HC := Lib.hid (call3 W6)
  go_wp2_with fail
  refine HC.out.mono ?_
  rintro e W7 ⟨rfl, hx⟩
  have HX7 := Lib.hid hx
  clear hx HC
  go_wp2_with fail
  go_ret
  exact ⟨rfl, HX.out.trans (HX04.out.trans (HX5.out.trans (HX6.out.trans HX7.out)))⟩

end Go.Proofs.Ytkhagpnnkfglbaa
