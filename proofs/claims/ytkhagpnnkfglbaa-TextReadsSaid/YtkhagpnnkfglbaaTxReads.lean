/-
  TextReads, walked.
-/
import Derived.Test.YtkhagpnnkfglbaaTxRRead
import Derived.Test.YtkhagpnnkfglbaaTxThree
import Derived.Outline
namespace Go.Proofs.Ytkhagpnnkfglbaa
open Go.RowKit

theorem evB_self (e : Tx.Evt) : evB e e = true := by unfold evB; simp

/-- Nothing was read by either. -/
theorem same_zero (w : World) :
    Calls Try.prog 14 #[.agg #[.int .i64 0, .int .i64 0, .int .i64 0, .int .i64 0, .int .i64 0, .int .u64 0, .slice none 0 0, .slice none 0 0], .agg #[.int .i64 0, .int .i64 0, .int .i64 0, .int .i64 0, .int .i64 0, .int .u64 0, .slice none 0 0, .slice none 0 0]] w fun x w' => x = .returned (.bool true) ∧ Ext w w' := by
  have h := same_evt Tx.evt0 Tx.evt0 ⟨none, 0, none, 0⟩ ⟨none, 0, none, 0⟩ w ⟨.inl rfl, .inl rfl⟩ ⟨.inl rfl, .inl rfl⟩ (by decide) (by decide) (by decide) (by decide)
  rw [evB_self] at h
  exact h

theorem jn_ge : ∀ ws : List (List UInt8), (∀ x ∈ ws, x ≠ []) → ws.length ≤ (Tx.jn ws).length
  | [], _ => by simp
  | [a], h => by have := List.length_pos_iff.2 (h a List.mem_cons_self); simp [Tx.jn]; omega
  | a :: b :: r, h => by
    have := jn_ge (b :: r) (fun x hx => h x (List.mem_cons_of_mem _ hx))
    have h2 := List.length_pos_iff.2 (h a List.mem_cons_self)
    rw [Tx.jn_cons, List.length_append, List.length_cons (a := (32 : UInt8)), List.length_cons]
    omega
theorem listT_ge (l : List Int) : l.length ≤ (Tx.listT l).length := by
  have := jn_ge (l.map Tx.numT) (fun x hx => by obtain ⟨y, _, rfl⟩ := List.mem_map.1 hx; exact Tx.numT_ne y)
  rw [List.length_map] at this
  unfold Tx.listT
  simp only [List.length_cons, List.length_append]
  omega
theorem evT_ge (e : Tx.Evt) : e.list.length ≤ (Tx.evT e).length ∧ e.key.length ≤ (Tx.evT e).length := by
  have h1 := listT_ge e.list
  have h2 := listT_ge e.key
  rw [Tx.evT_eq]
  simp only [List.length_append, List.length_cons, List.length_nil]
  omega

set_option maxRecDepth 100000 in
set_option maxHeartbeats 2000000 in
theorem reads_any (s : List UInt8) (w : World) (hs : s.length ≤ 9223372036854775807) :
    Calls Try.prog 4 #[.string (St s)] w fun x w' => x = .returned (.bool true) ∧ Ext w w' := by
  by_cases hl : s.length ≤ 5000
  · obtain ⟨hal1, hal2⟩ := Tx.read_alike ⟨s, false⟩
    have hback := Tx.tell_read ⟨s, false⟩
    have HT := Lib.hid (tread_any s w (by omega))
    have HR := fun w' => rread_any s w' (by omega)
    have HRR := Lib.hid HR; clear HR
    generalize hp : Tx.readE ⟨s, false⟩ = p at *
    generalize hq : Tx.rreadE ⟨s, false⟩ = q at *
    obtain ⟨pe, pr⟩ := p
    obtain ⟨qe, qr⟩ := q
    simp only at hal1 hal2
    subst hal1
    cases hok : Tx.okRd qr with
    | false =>
      have HOK := Lib.hid hok
      clear hok hback hal2 hp hq
      go_enter Try.func4, Try.ntmps4
      go_wp2_with fail
      refine HT.out.mono ?_
      rintro e w1 ⟨hx, h1 | ⟨-, k, hk, hd, rfl⟩⟩
      · rw [HOK.out] at h1; cases h1.1
      have HX1 := Lib.hid hx
      have HD := Lib.hid hd
      clear hx hd
      go_upto_region 4 with (fail)
      have hb1 := Blk.new w1 #[.int .i64 0, .int .i64 0, .int .i64 0, .int .i64 0, .int .i64 0, .int .u64 0, .slice none 0 0, .slice none 0 0] 29
      have hx1 : Ext w1 (w1.alloc (.cells #[.int .i64 0, .int .i64 0, .int .i64 0, .int .i64 0, .int .i64 0, .int .u64 0, .slice none 0 0, .slice none 0 0] 29)) := (Ext.refl w1).alloc _
      have HB1 := Lib.hid hb1
      have HX2 := Lib.hid (HX1.out.trans hx1)
      clear hb1 hx1
      generalize w1.alloc (.cells #[.int .i64 0, .int .i64 0, .int .i64 0, .int .i64 0, .int .i64 0, .int .u64 0, .slice none 0 0, .slice none 0 0] 29) = w2 at *
      generalize w1.heap.size = B1 at *
      go_wp2_with fail
      refine (HRR.out w2).mono ?_
      rintro e w3 ⟨hx, la, lc, ka, kc, j, rfl, hj, hdj, hla, hka⟩
      simp only at hdj hla hka
      have hjk : j = k := by
        have h1 := HD.out
        rw [hdj] at h1
        have := congrArg List.length h1
        rw [List.length_drop, List.length_drop] at this
        omega
      subst hjk
      have HX3 := Lib.hid (HX2.out.trans hx)
      have HB3 := Lib.hid (HB1.out.ext hx)
      clear hx hla hka hdj
      simp only [HOK.out, Bool.not_false]
      go_upto_region 5 with (fail)
      have hb4 := Blk.new (w3.alloc (.cells #[.int .i64 qe.call, .int .i64 qe.inv, .int .i64 qe.resp, .int .i64 qe.steps, .int .i64 qe.err, .int .u64 qe.val, .slice la qe.list.length lc, .slice ka qe.key.length kc] 29)) #[.string (St s), .int .i64 j, .bool true] 39
      rw [show (w3.alloc (.cells #[.int .i64 qe.call, .int .i64 qe.inv, .int .i64 qe.resp, .int .i64 qe.steps, .int .i64 qe.err, .int .u64 qe.val, .slice la qe.list.length lc, .slice ka qe.key.length kc] 29)).heap.size = w3.heap.size + 1 by simp] at hb4
      have HB4 := Lib.hid hb4
      have hx4 : Ext w3 ((w3.alloc (.cells #[.int .i64 qe.call, .int .i64 qe.inv, .int .i64 qe.resp, .int .i64 qe.steps, .int .i64 qe.err, .int .u64 qe.val, .slice la qe.list.length lc, .slice ka qe.key.length kc] 29)).alloc (.cells #[.string (St s), .int .i64 j, .bool true] 39)) := ((Ext.refl _).alloc _).alloc _
      have HX4 := Lib.hid (HX3.out.trans hx4)
      have HB5 := Lib.hid (HB3.out.ext hx4)
      clear hb4 hx4
      generalize ((w3.alloc (.cells #[.int .i64 qe.call, .int .i64 qe.inv, .int .i64 qe.resp, .int .i64 qe.steps, .int .i64 qe.err, .int .u64 qe.val, .slice la qe.list.length lc, .slice ka qe.key.length kc] 29)).alloc (.cells #[.string (St s), .int .i64 j, .bool true] 39)) = w4 at *
      generalize w3.heap.size + 1 = B2 at *
      have y1 := HB4.out.cell 1 (v := .int .i64 j) rfl
      have y2 := HB4.out.cell 2 (v := .bool true) rfl
      have x0 := HB5.out.cell 0 rfl
      have x1 := HB5.out.cell 1 rfl
      have x2 := HB5.out.cell 2 rfl
      have x3 := HB5.out.cell 3 rfl
      have x4 := HB5.out.cell 4 rfl
      have x5 := HB5.out.cell 5 rfl
      have x6 := HB5.out.cell 6 rfl
      have x7 := HB5.out.cell 7 rfl
      go_wp2_with fail
      have HS := Lib.hid (same_zero w4)
      refine HS.out.mono ?_
      rintro e w5 ⟨rfl, hx⟩
      have HX5 := Lib.hid (HX4.out.trans hx)
      have z1 := (HB4.out.ext hx).cell 1 (v := .int .i64 j) rfl
      clear hx y1 y2 x0 x1 x2 x3 x4 x5 x6 x7
      have hjj : ((j : Int) == (j : Int)) = true := by simp
      go_wp2_with fail
      refine (three_any w5).mono ?_
      rintro e w6 ⟨rfl, hx⟩
      have HX6 := Lib.hid (HX5.out.trans hx)
      clear hx
      go_wp2_with fail
      go_ret
      exact ⟨rfl, HX6.out⟩
    | true =>
      have hr : qr = ⟨[], false⟩ := by
        unfold Tx.okRd at hok
        cases qr with
        | mk rest bad =>
          simp only [Bool.and_eq_true, Bool.not_eq_true', List.isEmpty_iff] at hok
          rw [hok.1, hok.2]
      subst hr
      have hqe := (Prod.mk.inj (hal2 rfl)).1
      subst hqe
      obtain ⟨hse, hpo⟩ := hback qe rfl
      have hse : s = Tx.evT qe := congrArg Tx.Rd.rest hse
      have hfit : EvFit qe := by
        obtain ⟨h1, h2⟩ := evT_ge qe
        rw [hse] at hl
        exact ⟨hpo, by omega, by omega⟩
      have HFIT := Lib.hid hfit
      have HSE := Lib.hid hse
      clear hok hback hal2 hp hq hse hfit hpo
      go_enter Try.func4, Try.ntmps4
      go_wp2_with fail
      refine HT.out.mono ?_
      rintro e w1 ⟨hx, ⟨-, l1, c1, k1, d1, rfl, hl1, hk1⟩ | h1⟩
      rotate_left
      · have := h1.1; cases this
      have HX1 := Lib.hid hx
      have HE1 := Lib.hid (EvAt.mk (m := ⟨l1, c1, k1, d1⟩) hl1 hk1)
      clear hx hl1 hk1
      simp only
      go_upto_region 4 with (fail)
      have hb1 := Blk.new w1 #[.int .i64 qe.call, .int .i64 qe.inv, .int .i64 qe.resp, .int .i64 qe.steps, .int .i64 qe.err, .int .u64 qe.val, .slice l1 qe.list.length c1, .slice k1 qe.key.length d1] 29
      have hx1 : Ext w1 (w1.alloc (.cells #[.int .i64 qe.call, .int .i64 qe.inv, .int .i64 qe.resp, .int .i64 qe.steps, .int .i64 qe.err, .int .u64 qe.val, .slice l1 qe.list.length c1, .slice k1 qe.key.length d1] 29)) := (Ext.refl w1).alloc _
      have HB1 := Lib.hid hb1
      have HX2 := Lib.hid (HX1.out.trans hx1)
      have HE2 := Lib.hid (HE1.out.ext hx1)
      clear hb1 hx1
      generalize w1.alloc (.cells #[.int .i64 qe.call, .int .i64 qe.inv, .int .i64 qe.resp, .int .i64 qe.steps, .int .i64 qe.err, .int .u64 qe.val, .slice l1 qe.list.length c1, .slice k1 qe.key.length d1] 29) = w2 at *
      generalize w1.heap.size = B1 at *
      go_wp2_with fail
      refine (HRR.out w2).mono ?_
      rintro e w3 ⟨hx, la, lc, ka, kc, j, rfl, hj, hdj, hla, hka⟩
      have HX3 := Lib.hid (HX2.out.trans hx)
      have HB3 := Lib.hid (HB1.out.ext hx)
      have HE3 := Lib.hid (HE2.out.ext hx)
      have HQ3 := Lib.hid (EvAt.mk (m := ⟨la, lc, ka, kc⟩) hla hka)
      clear hx hla hka hdj
      have hoo : Tx.okRd ⟨[], false⟩ = true := rfl
      simp only [hoo, Bool.not_true]
      clear hoo
      go_upto_region 5 with (fail)
      have hb4 := Blk.new (w3.alloc (.cells #[.int .i64 qe.call, .int .i64 qe.inv, .int .i64 qe.resp, .int .i64 qe.steps, .int .i64 qe.err, .int .u64 qe.val, .slice la qe.list.length lc, .slice ka qe.key.length kc] 29)) #[.string (St s), .int .i64 j, .bool false] 39
      rw [show (w3.alloc (.cells #[.int .i64 qe.call, .int .i64 qe.inv, .int .i64 qe.resp, .int .i64 qe.steps, .int .i64 qe.err, .int .u64 qe.val, .slice la qe.list.length lc, .slice ka qe.key.length kc] 29)).heap.size = w3.heap.size + 1 by simp] at hb4
      have hb5 := (Blk.new w3 #[.int .i64 qe.call, .int .i64 qe.inv, .int .i64 qe.resp, .int .i64 qe.steps, .int .i64 qe.err, .int .u64 qe.val, .slice la qe.list.length lc, .slice ka qe.key.length kc] 29).alloc (.cells #[.string (St s), .int .i64 j, .bool false] 39)
      have HB4 := Lib.hid hb4
      have HB5 := Lib.hid hb5
      have hx4 : Ext w3 ((w3.alloc (.cells #[.int .i64 qe.call, .int .i64 qe.inv, .int .i64 qe.resp, .int .i64 qe.steps, .int .i64 qe.err, .int .u64 qe.val, .slice la qe.list.length lc, .slice ka qe.key.length kc] 29)).alloc (.cells #[.string (St s), .int .i64 j, .bool false] 39)) := ((Ext.refl _).alloc _).alloc _
      have HX4 := Lib.hid (HX3.out.trans hx4)
      have HB6 := Lib.hid (HB3.out.ext hx4)
      have HE4 := Lib.hid (HE3.out.ext hx4)
      have HQ4 := Lib.hid (HQ3.out.ext hx4)
      clear hb4 hx4 hb5
      generalize ((w3.alloc (.cells #[.int .i64 qe.call, .int .i64 qe.inv, .int .i64 qe.resp, .int .i64 qe.steps, .int .i64 qe.err, .int .u64 qe.val, .slice la qe.list.length lc, .slice ka qe.key.length kc] 29)).alloc (.cells #[.string (St s), .int .i64 j, .bool false] 39)) = w4 at *
      generalize w3.heap.size + 1 = B2 at *
      generalize w3.heap.size = B3 at *
      have y2 := HB4.out.cell 2 (v := .bool false) rfl
      have x0 := HB6.out.cell 0 rfl
      have x1 := HB6.out.cell 1 rfl
      have x2 := HB6.out.cell 2 rfl
      have x3 := HB6.out.cell 3 rfl
      have x4 := HB6.out.cell 4 rfl
      have x5 := HB6.out.cell 5 rfl
      have x6 := HB6.out.cell 6 rfl
      have x7 := HB6.out.cell 7 rfl
      have z0 := HB5.out.cell 0 rfl
      have z1 := HB5.out.cell 1 rfl
      have z2 := HB5.out.cell 2 rfl
      have z3 := HB5.out.cell 3 rfl
      have z4 := HB5.out.cell 4 rfl
      have z5 := HB5.out.cell 5 rfl
      have z6 := HB5.out.cell 6 rfl
      have z7 := HB5.out.cell 7 rfl
      have hll : qe.list.length ≤ 1000000 := by have := HFIT.out.ll; omega
      have hkl : qe.key.length ≤ 1000000 := by have := HFIT.out.kl; omega
      have hcon := same_evt qe qe ⟨l1, c1, k1, d1⟩ ⟨la, lc, ka, kc⟩ w4 HE4.out HQ4.out hll hll hkl hkl
      rw [evB_self] at hcon
      have HS := Lib.hid hcon
      clear hcon
      go_wp2_with fail
      refine HS.out.mono ?_
      rintro e w5 ⟨rfl, hx⟩
      have HX5 := Lib.hid (HX4.out.trans hx)
      have HB7 := Lib.hid (HB6.out.ext hx)
      have hcon := tevent_any qe ⟨l1, c1, k1, d1⟩ w5 HFIT.out (HE4.out.ext hx)
      rw [← HSE.out] at hcon
      have HT5 := Lib.hid hcon
      clear hx hcon y2 HS x0 x1 x2 x3 x4 x5 x6 x7 z0 z1 z2 z3 z4 z5 z6 z7
      have x0 := HB7.out.cell 0 rfl
      have x1 := HB7.out.cell 1 rfl
      have x2 := HB7.out.cell 2 rfl
      have x3 := HB7.out.cell 3 rfl
      have x4 := HB7.out.cell 4 rfl
      have x5 := HB7.out.cell 5 rfl
      have x6 := HB7.out.cell 6 rfl
      have x7 := HB7.out.cell 7 rfl
      go_wp2_with fail
      refine HT5.out.mono ?_
      rintro e w6 ⟨rfl, hx⟩
      have HX6 := Lib.hid (HX5.out.trans hx)
      clear hx x0 x1 x2 x3 x4 x5 x6 x7 HT5
      have hss : (s == s) = true := by simp
      go_wp2_with fail
      refine (three_any w6).mono ?_
      rintro e w7 ⟨rfl, hx⟩
      have HX7 := Lib.hid (HX6.out.trans hx)
      clear hx
      go_wp2_with fail
      go_ret
      exact ⟨rfl, HX7.out⟩
  · go_enter Try.func4, Try.ntmps4
    go_wp2_with fail
    refine (three_any _).mono ?_
    rintro e w1 ⟨rfl, hx⟩
    have HX := Lib.hid hx; clear hx
    go_wp2_with fail
    go_ret
    exact ⟨rfl, HX.out⟩

end Go.Proofs.Ytkhagpnnkfglbaa
