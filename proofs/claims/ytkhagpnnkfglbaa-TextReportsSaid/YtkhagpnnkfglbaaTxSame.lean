/-
  Are two lists alike, two answers, two events?
-/
import Derived.Test.YtkhagpnnkfglbaaTxEvt
namespace Go.Proofs.Ytkhagpnnkfglbaa
open Go.RowKit

theorem ret_bool {a b : Bool} (h : a = b) : Ending.returned (.bool a) = .returned (.bool b) := by rw [h]
theorem bcell' {W w1 : World} (hb : Ext W w1) : (∀ b o, b < W.heap.size → w1.cell? ⟨b, o, none⟩ = W.cell? ⟨b, o, none⟩) ∧ (∀ b o, b < W.heap.size → w1.frozen? ⟨b, o, none⟩ = W.frozen? ⟨b, o, none⟩) :=
  ⟨fun b o h => Below.cell (p := ⟨b, o, none⟩) hb h, fun b o h => Below.frozen (p := ⟨b, o, none⟩) hb h⟩
theorem same_take {a b : List Int} (hl : a.length = b.length) (k : Nat) (h : a.take k = b.take k) (hk : k < a.length) (he : nth a k = nth b k) : a.take (k + 1) = b.take (k + 1) := by
  rw [take_snoc a k hk, take_snoc b k (by omega), h, he]
theorem ne_of_nth {a b : List Int} {k : Nat} (he : nth a k ≠ nth b k) : a ≠ b := fun h => he (by rw [h])
theorem eq_of_take {a b : List Int} (hl : a.length = b.length) (h : a.take a.length = b.take a.length) : a = b := by
  rw [List.take_length, hl, List.take_length] at h; exact h

set_option maxHeartbeats 1000000 in
theorem same_ints (l m : List Int) (a b : Option Addr) (c d : Nat) (w : World) (hl : IsInts .i64 w a l) (hm : IsInts .i64 w b m) (h1 : l.length ≤ 1000000) (h2 : m.length ≤ 1000000) :
    Calls Try.prog 37 #[.slice a l.length c, .slice b m.length d] w fun e w' => e = .returned (.bool (decide (l = m))) ∧ Ext w w' := by
  have HL := Lib.hid hl
  have HM := Lib.hid hm
  clear hl hm
  by_cases hlen : l.length = m.length
  · have HLEN := Lib.hid hlen
    have hne : ((l.length : Int) != (m.length : Int)) = false := by rw [hlen]; simp
    have hm1 : m.length ≤ l.length := by omega
    have hm2 : l.length ≤ m.length := by omega
    clear hlen
    go_enter Try.func37, Try.ntmps37
    go_wp2_with fail
    go_loopw [13] (fun i wr => ∃ k : Nat, k ≤ l.length ∧ i = .int .i64 k ∧ Hid (l.take k = m.take k) ∧ Hid (Ext w wr)) (fun i _ => l.length - (intOf i).toNat)
    case atStart => exact ⟨0, Nat.zero_le _, rfl, Lib.hid rfl, Lib.hid (Ext.refl w)⟩
    case round =>
      obtain ⟨k, hk, rfl, HT, HX⟩ := hrel
      by_cases hlt : k < l.length
      · have hltm : k < m.length := by omega
        obtain ⟨b1, o1, rfl, c1⟩ := (HL.out.ext HX.out).at hlt
        obtain ⟨b2, o2, rfl, c2⟩ := (HM.out.ext HX.out).at hltm
        by_cases he : nth l k = nth m k
        · have hb : (nth l k != nth m k) = false := by rw [he]; simp
          have HN := Lib.hid (same_take HLEN.out k HT.out hlt he)
          clear he
          go_wp2_with fail
          go_quiet (fail)
          go_wp2_with fail
          go_roundw
          case rel => exact ⟨k + 1, by omega, by go_num, HN, Lib.hid (HX.out.drewN _)⟩
          case measure => simp [intOf]; omega
        · have hb : (nth l k != nth m k) = true := by simpa using he
          have HN := Lib.hid (ne_of_nth he)
          clear he
          go_wp2_with fail
          go_quiet (fail)
          go_wp2_with fail
          go_ret
          exact ⟨ret_bool (decide_eq_false HN.out).symm, HX.out.drewN _⟩
      · obtain rfl : k = l.length := by omega
        have HN := Lib.hid (eq_of_take HLEN.out HT.out)
        go_wp2_with fail
        go_ret
        exact ⟨ret_bool (decide_eq_true HN.out).symm, HX.out⟩
  · have hne : ((l.length : Int) != (m.length : Int)) = true := by rw [bne_iff_ne]; omega
    have HN : Hid (¬ l = m) := Lib.hid (fun h => hlen (by rw [h]))
    clear hlen
    go_enter Try.func37, Try.ntmps37
    go_wp2_with fail
    go_ret
    exact ⟨ret_bool (decide_eq_false HN.out).symm, Ext.refl w⟩

set_option maxHeartbeats 1000000 in
theorem same_u64s (l m : List Int) (a b : Option Addr) (c d : Nat) (w : World) (hl : IsInts .u64 w a l) (hm : IsInts .u64 w b m) (h1 : l.length ≤ 1000000) (h2 : m.length ≤ 1000000) :
    Calls Try.prog 46 #[.slice a l.length c, .slice b m.length d] w fun e w' => e = .returned (.bool (decide (l = m))) ∧ Ext w w' := by
  have HL := Lib.hid hl
  have HM := Lib.hid hm
  clear hl hm
  by_cases hlen : l.length = m.length
  · have HLEN := Lib.hid hlen
    have hne : ((l.length : Int) != (m.length : Int)) = false := by rw [hlen]; simp
    have hm1 : m.length ≤ l.length := by omega
    have hm2 : l.length ≤ m.length := by omega
    clear hlen
    go_enter Try.func46, Try.ntmps46
    go_wp2_with fail
    go_loopw [13] (fun i wr => ∃ k : Nat, k ≤ l.length ∧ i = .int .i64 k ∧ Hid (l.take k = m.take k) ∧ Hid (Ext w wr)) (fun i _ => l.length - (intOf i).toNat)
    case atStart => exact ⟨0, Nat.zero_le _, rfl, Lib.hid rfl, Lib.hid (Ext.refl w)⟩
    case round =>
      obtain ⟨k, hk, rfl, HT, HX⟩ := hrel
      by_cases hlt : k < l.length
      · have hltm : k < m.length := by omega
        obtain ⟨b1, o1, rfl, c1⟩ := (HL.out.ext HX.out).at hlt
        obtain ⟨b2, o2, rfl, c2⟩ := (HM.out.ext HX.out).at hltm
        by_cases he : nth l k = nth m k
        · have hb : (nth l k != nth m k) = false := by rw [he]; simp
          have HN := Lib.hid (same_take HLEN.out k HT.out hlt he)
          clear he
          go_wp2_with fail
          go_quiet (fail)
          go_wp2_with fail
          go_roundw
          case rel => exact ⟨k + 1, by omega, by go_num, HN, Lib.hid (HX.out.drewN _)⟩
          case measure => simp [intOf]; omega
        · have hb : (nth l k != nth m k) = true := by simpa using he
          have HN := Lib.hid (ne_of_nth he)
          clear he
          go_wp2_with fail
          go_quiet (fail)
          go_wp2_with fail
          go_ret
          exact ⟨ret_bool (decide_eq_false HN.out).symm, HX.out.drewN _⟩
      · obtain rfl : k = l.length := by omega
        have HN := Lib.hid (eq_of_take HLEN.out HT.out)
        go_wp2_with fail
        go_ret
        exact ⟨ret_bool (decide_eq_true HN.out).symm, HX.out⟩
  · have hne : ((l.length : Int) != (m.length : Int)) = true := by rw [bne_iff_ne]; omega
    have HN : Hid (¬ l = m) := Lib.hid (fun h => hlen (by rw [h]))
    clear hlen
    go_enter Try.func46, Try.ntmps46
    go_wp2_with fail
    go_ret
    exact ⟨ret_bool (decide_eq_false HN.out).symm, Ext.refl w⟩

/-- Are two answers alike? -/
def ansB (e1 v1 : Int) (l1 : List Int) (e2 v2 : Int) (l2 : List Int) : Bool := decide (e1 = e2 ∧ v1 = v2 ∧ l1 = l2)

set_option maxHeartbeats 1000000 in
theorem same_ans (e1 v1 : Int) (l1 : List Int) (a1 : Option Addr) (c1 : Nat) (e2 v2 : Int) (l2 : List Int) (a2 : Option Addr) (c2 : Nat) (w : World) (h1 : IsInts .u64 w a1 l1) (h2 : IsInts .u64 w a2 l2) (n1 : l1.length ≤ 1000000) (n2 : l2.length ≤ 1000000) :
    Calls Try.prog 36 #[.agg #[.int .i64 e1, .int .u64 v1, .slice a1 l1.length c1], .agg #[.int .i64 e2, .int .u64 v2, .slice a2 l2.length c2]] w fun e w' => e = .returned (.bool (ansB e1 v1 l1 e2 v2 l2)) ∧ Ext w w' := by
  have H1 := Lib.hid h1
  have H2 := Lib.hid h2
  clear h1 h2
  have HA := Lib.hid (show ansB e1 v1 l1 e2 v2 l2 = decide (e1 = e2 ∧ v1 = v2 ∧ l1 = l2) from rfl)
  by_cases he : e1 = e2
  · have be : (e1 == e2) = true := by simpa using he
    by_cases hv : v1 = v2
    · have bv : (v1 == v2) = true := by simpa using hv
      have HV : Hid (ansB e1 v1 l1 e2 v2 l2 = decide (l1 = l2)) := Lib.hid (by rw [HA.out, he, hv]; simp)
      clear he hv HA
      go_enter Try.func36, Try.ntmps36
      go_wp2_with fail
      refine (same_u64s l1 l2 a1 a2 c1 c2 _ ((H1.out.ext ((Ext.refl _).alloc _)).ext ((Ext.refl _).alloc _)) ((H2.out.ext ((Ext.refl _).alloc _)).ext ((Ext.refl _).alloc _)) n1 n2).mono ?_
      rintro e w' ⟨rfl, hx⟩
      have HX := Lib.hid hx; clear hx
      go_wp2_with fail
      go_ret
      exact ⟨ret_bool HV.out.symm, (((Ext.refl _).alloc _).alloc _).trans HX.out⟩
    · have bv : (v1 == v2) = false := by simpa using hv
      have HV : Hid (ansB e1 v1 l1 e2 v2 l2 = false) := Lib.hid (by rw [HA.out]; simp [hv])
      clear he hv HA
      go_enter Try.func36, Try.ntmps36
      go_wp2_with fail
      go_ret
      exact ⟨ret_bool HV.out.symm, ((Ext.refl _).alloc _).alloc _⟩
  · have be : (e1 == e2) = false := by simpa using he
    have HV : Hid (ansB e1 v1 l1 e2 v2 l2 = false) := Lib.hid (by rw [HA.out]; simp [he])
    clear he HA
    go_enter Try.func36, Try.ntmps36
    go_wp2_with fail
    go_ret
    exact ⟨ret_bool HV.out.symm, ((Ext.refl _).alloc _).alloc _⟩

/-- Are two events alike? -/
def evB (a b : Tx.Evt) : Bool := decide (a = b)

set_option maxRecDepth 100000 in
set_option maxHeartbeats 2000000 in
theorem same_evt (a b : Tx.Evt) (m n : EvM) (w : World) (h1 : EvAt a m w) (h2 : EvAt b n w) (n1 : a.list.length ≤ 1000000) (n2 : b.list.length ≤ 1000000) (n3 : a.key.length ≤ 1000000) (n4 : b.key.length ≤ 1000000) :
    Calls Try.prog 14 #[.agg #[.int .i64 a.call, .int .i64 a.inv, .int .i64 a.resp, .int .i64 a.steps, .int .i64 a.err, .int .u64 a.val, .slice m.la a.list.length m.lc, .slice m.ka a.key.length m.kc],
      .agg #[.int .i64 b.call, .int .i64 b.inv, .int .i64 b.resp, .int .i64 b.steps, .int .i64 b.err, .int .u64 b.val, .slice n.la b.list.length n.lc, .slice n.ka b.key.length n.kc]] w fun e w' => e = .returned (.bool (evB a b)) ∧ Ext w w' := by
  obtain ⟨la, lc, ka, kc⟩ := m
  obtain ⟨lb, ld, kb, kd⟩ := n
  obtain ⟨a0, a1, a2, a3, a4, a5, a6, a7⟩ := a
  obtain ⟨b0, b1, b2, b3, b4, b5, b6, b7⟩ := b
  simp only at h1 h2 n1 n2 n3 n4 ⊢
  have H1 := Lib.hid h1
  have H2 := Lib.hid h2
  clear h1 h2
  have HA : Hid (evB ⟨a0, a1, a2, a3, a4, a5, a6, a7⟩ ⟨b0, b1, b2, b3, b4, b5, b6, b7⟩ = (decide (a0 = b0) && (decide (a1 = b1) && (decide (a2 = b2) && (decide (a3 = b3) && (ansB a4 a5 a6 b4 b5 b6 && decide (a7 = b7))))))) := Lib.hid (by
    unfold evB ansB
    rw [Bool.eq_iff_iff]
    simp only [Tx.Evt.mk.injEq, decide_eq_true_eq, Bool.and_eq_true]
    constructor
    · rintro ⟨h0, h1, h2, h3, h4, h5, h6, h7⟩; exact ⟨h0, h1, h2, h3, ⟨h4, h5, h6⟩, h7⟩
    · rintro ⟨h0, h1, h2, h3, ⟨h4, h5, h6⟩, h7⟩; exact ⟨h0, h1, h2, h3, h4, h5, h6, h7⟩)
  by_cases e0 : a0 = b0
  · have d0 : (a0 == b0) = true := by simpa using e0
    by_cases e1 : a1 = b1
    · have d1 : (a1 == b1) = true := by simpa using e1
      by_cases e2 : a2 = b2
      · have d2 : (a2 == b2) = true := by simpa using e2
        by_cases e3 : a3 = b3
        · have d3 : (a3 == b3) = true := by simpa using e3
          have HV : Hid (evB ⟨a0, a1, a2, a3, a4, a5, a6, a7⟩ ⟨b0, b1, b2, b3, b4, b5, b6, b7⟩ = (ansB a4 a5 a6 b4 b5 b6 && decide (a7 = b7))) := Lib.hid (by rw [HA.out]; simp [e0, e1, e2, e3])
          clear e0 e1 e2 e3 HA
          go_enter Try.func14, Try.ntmps14
          go_wp2_with fail
          refine (same_ans a4 a5 a6 la lc b4 b5 b6 lb ld _ (H1.out.ext (((Ext.refl _).alloc _).alloc _)).list (H2.out.ext (((Ext.refl _).alloc _).alloc _)).list n1 n2).mono ?_
          rintro e w' ⟨rfl, hx⟩
          have HX := Lib.hid ((((Ext.refl _).alloc _).alloc _ : Ext w _).trans hx)
          obtain ⟨hcl, -⟩ := bcell' hx
          clear hx
          cases hans : ansB a4 a5 a6 b4 b5 b6 with
          | true =>
            rw [hans] at HV
            go_wp2_with fail
            refine (same_ints a7 b7 ka kb kc kd _ (H1.out.ext HX.out).key (H2.out.ext HX.out).key n3 n4).mono ?_
            rintro e w'' ⟨rfl, hx⟩
            have HX2 := Lib.hid (HX.out.trans hx); clear hx
            go_wp2_with fail
            go_ret
            exact ⟨ret_bool (by rw [HV.out]; rfl), HX2.out⟩
          | false =>
            rw [hans] at HV
            go_wp2_with fail
            go_ret
            exact ⟨ret_bool (by rw [HV.out]; rfl), HX.out⟩
        · have d3 : (a3 == b3) = false := by simpa using e3
          have HV : Hid (evB ⟨a0, a1, a2, a3, a4, a5, a6, a7⟩ ⟨b0, b1, b2, b3, b4, b5, b6, b7⟩ = false) := Lib.hid (by rw [HA.out]; simp [e3])
          clear e0 e1 e2 e3 HA
          go_enter Try.func14, Try.ntmps14
          go_wp2_with fail
          go_ret
          exact ⟨ret_bool HV.out.symm, ((Ext.refl _).alloc _).alloc _⟩
      · have d2 : (a2 == b2) = false := by simpa using e2
        have HV : Hid (evB ⟨a0, a1, a2, a3, a4, a5, a6, a7⟩ ⟨b0, b1, b2, b3, b4, b5, b6, b7⟩ = false) := Lib.hid (by rw [HA.out]; simp [e2])
        clear e0 e1 e2 HA
        go_enter Try.func14, Try.ntmps14
        go_wp2_with fail
        go_ret
        exact ⟨ret_bool HV.out.symm, ((Ext.refl _).alloc _).alloc _⟩
    · have d1 : (a1 == b1) = false := by simpa using e1
      have HV : Hid (evB ⟨a0, a1, a2, a3, a4, a5, a6, a7⟩ ⟨b0, b1, b2, b3, b4, b5, b6, b7⟩ = false) := Lib.hid (by rw [HA.out]; simp [e1])
      clear e0 e1 HA
      go_enter Try.func14, Try.ntmps14
      go_wp2_with fail
      go_ret
      exact ⟨ret_bool HV.out.symm, ((Ext.refl _).alloc _).alloc _⟩
  · have d0 : (a0 == b0) = false := by simpa using e0
    have HV : Hid (evB ⟨a0, a1, a2, a3, a4, a5, a6, a7⟩ ⟨b0, b1, b2, b3, b4, b5, b6, b7⟩ = false) := Lib.hid (by rw [HA.out]; simp [e0])
    clear e0 HA
    go_enter Try.func14, Try.ntmps14
    go_wp2_with fail
    go_ret
    exact ⟨ret_bool HV.out.symm, ((Ext.refl _).alloc _).alloc _⟩

end Go.Proofs.Ytkhagpnnkfglbaa
