/-
  text.Report, walked.
-/
import Derived.Test.YtkhagpnnkfglbaaTxRep0
import Derived.StillTailTactics
import Derived.Outline
namespace Go.Proofs.Ytkhagpnnkfglbaa
open Go.RowKit

def evd : Tx.Evt × EvM := (Tx.evt0, ⟨none, 0, none, 0⟩)
def evpCells (p : Tx.Evt × EvM) : List Value := (evCells p.1 p.2).toList
theorem evpCells_len (p : Tx.Evt × EvM) : (evpCells p).length = 8 := rfl
def IsEvs (w : World) (a : Option Addr) (l : List (Tx.Evt × EvM)) : Prop := IsSeq evd 8 evpCells w a l
def IsCls (w : World) (a : Option Addr) (l : List Tx.Cl) : Prop := IsSeq Tx.cl0 6 clCells w a l
theorem IsEvs.ext {w w' : World} {a : Option Addr} {l : List (Tx.Evt × EvM)} (h : IsEvs w a l) (he : Ext w w') : IsEvs w' a l := IsSeq.ext h he
theorem IsCls.ext {w w' : World} {a : Option Addr} {l : List Tx.Cl} (h : IsCls w a l) (he : Ext w w') : IsCls w' a l := IsSeq.ext h he

theorem IsCls.at {w : World} {a : Option Addr} {l : List Tx.Cl} (h : IsCls w a l) {i : Nat} (hi : i < l.length) :
    ∃ b off, a = some ⟨b, off, none⟩ ∧ w.cell? ⟨b, off + i * 6, none⟩ = some (.int .i64 (nthD Tx.cl0 l i).t) ∧ w.cell? ⟨b, off + i * 6 + 1, none⟩ = some (.int .i64 (nthD Tx.cl0 l i).o) ∧
      w.cell? ⟨b, off + i * 6 + 2, none⟩ = some (.int .i64 (nthD Tx.cl0 l i).k) ∧ w.cell? ⟨b, off + i * 6 + 3, none⟩ = some (.int .u64 (nthD Tx.cl0 l i).a) ∧
      w.cell? ⟨b, off + i * 6 + 4, none⟩ = some (.int .u64 (nthD Tx.cl0 l i).b) ∧ w.cell? ⟨b, off + i * 6 + 5, none⟩ = some (.int .u64 (nthD Tx.cl0 l i).c) := by
  obtain ⟨b, off, ha, hc⟩ := IsSeq.at h hi
  exact ⟨b, off, ha, hc 0 (by decide), hc 1 (by decide), hc 2 (by decide), hc 3 (by decide), hc 4 (by decide), hc 5 (by decide)⟩

theorem IsEvs.at {w : World} {a : Option Addr} {l : List (Tx.Evt × EvM)} (h : IsEvs w a l) {i : Nat} (hi : i < l.length) :
    ∃ b off, a = some ⟨b, off, none⟩ ∧ w.cell? ⟨b, off + i * 8, none⟩ = some (.int .i64 (nthD evd l i).1.call) ∧ w.cell? ⟨b, off + i * 8 + 1, none⟩ = some (.int .i64 (nthD evd l i).1.inv) ∧
      w.cell? ⟨b, off + i * 8 + 2, none⟩ = some (.int .i64 (nthD evd l i).1.resp) ∧ w.cell? ⟨b, off + i * 8 + 3, none⟩ = some (.int .i64 (nthD evd l i).1.steps) ∧
      w.cell? ⟨b, off + i * 8 + 4, none⟩ = some (.int .i64 (nthD evd l i).1.err) ∧ w.cell? ⟨b, off + i * 8 + 5, none⟩ = some (.int .u64 (nthD evd l i).1.val) ∧
      w.cell? ⟨b, off + i * 8 + 6, none⟩ = some (.slice (nthD evd l i).2.la (nthD evd l i).1.list.length (nthD evd l i).2.lc) ∧
      w.cell? ⟨b, off + i * 8 + 7, none⟩ = some (.slice (nthD evd l i).2.ka (nthD evd l i).1.key.length (nthD evd l i).2.kc) := by
  obtain ⟨b, off, ha, hc⟩ := IsSeq.at h hi
  exact ⟨b, off, ha, hc 0 (by decide), hc 1 (by decide), hc 2 (by decide), hc 3 (by decide), hc 4 (by decide), hc 5 (by decide), hc 6 (by decide), hc 7 (by decide)⟩

/-- The calls and the events of a report lie there. -/
structure RepAt (cs : List Tx.Cl) (es : List (Tx.Evt × EvM)) (ca ea : Option Addr) (w : World) : Prop where
  calls : IsCls w ca cs
  evs : IsEvs w ea es
  cok : ∀ c ∈ cs, c.ok
  fit : ∀ p ∈ es, EvFit p.1
  lists : ∀ p ∈ es, EvAt p.1 p.2 w
  clen : cs.length ≤ 9223372036854775807
  elen : es.length ≤ 200
theorem RepAt.ext {cs : List Tx.Cl} {es : List (Tx.Evt × EvM)} {ca ea : Option Addr} {w w' : World} (h : RepAt cs es ca ea w) (he : Ext w w') : RepAt cs es ca ea w' :=
  ⟨h.calls.ext he, h.evs.ext he, h.cok, h.fit, fun p hp => (h.lists p hp).ext he, h.clen, h.elen⟩

theorem lines_take (cs : List Tx.Cl) (es : List (Tx.Evt × EvM)) (i : Nat) (h : i < es.length) :
    Tx.linesT cs ((es.take (i + 1)).map (·.1)) = Tx.linesT cs ((es.take i).map (·.1)) ++ Tx.lineT cs (nthD evd es i).1 := by
  rw [takeD_snoc evd es i h, List.map_append]
  exact Tx.linesT_snoc cs _ _
theorem lines_len {cs : List Tx.Cl} {es : List (Tx.Evt × EvM)} (hf : ∀ p ∈ es, EvFit p.1) (i : Nat) : (Tx.linesT cs ((es.take i).map (·.1))).length ≤ 500200 * es.length := by
  have := linesT_len cs ((es.take i).map (·.1)) (fun e he => by obtain ⟨p, hp, rfl⟩ := List.mem_map.1 he; exact hf p (List.take_subset _ _ hp))
  rw [List.length_map, List.length_take] at this
  have h2 : min i es.length ≤ es.length := Nat.min_le_right _ _
  have h3 := Nat.mul_le_mul_left 500200 h2
  omega

theorem Bd.lt {B b : Nat} {l : List UInt8} {w : World} (h : Bd B b l w) : b < w.heap.size := Or.elim h Lib.BuilderAtF.lt Lib.BuilderAtF.lt

set_option maxRecDepth 100000 in
set_option maxHeartbeats 4000000 in
theorem treport_any (cs : List Tx.Cl) (es : List (Tx.Evt × EvM)) (r : Tx.Rep) (ca : Option Addr) (cc : Nat) (ea : Option Addr) (ec : Nat) (wa : Option Addr) (wn wc : Nat) (w : World) (hm : RepAt cs es ca ea w) (hr : r.ok) :
    Calls Try.prog 15 #[.slice ca cs.length cc, .agg #[.slice ea es.length ec, .slice wa wn wc, .int .i64 r.r, .int .i64 r.w, .int .i64 r.s, .int .i64 r.a, .int .i64 r.f, .int .i64 r.ticks, .int .i64 r.idle]] w
      fun x w' => x = .returned (.string (St (Tx.repT cs (es.map (·.1)) r))) ∧ Ext w w' := by
  obtain ⟨⟨r1, r2⟩, ⟨w1, w2⟩, ⟨s1, s2⟩, ⟨a1, a2⟩, ⟨f1, f2⟩, ⟨t1, t2⟩, ⟨i1, i2⟩⟩ := hr
  have hcl := hm.clen
  have hel := hm.elen
  have hb := Blk.new w #[.slice ea es.length ec, .slice wa wn wc, .int .i64 r.r, .int .i64 r.w, .int .i64 r.s, .int .i64 r.a, .int .i64 r.f, .int .i64 r.ticks, .int .i64 r.idle] 49
  have hx0 := (Ext.refl w).alloc (.cells #[.slice ea es.length ec, .slice wa wn wc, .int .i64 r.r, .int .i64 r.w, .int .i64 r.s, .int .i64 r.a, .int .i64 r.f, .int .i64 r.ticks, .int .i64 r.idle] 49)
  have hsz : (w.alloc (.cells #[.slice ea es.length ec, .slice wa wn wc, .int .i64 r.r, .int .i64 r.w, .int .i64 r.s, .int .i64 r.a, .int .i64 r.f, .int .i64 r.ticks, .int .i64 r.idle] 49)).heap.size = w.heap.size + 1 := by simp
  have HM := Lib.hid (hm.ext hx0); clear hm
  go_enter Try.func15, Try.ntmps15
  go_upto_region 1 with (fail)
  generalize w.alloc (.cells #[.slice ea es.length ec, .slice wa wn wc, .int .i64 r.r, .int .i64 r.w, .int .i64 r.s, .int .i64 r.a, .int .i64 r.f, .int .i64 r.ticks, .int .i64 r.idle] 49) = W0 at *
  have HX0 := Lib.hid hx0; clear hx0
  have HB := Lib.hid hb; clear hb
  have hbd := Bd.new W0.heap.size W0 (Nat.le_refl _)
  have hbw : Below W0.heap.size W0 (W0.alloc (.cells #[.pointer none, .slice none 0 0] 76)) := (Ext.refl _).alloc _
  have HBD := Lib.hid hbd; clear hbd
  have HBW := Lib.hid hbw; clear hbw
  have HSZ := Lib.hid hsz; clear hsz
  have hlt0 := HB.out.lt
  generalize w.heap.size = B at *
  have q0 := HB.out.cell 0 (v := .slice ea es.length ec) rfl
  go_wp2_with fail
  simp only [lit_St]
  go_loopw [12] (fun k wr => ∃ i : Nat, i ≤ es.length ∧ k = .int .i64 i ∧ Hid (Bd W0.heap.size W0.heap.size (Tx.linesT cs ((es.take i).map (·.1))) wr) ∧ Hid (Below W0.heap.size W0 wr)) (fun k _ => es.length - (intOf k).toNat)
  case atStart => exact ⟨0, Nat.zero_le _, rfl, HBD, HBW⟩
  case round =>
    obtain ⟨i, hi, rfl, HBi, HWi⟩ := hrel
    have hxi : Ext W0 wr := HWi.out
    have HMi := Lib.hid (HM.out.ext hxi)
    have HBk := Lib.hid (HB.out.ext hxi)
    clear hxi q0
    have q0 := HBk.out.cell 0 (v := .slice ea es.length ec) rfl
    by_cases hlt : i < es.length
    · obtain ⟨b, off, rfl, e0, e1, e2, e3, e4, e5, e6, e7⟩ := HMi.out.evs.at hlt
      have HLN := Lib.hid (lines_take cs es i hlt)
      have hfit := HMi.out.fit _ (nthD_mem evd es i hlt)
      have hat := HM.out.lists _ (nthD_mem evd es i hlt)
      have hll := lines_len (cs := cs) HMi.out.fit i
      have hT := Bd.lt HBi.out
      have hW := HWi.out.size
      generalize Tx.linesT cs ((es.take i).map (·.1)) = L at *
      generalize nthD evd es i = p at *
      obtain ⟨⟨call, inv, resp, steps, err, val, list, key⟩, ⟨la, lc, ka, kc⟩⟩ := p
      simp only at e0 e1 e2 e3 e4 e5 e6 e7
      have HFIT : Hid (EvFit ⟨call, inv, resp, steps, err, val, list, key⟩) := Lib.hid hfit
      have HAT : Hid (EvAt ⟨call, inv, resp, steps, err, val, list, key⟩ ⟨la, lc, ka, kc⟩ W0) := Lib.hid hat
      have hel2 := evT_len _ HFIT.out
      clear hfit hat
      have hb7 := Blk.new wr #[.int .i64 call, .int .i64 inv, .int .i64 resp, .int .i64 steps, .int .i64 err, .int .u64 val, .slice la list.length lc, .slice ka key.length kc] 29
      have hx7 := (Ext.refl wr).alloc (.cells #[.int .i64 call, .int .i64 inv, .int .i64 resp, .int .i64 steps, .int .i64 err, .int .u64 val, .slice la list.length lc, .slice ka key.length kc] 29)
      by_cases hth : 0 ≤ call ∧ call < (cs.length : Int)
      · obtain ⟨h0, h1⟩ := hth
        obtain ⟨k, rfl⟩ := Int.eq_ofNat_of_zero_le h0
        have hk : k < cs.length := by omega
        obtain ⟨b2, off2, rfl, c0, c1, c2, c3, c4, c5⟩ := HMi.out.calls.at hk
        obtain ⟨⟨o1, o2⟩, ⟨o3, o4⟩, ⟨o5, o6⟩, ⟨o7, o8⟩, ⟨o9, o10⟩, ⟨o11, o12⟩⟩ := HMi.out.cok _ (nthD_mem Tx.cl0 cs k hk)
        have HP := Lib.hid (Tx.preT_yes (cs := cs) (e := ⟨k, inv, resp, steps, err, val, list, key⟩) h0 h1)
        simp only [Int.toNat_natCast] at HP
        have hlc := clT_len (nthD Tx.cl0 cs k)
        generalize nthD Tx.cl0 cs k = q at *
        obtain ⟨ct, co, ck, cx, cy, cz⟩ := q
        simp only at c0 c1 c2 c3 c4 c5 o1 o2 o3 o4 o5 o6 o7 o8 o9 o10 o11 o12
        have d0 := hx7.cell c0
        have d1 := hx7.cell c1
        have d2 := hx7.cell c2
        have d3 := hx7.cell c3
        have d4 := hx7.cell c4
        have d5 := hx7.cell c5
        have g0 := hb7.cell 0 (v := .int .i64 (k : Int)) rfl
        clear c0 c1 c2 c3 c4 c5
        have HX7 := Lib.hid hx7; clear hx7
        have HB7 := Lib.hid hb7; clear hb7
        go_upto_region 6 with (fail)
        clear e0 e1 e2 e3 e4 e5 e6 e7
        generalize (wr.alloc (.cells #[.int .i64 (k : Int), .int .i64 inv, .int .i64 resp, .int .i64 steps, .int .i64 err, .int .u64 val, .slice la list.length lc, .slice ka key.length kc] 29)) = W7 at *
        go_wp2_with fail
        refine (tcall_any ct co ck cx cy cz W7 ⟨o1, o2⟩ ⟨o3, o4⟩ ⟨o5, o6⟩ ⟨o7, o8⟩ ⟨o9, o10⟩ ⟨o11, o12⟩).mono ?_
        rintro e w8 ⟨rfl, hx8⟩
        clear d0 d1 d2 d3 d4 d5 g0
        have HX8 := Lib.hid (HX7.out.trans hx8)
        have HB8 := Lib.hid (HB7.out.ext hx8)
        clear hx8
        have hlt8 := HX8.out.size
        have HP2 : Hid (Tx.preT cs ⟨k, inv, resp, steps, err, val, list, key⟩ = Tx.callT ct co ck cx cy cz) := HP
        have hlc2 : (Tx.callT ct co ck cx cy cz).length ≤ 150 := hlc
        clear HP hlc
        generalize Tx.callT ct co ck cx cy cz = ctx at *
        go_wp2_with fail
        refine (write_any W0.heap.size W0.heap.size L ctx w8 (HBi.out.ext HX8.out) (by omega) (by omega) (by omega)).mono ?_
        rintro e w9 ⟨rfl, hbd, hbel, hoth⟩
        have HB9 := Lib.hid (HB8.out.others hoth (by omega) (by decide))
        have HBD9 := Lib.hid hbd
        have HWB9 := Lib.hid ((HWi.out.trans (HX8.out.mono hW)).trans hbel)
        clear hbd hbel hoth HB8
        have f0 := HB9.out.cell 0 rfl
        have f1 := HB9.out.cell 1 rfl
        have f2 := HB9.out.cell 2 rfl
        have f3 := HB9.out.cell 3 rfl
        have f4 := HB9.out.cell 4 rfl
        have f5 := HB9.out.cell 5 rfl
        have f6 := HB9.out.cell 6 rfl
        have f7 := HB9.out.cell 7 rfl
        go_wp2_with fail
        refine (tevent_any ⟨k, inv, resp, steps, err, val, list, key⟩ ⟨la, lc, ka, kc⟩ w9 HFIT.out (HAT.out.ext HWB9.out)).mono ?_
        rintro e w10 ⟨rfl, hx10⟩
        clear f0 f1 f2 f3 f4 f5 f6 f7
        have HX10 := Lib.hid hx10; clear hx10
        have hs9 := HWB9.out.size
        have hs10 := HX10.out.size
        have HLN2 : Hid (Tx.linesT cs ((es.take (i + 1)).map (·.1)) = L ++ ctx ++ (58 :: 32 :: (Tx.evT ⟨k, inv, resp, steps, err, val, list, key⟩ ++ [10]))) := Lib.hid (by
          rw [HLN.out]; unfold Tx.lineT; rw [HP2.out]; simp)
        generalize Tx.evT ⟨k, inv, resp, steps, err, val, list, key⟩ = evx at *
        go_wp2_with fail
        refine (write_any W0.heap.size W0.heap.size (L ++ ctx) (58 :: 32 :: (evx ++ [10])) w10 (HBD9.out.ext HX10.out) (by rw [List.length_append]; omega) (by simp only [List.length_cons, List.length_append, List.length_nil]; omega) (by omega)).mono ?_
        rintro e w11 ⟨rfl, hbd, hbel, hoth⟩
        have HBD11 := Lib.hid hbd
        have HWB11 := Lib.hid ((HWB9.out.trans (HX10.out.mono hs9)).trans hbel)
        clear hbd hbel hoth
        go_wp2_with fail
        go_roundw
        case rel => exact ⟨i + 1, by omega, by go_num, Lib.hid (by rw [HLN2.out]; exact HBD11.out), HWB11⟩
        case measure => simp [intOf]; omega
      · have hno : call < 0 ∨ (0 ≤ call ∧ (cs.length : Int) ≤ call) := by omega
        clear hth
        have HP := Lib.hid (Tx.preT_no (cs := cs) (e := ⟨call, inv, resp, steps, err, val, list, key⟩) (by show call < 0 ∨ (cs.length : Int) ≤ call; omega))
        have g0 := hb7.cell 0 (v := .int .i64 call) rfl
        have HX7 := Lib.hid hx7; clear hx7
        have HB7 := Lib.hid hb7; clear hb7
        have f0 := HB7.out.cell 0 rfl
        have f1 := HB7.out.cell 1 rfl
        have f2 := HB7.out.cell 2 rfl
        have f3 := HB7.out.cell 3 rfl
        have f4 := HB7.out.cell 4 rfl
        have f5 := HB7.out.cell 5 rfl
        have f6 := HB7.out.cell 6 rfl
        have f7 := HB7.out.cell 7 rfl
        have HAT7 := Lib.hid (HAT.out.ext (HWi.out.trans (HX7.out.mono hW)))
        have hs7 := HX7.out.size
        have HLN2 : Hid (Tx.linesT cs ((es.take (i + 1)).map (·.1)) = L ++ (58 :: 32 :: (Tx.evT ⟨call, inv, resp, steps, err, val, list, key⟩ ++ [10]))) := Lib.hid (by
          rw [HLN.out]; unfold Tx.lineT; rw [HP.out]; simp)
        rcases hno with h0 | ⟨h0, h1⟩
        all_goals
          go_upto_region 5 with (fail)
          clear e0 e1 e2 e3 e4 e5 e6 e7
          generalize (wr.alloc (.cells #[.int .i64 call, .int .i64 inv, .int .i64 resp, .int .i64 steps, .int .i64 err, .int .u64 val, .slice la list.length lc, .slice ka key.length kc] 29)) = W7 at *
          go_wp2_with fail
          refine (tevent_any ⟨call, inv, resp, steps, err, val, list, key⟩ ⟨la, lc, ka, kc⟩ W7 HFIT.out HAT7.out).mono ?_
          rintro e w10 ⟨rfl, hx10⟩
          clear f0 f1 f2 f3 f4 f5 f6 f7 g0
          have HX10 := Lib.hid (HX7.out.trans hx10); clear hx10
          have hs10 := HX10.out.size
          generalize Tx.evT ⟨call, inv, resp, steps, err, val, list, key⟩ = evx at *
          go_wp2_with fail
          refine (write_any W0.heap.size W0.heap.size L (58 :: 32 :: (evx ++ [10])) w10 (HBi.out.ext HX10.out) (by omega) (by simp only [List.length_cons, List.length_append, List.length_nil]; omega) (by omega)).mono ?_
          rintro e w11 ⟨rfl, hbd, hbel, hoth⟩
          have HBD11 := Lib.hid hbd
          have HWB11 := Lib.hid ((HWi.out.trans (HX10.out.mono hW)).trans hbel)
          clear hbd hbel hoth
          go_wp2_with fail
          go_roundw
          case rel => exact ⟨i + 1, by omega, by go_num, Lib.hid (by rw [HLN2.out]; exact HBD11.out), HWB11⟩
          case measure => simp [intOf]; omega
    · obtain rfl : i = es.length := by omega
      have q2 := HBk.out.cell 2 rfl
      have q3 := HBk.out.cell 3 rfl
      have q4 := HBk.out.cell 4 rfl
      have q5 := HBk.out.cell 5 rfl
      have q6 := HBk.out.cell 6 rfl
      have q7 := HBk.out.cell 7 rfl
      have q8 := HBk.out.cell 8 rfl
      have hll := lines_len (cs := cs) HMi.out.fit es.length
      have HTK : Hid ((es.take es.length).map (·.1) = es.map (·.1)) := Lib.hid (by rw [List.take_length])
      have hT := Bd.lt HBi.out
      have hW := HWi.out.size
      generalize hLL : Tx.linesT cs ((es.take es.length).map (·.1)) = L at *
      have HLL := Lib.hid hLL; clear hLL
      go_upto_region 9 with (fail)
      have n1 := numT_len r.ticks
      have n2 := numT_len r.idle
      have n3 := numT_len r.r
      have n4 := numT_len r.w
      have n5 := numT_len r.s
      have n6 := numT_len r.a
      have n7 := numT_len r.f
      go_still_tail 10, (by kernel_rfl)
      still_call (num_int_any r.ticks _ t1 t2)
      repeat (refine wpStill_step (fun K hK => ?_); go_simp; (first | refine hK _ ?_ | (rw [if_neg (by omega)]; refine And.intro rfl (hK _ ?_))); clear hK K)
      still_call (num_int_any r.idle _ i1 i2)
      repeat (refine wpStill_step (fun K hK => ?_); go_simp; (first | refine hK _ ?_ | (rw [if_neg (by omega)]; refine And.intro rfl (hK _ ?_))); clear hK K)
      refine wpStill_nil ?_
      change wpList _ _ _ _ _ (wr.drewN 1)
      have HB9 := Lib.hid (HBk.out.ext ((Ext.refl wr).drewN 1))
      have HBD9 := Lib.hid (HBi.out.ext ((Ext.refl wr).drewN 1))
      have HW9 := Lib.hid (HWi.out.trans (((Ext.refl wr).drewN 1).mono hW))
      have hT9 := Bd.lt HBD9.out
      have hW9 := HW9.out.size
      clear q0 q2 q3 q4 q5 q6 q7 q8
      generalize wr.drewN 1 = w9 at *
      go_wp2_with fail
      refine (write_any W0.heap.size W0.heap.size L _ w9 HBD9.out (by omega) ?_ hW9).mono ?_
      · simp only [List.length_cons, List.length_append, List.length_nil]; omega
      rintro e w10 ⟨rfl, hbd, hbel, hoth⟩
      have HL2 : Hid (L ++ (116 :: 105 :: 99 :: 107 :: 115 :: 32 :: (Tx.numT r.ticks ++ 32 :: 105 :: 100 :: 108 :: 101 :: 32 :: (Tx.numT r.idle ++ [10]))) = L ++ Tx.ticksT r) := Lib.hid (by unfold Tx.ticksT; simp)
      have HBD10 : Hid (Bd W0.heap.size W0.heap.size (L ++ Tx.ticksT r) w10) := Lib.hid (by rw [← HL2.out]; exact hbd)
      have HW10 := Lib.hid (HW9.out.trans hbel)
      have HB10 := Lib.hid (HB9.out.others hoth (by omega) (by decide))
      clear hbd hbel hoth HBD9 HW9 HB9 hT9 hW9
      have q2 := HB10.out.cell 2 (v := .int .i64 r.r) rfl
      have q3 := HB10.out.cell 3 (v := .int .i64 r.w) rfl
      have q4 := HB10.out.cell 4 (v := .int .i64 r.s) rfl
      have q5 := HB10.out.cell 5 (v := .int .i64 r.a) rfl
      have q6 := HB10.out.cell 6 (v := .int .i64 r.f) rfl
      have hb8 := Blk.new w10 #[.int .i64 r.r, .int .i64 r.w, .int .i64 r.s, .int .i64 r.a, .int .i64 r.f] 47
      have hx8 := (Ext.refl w10).alloc (.cells #[.int .i64 r.r, .int .i64 r.w, .int .i64 r.s, .int .i64 r.a, .int .i64 r.f] 47)
      have hW10 := HW10.out.size
      have HBD11 := Lib.hid (HBD10.out.ext (hx8.drewN 1))
      have HW11 := Lib.hid (HW10.out.trans ((hx8.drewN 1).mono hW10))
      have HB11 := Lib.hid (hb8.ext ((Ext.refl _).drewN 1))
      clear hx8
      have c0 := hb8.cell 0 (v := .int .i64 r.r) rfl
      have c1 := hb8.cell 1 (v := .int .i64 r.w) rfl
      have c2 := hb8.cell 2 (v := .int .i64 r.s) rfl
      have c3 := hb8.cell 3 (v := .int .i64 r.a) rfl
      have c4 := hb8.cell 4 (v := .int .i64 r.f) rfl
      clear hb8
      go_upto_region 11 with (fail)
      generalize w10.alloc (.cells #[.int .i64 r.r, .int .i64 r.w, .int .i64 r.s, .int .i64 r.a, .int .i64 r.f] 47) = w11 at *
      clear q2 q3 q4 q5 q6
      go_still_tail 25, (by kernel_rfl)
      still_call (num_int_any r.r _ r1 r2)
      repeat (refine wpStill_step (fun K hK => ?_); go_simp; (first | refine hK _ ?_ | (rw [if_neg (by omega)]; refine And.intro rfl (hK _ ?_))); clear hK K)
      still_call (num_int_any r.w _ w1 w2)
      repeat (refine wpStill_step (fun K hK => ?_); go_simp; (first | refine hK _ ?_ | (rw [if_neg (by omega)]; refine And.intro rfl (hK _ ?_))); clear hK K)
      still_call (num_int_any r.s _ s1 s2)
      repeat (refine wpStill_step (fun K hK => ?_); go_simp; (first | refine hK _ ?_ | (rw [if_neg (by omega)]; refine And.intro rfl (hK _ ?_))); clear hK K)
      still_call (num_int_any r.a _ a1 a2)
      repeat (refine wpStill_step (fun K hK => ?_); go_simp; (first | refine hK _ ?_ | (rw [if_neg (by omega)]; refine And.intro rfl (hK _ ?_))); clear hK K)
      still_call (num_int_any r.f _ f1 f2)
      repeat (refine wpStill_step (fun K hK => ?_); go_simp; (first | refine hK _ ?_ | (rw [if_neg (by omega)]; refine And.intro rfl (hK _ ?_))); clear hK K)
      refine wpStill_nil ?_
      change wpList _ _ _ _ _ (w11.drewN 1)
      clear c0 c1 c2 c3 c4
      have hT11 := Bd.lt HBD11.out
      have hW11 := HW11.out.size
      have hlt := ticksT_len r
      have hlc := countsT_len r
      generalize w11.drewN 1 = w12 at *
      go_wp2_with fail
      refine (write_any W0.heap.size W0.heap.size (L ++ Tx.ticksT r) _ w12 HBD11.out (by rw [List.length_append]; omega) ?_ hW11).mono ?_
      · simp only [List.length_cons, List.length_append, List.length_nil]; omega
      rintro e w13 ⟨rfl, hbd, hbel, -⟩
      have HBD13 := Lib.hid hbd
      have HW13 := Lib.hid (HW11.out.trans hbel)
      clear hbd hbel
      have hW13 := HW13.out.size
      go_wp2_with fail
      refine (told_any W0.heap.size W0.heap.size _ w13 HBD13.out hW13).mono ?_
      rintro e w14 ⟨rfl, hbel⟩
      have HW14 := Lib.hid (HX0.out.trans ((HW13.out.trans hbel).mono (by omega)))
      clear hbel
      go_wp2_with fail
      go_ret
      refine ⟨ret_str ?_, HW14.out⟩
      rw [← HTK.out]
      unfold Tx.repT
      rw [HLL.out]
      unfold Tx.countsT
      simp

end Go.Proofs.Ytkhagpnnkfglbaa
