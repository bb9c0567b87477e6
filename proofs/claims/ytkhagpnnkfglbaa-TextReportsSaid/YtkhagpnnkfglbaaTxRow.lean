/-
  text's reader: lists.
-/
import Derived.Test.YtkhagpnnkfglbaaTxRd3
import Derived.Test.YtkhagpnnkfglbaaSeq
namespace Go.Proofs.Ytkhagpnnkfglbaa
open Go.RowKit

def lenOf : Value → Nat
  | .slice _ n _ => n
  | _ => 0

/-- What a reading of a list leaves. -/
def RowPost (k : IntKind) (w : World) (R : Nat) (s : List UInt8) (r' : Tx.Rd) (l : List Int) (e : Ending) (w' : World) : Prop :=
  ∃ a c, e = .returned (.slice a l.length c) ∧ IsInts k w' a l ∧ (∀ x, a = some x → w.heap.size ≤ x.block) ∧ RdAt w' R s r' ∧ Keep R w w' ∧ l.length ≤ s.length + 1

theorem flat_one (k : IntKind) (xs : List Int) : xs.flatMap (fun x => [Value.int k x]) = xs.map (Value.int k) := by
  induction xs with
  | nil => rfl
  | cons x r ih => rw [List.flatMap_cons, ih]; rfl

theorem own_ints {w : World} {B : Nat} {E : TypeId} {k : IntKind} {v : Value} {xs : List Int} (h : w.ownsRow B E 1 v xs.length (xs.map (Value.int k))) :
    ∃ a c, v = .slice a xs.length c ∧ IsInts k w a xs ∧ (∀ x, a = some x → B ≤ x.block) := by
  obtain ⟨a, c, h1, h2, h3, h4, h5, -⟩ := IsSeq.own (d := (0 : Int)) (f := fun x => [Value.int k x]) (sz := 1) (fun _ => rfl) (by decide) (xs := xs) (by
    rw [flat_one]; exact h)
  refine ⟨a, c, h1, ?_, h5⟩
  rcases h4 with h4 | ⟨b, off, ha, hc⟩
  · exact .inl h4
  · refine .inr ⟨b, off, ha, fun i hi => ?_⟩
    have := hc i hi 0 (by decide)
    rw [Nat.mul_one, Nat.add_zero] at this
    rw [this]; rfl

theorem rd_len {w : World} {R : Nat} {s : List UInt8} {r : Tx.Rd} (h : RdAt w R s r) : r.rest.length ≤ s.length := by
  obtain ⟨k, hk, hr, _⟩ := h
  rw [hr, List.length_drop]; omega

theorem one_less {one : Tx.Rd → Int × Tx.Rd} {good : Int → Prop} (H : Tx.Reads one good) {r : Tx.Rd} (hb : (one r).2.bad = false) : (one r).2.rest.length < r.rest.length := by
  have h := H.back r (one r).1 (one r).2.rest (by
    generalize one r = p at *
    obtain ⟨x, ⟨t, b⟩⟩ := p
    simp only at hb
    rw [hb])
  have h2 := congrArg (fun r => r.rest.length) h.1
  have h3 := List.length_pos_iff.2 (Tx.numT_ne (one r).1)
  simp only [List.length_append] at h2
  omega
theorem must_less {b : UInt8} {r : Tx.Rd} (hb : (Tx.mustF b r).bad = false) : (Tx.mustF b r).rest.length < r.rest.length := by
  have h := Tx.mustF_back rfl hb
  have h2 := congrArg (fun r => r.rest.length) h
  simp only [List.length_cons] at h2
  omega
theorem not_bad_of_must {b : UInt8} {r : Tx.Rd} (hb : (Tx.mustF b r).bad = false) : r.bad = false := by
  rw [Tx.mustF_back rfl hb]
theorem Keep.lt_own {R : Nat} {w wr w' : World} {B : Nat} {E : TypeId} {k : IntKind} {n : Nat} {v : Value} {xs : List Value} (h : wr.ownsRow B E 1 v n xs) (hk : Keep R wr w') (hR : R < B) : w'.ownsRow B E 1 v n xs := hk.own h hR
theorem keep_grown {R : Nat} {w wr w' : World} {v : Value} {E : TypeId} {n : Nat} {xs : List Value} (hk : Keep R w wr) (hown : wr.ownsRow w.heap.size E 1 v n xs) (hg : wr.grownBy w' v.ownBlock) : Keep R w w' :=
  ⟨hg.os.trans hk.os, hg.tape.trans hk.tape, hg.output.trans hk.output, Nat.le_trans hk.size hg.size, fun i hi hne => by
    rw [hg.block i (Nat.lt_of_lt_of_le hi hk.size) (fun h => by have := (hown.lt i h.symm).1; omega)]
    exact World.grownBy.block hk i hi hne⟩
theorem rd_grown {w w' : World} {R : Nat} {s : List UInt8} {r : Tx.Rd} {row : Option Nat} (h : RdAt w R s r) (hg : w.grownBy w' row) (hne : row ≠ some R) : RdAt w' R s r := by
  obtain ⟨k, h1, h2, h3⟩ := h
  exact ⟨k, h1, h2, h3.grown hg hne⟩

theorem Try.infoRow_u64 : (Try.prog.info? 23).map (fun i => (i.zero, i.size, i.bytes)) = some (some (.int .u64 0), 1, 8) := by kernel_rfl

set_option maxRecDepth 100000 in
set_option maxHeartbeats 2000000 in
theorem row_u64 (one : Tx.Rd → Int × Tx.Rd) (good : Int → Prop) (HO : Tx.Reads one good) (w : World) (R : Nat) (s : List UInt8) (r : Tx.Rd)
    (hone : ∀ w r, RdAt w R s r → Calls Try.prog 29 #[.pointer (some ⟨R, 0, none⟩)] w (RdPost w R s (one r).2 (.int .u64 (one r).1))) (h : RdAt w R s r) (hs : s.length ≤ 1000000) :
    Calls Try.prog 30 #[.pointer (some ⟨R, 0, none⟩), .func (.func 29) #[.pointer (some ⟨R, 0, none⟩)] #[]] w (RowPost .u64 w R s (Tx.rowF one r).2 (Tx.rowF one r).1) := by
  have hRw := h.lt
  have hM := must_any 91 91 w R s r rfl h hs
  have HM := Lib.hid hM; clear hM h
  have HS := Lib.hid hs
  have HONE := Lib.hid hone; clear hone
  have HF := Lib.hid (show Tx.rowF one r = if (Tx.takeF 93 (Tx.mustF 91 r)).1 then ([], (Tx.takeF 93 (Tx.mustF 91 r)).2) else Tx.rowGo one ((Tx.mustF 91 r).rest.length + 1) (Tx.mustF 91 r) [] from rfl)
  generalize Tx.mustF 91 r = r1 at *
  go_enter Try.func30, Try.ntmps30
  go_wp2_with fail
  refine HM.out.mono ?_
  rintro e w1 ⟨rfl, hr1, hk1⟩
  have HK1 := Lib.hid hk1; clear hk1
  have hT := take_any 93 93 w1 R s r1 rfl hr1 hs
  have HT := Lib.hid hT; clear hT hr1
  cases ht : (Tx.takeF 93 r1).1 with
  | true =>
    rw [ht] at HT
    have HE : Hid (Tx.rowF one r = ([], (Tx.takeF 93 r1).2)) := Lib.hid (by rw [HF.out, ht]; rfl)
    clear ht
    go_wp2_with fail
    refine HT.out.mono ?_
    rintro e w2 ⟨rfl, hr2, hk2⟩
    have HR2 := Lib.hid hr2
    have HK2 := Lib.hid (HK1.out.trans hk2)
    clear hr2 hk2
    go_wp2_with fail
    go_ret
    rw [HE.out]
    exact ⟨none, 0, rfl, .inl rfl, (fun x h => by cases h), HR2.out, HK2.out, by simp⟩
  | false =>
    have e2 : (Tx.takeF 93 r1).2 = r1 := Tx.takeF_false (b := 93) (r := r1) (by rw [← ht])
    have HE : Hid (Tx.rowF one r = Tx.rowGo one (r1.rest.length + 1) r1 []) := Lib.hid (by rw [HF.out, ht]; rfl)
    rw [ht, e2] at HT
    clear ht e2 HF
    go_wp2_with fail
    refine HT.out.mono ?_
    rintro e w2 ⟨rfl, hr2, hk2⟩
    have HR2 := Lib.hid hr2
    have HK2 := Lib.hid (HK1.out.trans hk2)
    clear hr2 hk2
    go_wp2_with fail
    go_loopw [5] (fun v wr => ∃ (rr : Tx.Rd) (out : List Int) (f : Nat), wr.ownsRow w.heap.size 23 1 v out.length (out.map (Value.int .u64)) ∧ Hid (RdAt wr R s rr) ∧ Hid (Keep R w wr) ∧ Hid (Tx.rowF one r = Tx.rowGo one f rr out) ∧
      Hid (rr.bad = false → rr.rest.length < f ∧ out.length + rr.rest.length ≤ s.length) ∧ out.length ≤ s.length + 1) (fun v _ => s.length + 2 - lenOf v)
    case atStart => exact ⟨r1, [], _, World.ownsRow_nil _ _ _ _, HR2, HK2, HE, Lib.hid (fun _ => ⟨by omega, by have := rd_len HR2.out; simp; omega⟩), by simp⟩
    case round =>
      obtain ⟨rr, out, f, ho, HRR, HK, HG, HL, hol⟩ := hrel
      obtain ⟨va, vc, rfl, -⟩ := own_slice ho
      have HOW := Lib.hid ho; clear ho
      cases hbad : rr.bad with
      | true =>
        have HX : Hid (Tx.rowF one r = (out, rr)) := Lib.hid (by rw [HG.out, Tx.rowGo_bad one _ _ _ hbad])
        obtain ⟨k, hk, hrr, hb⟩ := HRR.out
        rw [hbad] at hb
        have c2 := hb.cell 2 rfl
        clear hb hrr hbad
        go_wp2_with fail
        go_ret
        rw [HX.out]
        obtain ⟨a, c, e1, e2, e3⟩ := own_ints HOW.out
        simp only [Value.slice.injEq] at e1
        obtain ⟨rfl, -, rfl⟩ := e1
        exact ⟨va, vc, rfl, e2, e3, HRR.out, HK.out, hol⟩
      | false =>
        obtain ⟨hl1, hl2⟩ := HL.out hbad
        obtain ⟨g, rfl⟩ : ∃ g, f = g + 1 := ⟨f - 1, by omega⟩
        have HX : Hid (Tx.rowF one r = if (Tx.takeF 93 (one rr).2).1 then (out ++ [(one rr).1], (Tx.takeF 93 (one rr).2).2) else Tx.rowGo one g (Tx.mustF 32 (one rr).2) (out ++ [(one rr).1])) := Lib.hid (by
          rw [HG.out]
          show (if rr.bad then _ else _) = _
          rw [hbad]; rfl)
        have HONER := Lib.hid (HONE.out wr rr HRR.out)
        have HLS := Lib.hid (fun hb => one_less HO (r := rr) hb)
        obtain ⟨k, hk, hrr, hb⟩ := HRR.out
        rw [hbad] at hb
        have c2 := hb.cell 2 rfl
        clear hb hrr hbad HL HG
        have HL1 := Lib.hid hl1
        have HL2 := Lib.hid hl2
        clear hl1 hl2
        generalize hone : one rr = p at *
        obtain ⟨x, r3⟩ := p
        have HONEQ := Lib.hid hone; clear hone
        simp only at HX HONER HLS
        go_wp2_with fail
        refine HONER.out.mono ?_
        rintro e w3 ⟨rfl, hr3, hk3⟩
        have HR3 := Lib.hid hr3
        have HK3 := Lib.hid (HK.out.trans hk3)
        have HO3 := Lib.hid (hk3.own HOW.out hRw)
        clear hr3 hk3 HOW HK c2
        go_wp2_with (at_builtin; refine wpList_app1 rfl (.tmp 15) (.tmp 18) 24 rfl w.heap.size 23 _ 8 Try.underlying24 Try.infoRow_u64 rfl _ _ _ (.int .u64 x) _ rfl (HO3.out.alloc _) rfl ?_ rfl ?_ ?_ ?_ ?_; rotate_right; intro v' w4 ho hg hbb)
        case refine_1 => exact World.cell?_alloc_at _ _ _ _ rfl
        case refine_2 => unfold maxLen; omega
        case refine_3 => omega
        case refine_4 => have := HK3.out.size; simp; omega
        have hkk : Keep R w w4 := keep_grown (HK3.out.alloc _) (HO3.out.alloc _) hg
        have hr4 : RdAt w4 R s r3 := rd_grown (HR3.out.ext ((Ext.refl _).alloc _)) hg (fun he => by have := (HO3.out.lt R he).1; omega)
        have HO4 : Hid (w4.ownsRow w.heap.size 23 1 v' (out ++ [x]).length ((out ++ [x]).map (Value.int .u64))) := Lib.hid (by simpa using ho)
        have hT := take_any 93 93 w4 R s r3 rfl hr4 hs
        have HT4 := Lib.hid hT; clear hT hr4
        have HK4 := Lib.hid hkk
        clear hkk ho hg hbb HK3 HR3 HO3
        generalize hout : out ++ [x] = out1 at *
        have hol1 : out1.length = out.length + 1 := by rw [← hout]; simp
        have HOL := Lib.hid hol1
        clear hout hol1
        cases ht : (Tx.takeF 93 r3).1 with
        | true =>
          rw [ht] at HT4
          have HE4 : Hid (Tx.rowF one r = (out1, (Tx.takeF 93 r3).2)) := Lib.hid (by rw [HX.out, ht]; rfl)
          have HBD : Hid (r3.bad = false) := Lib.hid (by
            have := (Tx.takeF_back (r' := (Tx.takeF 93 r3).2) (by rw [← ht])).1
            rw [this])
          clear ht
          go_wp2_with fail
          refine HT4.out.mono ?_
          rintro e w5 ⟨rfl, hr5, hk5⟩
          have HR5 := Lib.hid hr5
          have HK5 := Lib.hid (HK4.out.trans hk5)
          have HO5 := Lib.hid (hk5.own HO4.out hRw)
          clear hr5 hk5
          obtain ⟨a5, c5, e5, e52, e53⟩ := own_ints HO5.out
          subst e5
          have HE52 := Lib.hid e52
          have HE53 := Lib.hid e53
          clear e52 e53
          go_wp2_with fail
          go_ret
          rw [HE4.out]
          exact ⟨a5, c5, rfl, HE52.out, HE53.out, HR5.out, HK5.out, by simp only [HOL.out]; have := HLS.out HBD.out; have := HL2.out; omega⟩
        | false =>
          have e2 : (Tx.takeF 93 r3).2 = r3 := Tx.takeF_false (b := 93) (r := r3) (by rw [← ht])
          have HE4 : Hid (Tx.rowF one r = Tx.rowGo one g (Tx.mustF 32 r3) out1) := Lib.hid (by rw [HX.out, ht]; rfl)
          rw [ht, e2] at HT4
          clear ht e2
          go_wp2_with fail
          refine HT4.out.mono ?_
          rintro e w5 ⟨rfl, hr5, hk5⟩
          have hM5 := must_any 32 32 w5 R s r3 rfl hr5 hs
          have HM5 := Lib.hid hM5
          have HK5 := Lib.hid (HK4.out.trans hk5)
          have HO5 := Lib.hid (hk5.own HO4.out hRw)
          clear hr5 hk5 hM5
          go_wp2_with fail
          refine HM5.out.mono ?_
          rintro e w6 ⟨rfl, hr6, hk6⟩
          have HR6 := Lib.hid hr6
          have HK6 := Lib.hid (HK5.out.trans hk6)
          have HO6 := Lib.hid (hk6.own HO5.out hRw)
          clear hr6 hk6
          have HLL : Hid ((Tx.mustF 32 r3).bad = false → (Tx.mustF 32 r3).rest.length < g ∧ out1.length + (Tx.mustF 32 r3).rest.length ≤ s.length) := Lib.hid (fun hb => by
            have a1 := must_less hb
            have a2 := HLS.out (not_bad_of_must hb)
            have a3 := HL1.out
            have a4 := HL2.out
            have a5 := HOL.out
            omega)
          have HOL2 : Hid (out1.length ≤ s.length + 1) := Lib.hid (by have := HL2.out; have := HOL.out; omega)
          obtain ⟨va6, vc6, hv6, -⟩ := own_slice HO6.out
          subst hv6
          go_wp2_with fail
          go_roundw
          case rel => exact ⟨_, out1, g, HO6.out, HR6, HK6, HE4, HLL, HOL2.out⟩
          case measure => have := HOL.out; simp [lenOf]; omega

theorem Try.infoRow_i64 : (Try.prog.info? 3).map (fun i => (i.zero, i.size, i.bytes)) = some (some (.int .i64 0), 1, 8) := by kernel_rfl

set_option maxRecDepth 100000 in
set_option maxHeartbeats 2000000 in
theorem row_i64 (one : Tx.Rd → Int × Tx.Rd) (good : Int → Prop) (HO : Tx.Reads one good) (w : World) (R : Nat) (s : List UInt8) (r : Tx.Rd)
    (hone : ∀ w r, RdAt w R s r → Calls Try.prog 27 #[.pointer (some ⟨R, 0, none⟩)] w (RdPost w R s (one r).2 (.int .i64 (one r).1))) (h : RdAt w R s r) (hs : s.length ≤ 1000000) :
    Calls Try.prog 31 #[.pointer (some ⟨R, 0, none⟩), .func (.func 27) #[.pointer (some ⟨R, 0, none⟩)] #[]] w (RowPost .i64 w R s (Tx.rowF one r).2 (Tx.rowF one r).1) := by
  have hRw := h.lt
  have hM := must_any 91 91 w R s r rfl h hs
  have HM := Lib.hid hM; clear hM h
  have HS := Lib.hid hs
  have HONE := Lib.hid hone; clear hone
  have HF := Lib.hid (show Tx.rowF one r = if (Tx.takeF 93 (Tx.mustF 91 r)).1 then ([], (Tx.takeF 93 (Tx.mustF 91 r)).2) else Tx.rowGo one ((Tx.mustF 91 r).rest.length + 1) (Tx.mustF 91 r) [] from rfl)
  generalize Tx.mustF 91 r = r1 at *
  go_enter Try.func31, Try.ntmps31
  go_wp2_with fail
  refine HM.out.mono ?_
  rintro e w1 ⟨rfl, hr1, hk1⟩
  have HK1 := Lib.hid hk1; clear hk1
  have hT := take_any 93 93 w1 R s r1 rfl hr1 hs
  have HT := Lib.hid hT; clear hT hr1
  cases ht : (Tx.takeF 93 r1).1 with
  | true =>
    rw [ht] at HT
    have HE : Hid (Tx.rowF one r = ([], (Tx.takeF 93 r1).2)) := Lib.hid (by rw [HF.out, ht]; rfl)
    clear ht
    go_wp2_with fail
    refine HT.out.mono ?_
    rintro e w2 ⟨rfl, hr2, hk2⟩
    have HR2 := Lib.hid hr2
    have HK2 := Lib.hid (HK1.out.trans hk2)
    clear hr2 hk2
    go_wp2_with fail
    go_ret
    rw [HE.out]
    exact ⟨none, 0, rfl, .inl rfl, (fun x h => by cases h), HR2.out, HK2.out, by simp⟩
  | false =>
    have e2 : (Tx.takeF 93 r1).2 = r1 := Tx.takeF_false (b := 93) (r := r1) (by rw [← ht])
    have HE : Hid (Tx.rowF one r = Tx.rowGo one (r1.rest.length + 1) r1 []) := Lib.hid (by rw [HF.out, ht]; rfl)
    rw [ht, e2] at HT
    clear ht e2 HF
    go_wp2_with fail
    refine HT.out.mono ?_
    rintro e w2 ⟨rfl, hr2, hk2⟩
    have HR2 := Lib.hid hr2
    have HK2 := Lib.hid (HK1.out.trans hk2)
    clear hr2 hk2
    go_wp2_with fail
    go_loopw [5] (fun v wr => ∃ (rr : Tx.Rd) (out : List Int) (f : Nat), wr.ownsRow w.heap.size 3 1 v out.length (out.map (Value.int .i64)) ∧ Hid (RdAt wr R s rr) ∧ Hid (Keep R w wr) ∧ Hid (Tx.rowF one r = Tx.rowGo one f rr out) ∧
      Hid (rr.bad = false → rr.rest.length < f ∧ out.length + rr.rest.length ≤ s.length) ∧ out.length ≤ s.length + 1) (fun v _ => s.length + 2 - lenOf v)
    case atStart => exact ⟨r1, [], _, World.ownsRow_nil _ _ _ _, HR2, HK2, HE, Lib.hid (fun _ => ⟨by omega, by have := rd_len HR2.out; simp; omega⟩), by simp⟩
    case round =>
      obtain ⟨rr, out, f, ho, HRR, HK, HG, HL, hol⟩ := hrel
      obtain ⟨va, vc, rfl, -⟩ := own_slice ho
      have HOW := Lib.hid ho; clear ho
      cases hbad : rr.bad with
      | true =>
        have HX : Hid (Tx.rowF one r = (out, rr)) := Lib.hid (by rw [HG.out, Tx.rowGo_bad one _ _ _ hbad])
        obtain ⟨k, hk, hrr, hb⟩ := HRR.out
        rw [hbad] at hb
        have c2 := hb.cell 2 rfl
        clear hb hrr hbad
        go_wp2_with fail
        go_ret
        rw [HX.out]
        obtain ⟨a, c, e1, e2, e3⟩ := own_ints HOW.out
        simp only [Value.slice.injEq] at e1
        obtain ⟨rfl, -, rfl⟩ := e1
        exact ⟨va, vc, rfl, e2, e3, HRR.out, HK.out, hol⟩
      | false =>
        obtain ⟨hl1, hl2⟩ := HL.out hbad
        obtain ⟨g, rfl⟩ : ∃ g, f = g + 1 := ⟨f - 1, by omega⟩
        have HX : Hid (Tx.rowF one r = if (Tx.takeF 93 (one rr).2).1 then (out ++ [(one rr).1], (Tx.takeF 93 (one rr).2).2) else Tx.rowGo one g (Tx.mustF 32 (one rr).2) (out ++ [(one rr).1])) := Lib.hid (by
          rw [HG.out]
          show (if rr.bad then _ else _) = _
          rw [hbad]; rfl)
        have HONER := Lib.hid (HONE.out wr rr HRR.out)
        have HLS := Lib.hid (fun hb => one_less HO (r := rr) hb)
        obtain ⟨k, hk, hrr, hb⟩ := HRR.out
        rw [hbad] at hb
        have c2 := hb.cell 2 rfl
        clear hb hrr hbad HL HG
        have HL1 := Lib.hid hl1
        have HL2 := Lib.hid hl2
        clear hl1 hl2
        generalize hone : one rr = p at *
        obtain ⟨x, r3⟩ := p
        have HONEQ := Lib.hid hone; clear hone
        simp only at HX HONER HLS
        go_wp2_with fail
        refine HONER.out.mono ?_
        rintro e w3 ⟨rfl, hr3, hk3⟩
        have HR3 := Lib.hid hr3
        have HK3 := Lib.hid (HK.out.trans hk3)
        have HO3 := Lib.hid (hk3.own HOW.out hRw)
        clear hr3 hk3 HOW HK c2
        go_wp2_with (at_builtin; refine wpList_app1 rfl (.tmp 15) (.tmp 18) 27 rfl w.heap.size 3 _ 8 Try.underlying27 Try.infoRow_i64 rfl _ _ _ (.int .i64 x) _ rfl (HO3.out.alloc _) rfl ?_ rfl ?_ ?_ ?_ ?_; rotate_right; intro v' w4 ho hg hbb)
        case refine_1 => exact World.cell?_alloc_at _ _ _ _ rfl
        case refine_2 => unfold maxLen; omega
        case refine_3 => omega
        case refine_4 => have := HK3.out.size; simp; omega
        have hkk : Keep R w w4 := keep_grown (HK3.out.alloc _) (HO3.out.alloc _) hg
        have hr4 : RdAt w4 R s r3 := rd_grown (HR3.out.ext ((Ext.refl _).alloc _)) hg (fun he => by have := (HO3.out.lt R he).1; omega)
        have HO4 : Hid (w4.ownsRow w.heap.size 3 1 v' (out ++ [x]).length ((out ++ [x]).map (Value.int .i64))) := Lib.hid (by simpa using ho)
        have hT := take_any 93 93 w4 R s r3 rfl hr4 hs
        have HT4 := Lib.hid hT; clear hT hr4
        have HK4 := Lib.hid hkk
        clear hkk ho hg hbb HK3 HR3 HO3
        generalize hout : out ++ [x] = out1 at *
        have hol1 : out1.length = out.length + 1 := by rw [← hout]; simp
        have HOL := Lib.hid hol1
        clear hout hol1
        cases ht : (Tx.takeF 93 r3).1 with
        | true =>
          rw [ht] at HT4
          have HE4 : Hid (Tx.rowF one r = (out1, (Tx.takeF 93 r3).2)) := Lib.hid (by rw [HX.out, ht]; rfl)
          have HBD : Hid (r3.bad = false) := Lib.hid (by
            have := (Tx.takeF_back (r' := (Tx.takeF 93 r3).2) (by rw [← ht])).1
            rw [this])
          clear ht
          go_wp2_with fail
          refine HT4.out.mono ?_
          rintro e w5 ⟨rfl, hr5, hk5⟩
          have HR5 := Lib.hid hr5
          have HK5 := Lib.hid (HK4.out.trans hk5)
          have HO5 := Lib.hid (hk5.own HO4.out hRw)
          clear hr5 hk5
          obtain ⟨a5, c5, e5, e52, e53⟩ := own_ints HO5.out
          subst e5
          have HE52 := Lib.hid e52
          have HE53 := Lib.hid e53
          clear e52 e53
          go_wp2_with fail
          go_ret
          rw [HE4.out]
          exact ⟨a5, c5, rfl, HE52.out, HE53.out, HR5.out, HK5.out, by simp only [HOL.out]; have := HLS.out HBD.out; have := HL2.out; omega⟩
        | false =>
          have e2 : (Tx.takeF 93 r3).2 = r3 := Tx.takeF_false (b := 93) (r := r3) (by rw [← ht])
          have HE4 : Hid (Tx.rowF one r = Tx.rowGo one g (Tx.mustF 32 r3) out1) := Lib.hid (by rw [HX.out, ht]; rfl)
          rw [ht, e2] at HT4
          clear ht e2
          go_wp2_with fail
          refine HT4.out.mono ?_
          rintro e w5 ⟨rfl, hr5, hk5⟩
          have hM5 := must_any 32 32 w5 R s r3 rfl hr5 hs
          have HM5 := Lib.hid hM5
          have HK5 := Lib.hid (HK4.out.trans hk5)
          have HO5 := Lib.hid (hk5.own HO4.out hRw)
          clear hr5 hk5 hM5
          go_wp2_with fail
          refine HM5.out.mono ?_
          rintro e w6 ⟨rfl, hr6, hk6⟩
          have HR6 := Lib.hid hr6
          have HK6 := Lib.hid (HK5.out.trans hk6)
          have HO6 := Lib.hid (hk6.own HO5.out hRw)
          clear hr6 hk6
          have HLL : Hid ((Tx.mustF 32 r3).bad = false → (Tx.mustF 32 r3).rest.length < g ∧ out1.length + (Tx.mustF 32 r3).rest.length ≤ s.length) := Lib.hid (fun hb => by
            have a1 := must_less hb
            have a2 := HLS.out (not_bad_of_must hb)
            have a3 := HL1.out
            have a4 := HL2.out
            have a5 := HOL.out
            omega)
          have HOL2 : Hid (out1.length ≤ s.length + 1) := Lib.hid (by have := HL2.out; have := HOL.out; omega)
          obtain ⟨va6, vc6, hv6, -⟩ := own_slice HO6.out
          subst hv6
          go_wp2_with fail
          go_roundw
          case rel => exact ⟨_, out1, g, HO6.out, HR6, HK6, HE4, HLL, HOL2.out⟩
          case measure => have := HOL.out; simp [lenOf]; omega

end Go.Proofs.Ytkhagpnnkfglbaa
