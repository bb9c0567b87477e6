/-
  script.Encode: a script's bytes.
-/
import Derived.Test.YtcfbcffmlinlaaaDoorScrEnc0
namespace Go.Proofs.YtcfbcffmlinlaaaDoor
open Go.RowKit

theorem encRuns_at (l : List Int) (i : Nat) (h : i < l.length) :
    encRuns (l.length - i) (l.drop i) = nth l i :: (((lead (nth l i) (l.drop (i + 1)) 254 : Nat) : Int) + 1) :: encRuns (l.length - (i + (lead (nth l i) (l.drop (i + 1)) 254 + 1))) (l.drop (i + (lead (nth l i) (l.drop (i + 1)) 254 + 1))) := by
  have hl := lead_le (nth l i) (l.drop (i + 1)) 254
  rw [List.length_drop] at hl
  have e : l.length - i = (l.length - i - 1) + 1 := by omega
  rw [e, drop_cons l i h]
  simp only [encRuns, List.drop_drop]
  congr 2
  have e2 : i + 1 + lead (nth l i) (l.drop (i + 1)) 254 = i + (lead (nth l i) (l.drop (i + 1)) 254 + 1) := by omega
  rw [e2]
  exact encRuns_fuel _ _ _ (by rw [List.length_drop]; omega) (by rw [List.length_drop]; omega)

theorem lead_cons (x y : Int) (r : List Int) (k : Nat) : lead x (y :: r) (k + 1) = if y = x then lead x r k + 1 else 0 := rfl

theorem lead_step (x : Int) (l : List Int) (i m : Nat) (hm : m < 255) (h : i + m < l.length) (he : nth l (i + m) = x) :
    lead x (l.drop (i + m)) (255 - m) = 1 + lead x (l.drop (i + (m + 1))) (255 - (m + 1)) := by
  have e : 255 - m = (255 - (m + 1)) + 1 := by omega
  rw [drop_cons l (i + m) h, e, lead_cons, if_pos he, Nat.add_comm, Nat.add_assoc i m 1]

theorem lead_stop (x : Int) (l : List Int) (i m : Nat) (h : 255 ≤ m ∨ l.length ≤ i + m ∨ (i + m < l.length ∧ nth l (i + m) ≠ x)) : lead x (l.drop (i + m)) (255 - m) = 0 := by
  by_cases h1 : 255 ≤ m
  · have : 255 - m = 0 := by omega
    rw [this]; cases l.drop (i + m) <;> rfl
  · by_cases h2 : l.length ≤ i + m
    · rw [List.drop_eq_nil_iff.2 h2]
      cases 255 - m <;> rfl
    · rcases h with h | h | ⟨h3, h4⟩
      · omega
      · omega
      · have e : 255 - m = (255 - (m + 1)) + 1 := by omega
        rw [drop_cons l (i + m) h3, e, lead_cons, if_neg h4]

/-- What script.Encode answers. -/
def EncPost (s : Scr) (w : World) (e : Ending) (w' : World) : Prop :=
  Ext w w' ∧
  ((errF s ≠ 0 ∧ e = .returned (.tuple #[.slice none 0 0, .int .i64 (errF s)])) ∨
   (errF s = 0 ∧ ∃ a cap, e = .returned (.tuple #[.slice a (encS s).length cap, .int .i64 0]) ∧ (a = none → cap = 0) ∧ IsInts .u8 w' a (encS s)))

set_option maxRecDepth 100000 in
set_option maxHeartbeats 2000000 in
theorem encode_any (s : Scr) (m : Lies) (w : World) (hf : Fits s) (hwd : s.wide) (hm : LiesAt s m w) :
    Calls Tryd.prog 15 #[.agg #[.int .i64 s.n, .slice m.sa s.specs.length m.sc, .slice m.ca s.calls.length m.cc, .slice m.pa s.picks.length m.pc]] w (EncPost s w) := by
  have hright := right_any s m (w.alloc (.cells #[.int .i64 s.n, .slice m.sa s.specs.length m.sc, .slice m.ca s.calls.length m.cc, .slice m.pa s.picks.length m.pc] 26)) hf (hm.ext ((Ext.refl _).alloc _))
  obtain ⟨sa, sc, ca, cc, pa, pc⟩ := m
  simp only at hright ⊢
  have HM1 := Lib.hid hm.specs
  have HM2 := Lib.hid hm.calls
  have HM3 := Lib.hid hm.picks
  clear hm
  simp only at HM1 HM2 HM3
  have HR := Lib.hid hright; clear hright
  have HWD := Lib.hid hwd; clear hwd
  obtain ⟨⟨f1, f2⟩, f3, f4, f5⟩ := hf
  go_enter Tryd.func15, Tryd.ntmps15
  go_wp2_with fail
  refine HR.out.mono ?_
  rintro e w1 ⟨rfl, hx1⟩
  have c0 : w1.cell? ⟨w.heap.size, 0, none⟩ = some (.int .i64 s.n) := hx1.cell (by simp)
  have c1 : w1.cell? ⟨w.heap.size, 1, none⟩ = some (.slice sa s.specs.length sc) := hx1.cell (by simp)
  have hbs : w.heap.size < w1.heap.size := World.block_lt_of_cell? _ _ c0
  by_cases he : errF s = 0
  · have hok := (errF_zero s).1 he
    have HE := Lib.hid he
    rw [he]; clear he
    have HOK := Lib.hid hok
    obtain ⟨⟨n1, n2⟩, l1, l2, l3, -, -, -⟩ := hok
    have hb0 : Below (w.heap.size + 1) (w.alloc (.cells #[.int .i64 s.n, .slice sa s.specs.length sc, .slice ca s.calls.length cc, .slice pa s.picks.length pc] 26)) w1 := Below.mono hx1 (by simp)
    have henc0 := Enc.lit hb0 (by omega) [s.n, (s.specs.length : Int)] #[.int .u8 s.n, .int .u8 (s.specs.length : Int)] rfl (by unfold maxLen; simp)
    have hbox : ∀ w', Below (w.heap.size + 1) (w.alloc (.cells #[.int .i64 s.n, .slice sa s.specs.length sc, .slice ca s.calls.length cc, .slice pa s.picks.length pc] 26)) w' →
        w'.cell? ⟨w.heap.size, 2, none⟩ = some (.slice ca s.calls.length cc) ∧ w'.cell? ⟨w.heap.size, 3, none⟩ = some (.slice pa s.picks.length pc) ∧ Ext w w' := by
      intro w' h
      exact ⟨(h.cell (by simp)).trans (by simp), (h.cell (by simp)).trans (by simp), ((Ext.refl w).alloc _).trans (Below.mono h (by simp))⟩
    go_wp2_with fail
    clear c0 c1 hb0 hx1
    generalize w.alloc (.cells #[.int .i64 s.n, .slice sa s.specs.length sc, .slice ca s.calls.length cc, .slice pa s.picks.length pc] 26) = W0 at henc0 hbox HR
    clear HR
    have HENC := Lib.hid henc0; clear henc0
    have HBOX := Lib.hid hbox; clear hbox
    go_loopw [5, 30] (fun v k wr => ∃ (j : Nat) (cur : List Int), j ≤ s.specs.length ∧ k = .int .i64 j ∧ Hid (cur = preS s j) ∧ cur.length ≤ 2 + 5 * j ∧ Enc W0 (w.heap.size + 1) wr v cur) (fun _ k _ => s.specs.length - (intOf k).toNat)
    case atStart => exact ⟨0, [s.n, (s.specs.length : Int)], Nat.zero_le _, rfl, Lib.hid rfl, by simp, HENC.out⟩
    case round =>
      obtain ⟨j, cur, hj, rfl, HC, hcl, henc⟩ := hrel
      have HEN := Lib.hid henc; clear henc
      obtain ⟨q2, q3, hw⟩ := HBOX.out wr HEN.out.below
      by_cases hlt : j < s.specs.length
      · clear q2 q3
        obtain ⟨b, off, rfl, e0, e1, e2⟩ := (HM1.out.ext hw).at hlt
        have hxo := HOK.out.2.2.2.2.1 _ (nthD_mem spc0 s.specs j hlt)
        have H1 := Lib.hid (preS_succ s j hlt)
        generalize nthD spc0 s.specs j = x at *
        obtain ⟨⟨k1, k2⟩, ⟨p1, p2⟩, ⟨r1, r2⟩⟩ := hxo
        clear hw
        go_wp2_with (first
          | (at_builtin; refine wpList_enc rfl (.tmp 34) (.tmp 38) rfl W0 (w.heap.size + 1) _ cur [x.kind] _ 1 1 rfl rfl ((HEN.out.alloc _).alloc _) rfl (fun h => by cases h) (ints_fresh _ _ _ _ rfl _ _ (by simp)) ?_ ?_; rotate_right; intro v1 w2 he1 hk1; have HE1 := Lib.hid he1; clear he1; have hb1 := hk1 _ _ _ _ (by decide) (block_old _ (block_new _ _)); clear hk1; have g1 := block_cell hb1 1 rfl; have g2 := block_cell hb1 2 rfl; have g3 := block_lt hb1; have HB1 := Lib.hid hb1; clear hb1)
          | (at_builtin; refine wpList_enc rfl (.tmp 40) (.tmp 43) rfl W0 (w.heap.size + 1) _ (cur ++ [x.kind]) (encTwo x.p) _ 2 2 rfl rfl (HE1.out.alloc _) rfl (fun h => by cases h) (encTwo_fresh _ _ _) ?_ ?_; rotate_right; intro v2 w3 he2 hk2; have HE2 := Lib.hid he2; clear he2; have hb2 := hk2 _ _ _ _ (by decide) (block_old _ HB1.out); clear hk2 g1 g2 g3; have g2 := block_cell hb2 2 rfl; have g3 := block_lt hb2; clear hb2)
          | (at_builtin; refine wpList_enc rfl (.tmp 45) (.tmp 48) rfl W0 (w.heap.size + 1) _ (cur ++ [x.kind] ++ encTwo x.p) (encTwo x.q) _ 2 2 rfl rfl (HE2.out.alloc _) rfl (fun h => by cases h) (encTwo_fresh _ _ _) ?_ ?_; rotate_right; intro v3 w4 he3 _; have HE3 := Lib.hid he3; clear he3)
          | (go_at_call 32; refine (two_any _ _ (by omega) (by omega)).mono ?_; rintro e w' ⟨rfl, rfl⟩))
        any_goals (simp [List.length_append, encTwo_len]; omega)
        go_roundw
        case rel =>
          refine ⟨j + 1, _, by omega, by go_num, Lib.hid ?_, ?_, HE3.out⟩
          · rw [H1.out, HC.out]; simp [encSpec]
          · simp [List.length_append, encTwo_len]; omega
        case measure => simp [intOf]; omega
      · have hje : j = s.specs.length := by omega
        subst hje
        clear hlt hj
        go_wp2_with (first
          | (at_builtin; refine wpList_enc rfl (.tmp 51) (.tmp 55) rfl W0 (w.heap.size + 1) _ cur (encTwo s.calls.length) _ 2 2 rfl rfl (HEN.out.alloc _) rfl (fun h => by cases h) (encTwo_fresh _ _ _) ?_ ?_; rotate_right; intro v1 w2 he1 _; have HE1 := Lib.hid he1; clear he1; clear q2 q3 hw; obtain ⟨q2, q3, hw⟩ := HBOX.out w2 HE1.out.below)
          | (go_at_call 32; refine (two_any _ _ (by omega) (by omega)).mono ?_; rintro e w' ⟨rfl, rfl⟩))
        any_goals (simp [List.length_append, encTwo_len]; omega)
        have HCC : Hid (cur ++ encTwo s.calls.length = preC s 0) := Lib.hid (by rw [preC_zero, HC.out])
        have hcl2 : (cur ++ encTwo s.calls.length).length ≤ 44 := by rw [List.length_append, encTwo_len]; omega
        generalize cur ++ encTwo s.calls.length = cur at *
        clear hw HEN HC
        go_wp2_with fail
        go_loopw [5, 60] (fun v k wr => ∃ (j : Nat) (cur : List Int), j ≤ s.calls.length ∧ k = .int .i64 j ∧ Hid (cur = preC s j) ∧ cur.length ≤ 44 + 36 * j ∧ Enc W0 (w.heap.size + 1) wr v cur) (fun _ k _ => s.calls.length - (intOf k).toNat)
        case atStart => exact ⟨0, cur, Nat.zero_le _, rfl, HCC, by omega, HE1.out⟩
        case round =>
          clear HE1 HCC hcl2 q2 q3
          obtain ⟨j, cur, hj, rfl, HC, hcl, henc⟩ := hrel
          have HEN := Lib.hid henc; clear henc
          obtain ⟨q2, q3, hw⟩ := HBOX.out wr HEN.out.below
          by_cases hlt : j < s.calls.length
          · clear q2 q3
            obtain ⟨b, off, rfl, e0, e1, e2, e3, e4, e5⟩ := (HM2.out.ext hw).at hlt
            have hxo := HOK.out.2.2.2.2.2.1 _ (nthD_mem cll0 s.calls j hlt)
            have hxw := HWD.out _ (nthD_mem cll0 s.calls j hlt)
            have H1 := Lib.hid (preC_succ s j hlt)
            generalize nthD cll0 s.calls j = x at *
            obtain ⟨⟨t1, t2⟩, ⟨o1, o2⟩, ⟨k1, k2⟩⟩ := hxo
            have HXW := Lib.hid hxw; clear hxw
            clear hw
            go_wp2_with (first
              | (at_builtin; refine wpList_enc rfl (.tmp 64) (.tmp 74) rfl W0 (w.heap.size + 1) _ cur [x.thread, x.obj, x.kind] _ 3 3 rfl rfl ((HEN.out.alloc _).alloc _) rfl (fun h => by cases h) (ints_fresh _ _ _ _ rfl _ _ (by simp)) ?_ ?_; rotate_right; intro v1 w2 he1 hk1; have HE1 := Lib.hid he1; clear he1; have hb1 := hk1 _ _ _ _ (by decide) (block_old _ (block_new _ _)); clear hk1; have g1 := block_cell hb1 3 rfl; have g2 := block_cell hb1 4 rfl; have g3 := block_cell hb1 5 rfl; have g4 := block_lt hb1; clear hb1)
              | fail)
            any_goals (simp [List.length_append, encTwo_len]; omega)
            go_loopw [5, 84] (fun v k wq => ∃ (i : Nat) (cu : List Int), i ≤ 3 ∧ k = .int .i64 i ∧ Hid (cu = cur ++ [x.thread, x.obj, x.kind] ++ ([x.a, x.b, x.c].take i).flatMap (numB 10)) ∧ cu.length ≤ 47 + 36 * j + 11 * i ∧ Enc W0 (w.heap.size + 1) wq v cu ∧
              wq.heap[w2.heap.size]? = some (.cells #[.int .u64 x.a, .int .u64 x.b, .int .u64 x.c] 47)) (fun _ k _ => 3 - (intOf k).toNat)
            case atStart => exact ⟨0, _, by omega, rfl, Lib.hid (by simp), by simp; omega, HE1.out.alloc _, block_new _ _⟩
            case round =>
              obtain ⟨i, cu, hi, rfl, HCU, hcul, henq, hbl⟩ := hrel
              have HEQ := Lib.hid henq; clear henq
              have HBL := Lib.hid hbl; clear hbl
              clear g1 g2 g3 g4
              by_cases hlt3 : i < 3
              · have hci : wr.cell? ⟨w2.heap.size, i, none⟩ = some (.int .u64 (nth [x.a, x.b, x.c] i)) ∧ u64Ok (nth [x.a, x.b, x.c] i) ∧ ([x.a, x.b, x.c].take (i + 1)).flatMap (numB 10) = ([x.a, x.b, x.c].take i).flatMap (numB 10) ++ numB 10 (nth [x.a, x.b, x.c] i) := by
                  obtain ⟨u1, u2, u3⟩ := HXW.out
                  rcases (show i = 0 ∨ i = 1 ∨ i = 2 by omega) with rfl | rfl | rfl
                  · exact ⟨block_cell HBL.out 0 rfl, u1, by simp [nth]⟩
                  · exact ⟨block_cell HBL.out 1 rfl, u2, by simp [nth]⟩
                  · exact ⟨block_cell HBL.out 2 rfl, u3, by simp [nth]⟩
                obtain ⟨hci, hu, hfm⟩ := hci
                have HFM := Lib.hid hfm; clear hfm
                have HU := Lib.hid hu; clear hu
                generalize nth [x.a, x.b, x.c] i = y at *
                go_wp2_with fail
                refine (number_any y _ HU.out).mono ?_
                rintro e w3 ⟨na, nc, rfl, hnil, hni, hxn⟩
                have HNN := Lib.hid hnil; clear hnil
                have HNI := Lib.hid hni; clear hni
                have hnl := (numB_len 10 y).2
                have HXN := Lib.hid hxn; clear hxn
                have HE3 := Lib.hid (HEQ.out.ext HXN.out)
                go_wp2_with (at_builtin; refine wpList_enc rfl (.tmp 88) (.tmp 90) rfl W0 (w.heap.size + 1) _ cu (numB 10 y) na _ nc rfl rfl HE3.out rfl HNN.out HNI.out ?_ ?_; rotate_right; intro v4 w4 he4 hk4; have HE4 := Lib.hid he4; clear he4; have HK4 := Lib.hid hk4; clear hk4)
                any_goals (first | omega | (simp; omega))
                go_roundw
                case rel =>
                  refine ⟨i + 1, _, by omega, by go_num, Lib.hid ?_, ?_, HE4.out, HK4.out _ _ _ _ (by decide) (block_ext HXN.out HBL.out)⟩
                  · rw [HFM.out, HCU.out, List.append_assoc _ _ (numB 10 y)]
                  · rw [List.length_append]; omega
                case measure => simp [intOf]; omega
              · have hi3 : i = 3 := by omega
                have HCN : Hid (cu = preC s (j + 1)) := Lib.hid (by rw [H1.out, HCU.out, hi3, HC.out]; simp [encCall])
                have hcul2 : cu.length ≤ 44 + 36 * (j + 1) := by omega
                clear hi3 HCU
                go_wp2
                go_roundw
                case rel => exact ⟨j + 1, cu, by omega, by go_num, HCN, hcul2, HEQ.out⟩
                case measure => simp [intOf]; omega
          · have hje : j = s.calls.length := by omega
            subst hje
            clear hlt hj
            have hcl3 : cur.length ≤ 40000 := by omega
            have HPK := Lib.hid (show ∀ p ∈ s.picks, byteOk p from HOK.out.2.2.2.2.2.2)
            clear hcl
            go_wp2_with fail
            go_loopw [5, 12] (fun v k wr => ∃ (i : Nat) (done : List Int), i ≤ s.picks.length ∧ k = .int .i64 i ∧ Hid (encRuns s.picks.length s.picks = done ++ encRuns (s.picks.length - i) (s.picks.drop i)) ∧ done.length ≤ 2 * i ∧ Enc W0 (w.heap.size + 1) wr v (cur ++ done)) (fun _ k _ => s.picks.length - (intOf k).toNat)
            case atStart => exact ⟨0, [], Nat.zero_le _, rfl, Lib.hid (by simp), by simp, by rw [List.append_nil]; exact HEN.out⟩
            case round =>
              clear HEN q2 q3 hw
              obtain ⟨i, done, hi, rfl, HD, hdl, henc⟩ := hrel
              have HEN := Lib.hid henc; clear henc
              obtain ⟨q2, q3, hw⟩ := HBOX.out wr HEN.out.below
              by_cases hlt : i < s.picks.length
              · have HPI := Lib.hid (HM3.out.ext hw)
                clear hw
                obtain ⟨b, off, rfl, e0⟩ := HPI.out.at hlt
                have hxb := HPK.out _ (nth_mem s.picks i hlt)
                obtain ⟨xb1, xb2⟩ := hxb
                have HST := Lib.hid (encRuns_at s.picks i hlt)
                generalize hxe : nth s.picks i = x at *
                clear hxe
                go_wp2_with fail
                obtain ⟨wo, rfl⟩ : ∃ wo : World, wo = wr := ⟨_, rfl⟩
                go_loopw [13] (fun k wq => ∃ m : Nat, 1 ≤ m ∧ m ≤ 255 ∧ i + m ≤ s.picks.length ∧ k = .int .i64 m ∧ Hid (lead x (s.picks.drop (i + 1)) 254 + 1 = m + lead x (s.picks.drop (i + m)) (255 - m)) ∧ ∃ q, wq = wo.drewN q) (fun k _ => 255 - (intOf k).toNat)
                case atStart => exact ⟨1, by omega, by omega, by omega, rfl, Lib.hid (by show _ = 1 + lead _ _ 254; omega), 0, rfl⟩
                case round =>
                  obtain ⟨m, hm1, hm2, hm3, rfl, HL, q, rfl⟩ := hrel
                  have fin : ∀ (_h : 255 ≤ m ∨ s.picks.length ≤ i + m ∨ (i + m < s.picks.length ∧ nth s.picks (i + m) ≠ x)), lead x (s.picks.drop (i + 1)) 254 + 1 = m := fun h => by
                    rw [HL.out, lead_stop x s.picks i m h]; rfl
                  have FIN := Lib.hid fin; clear fin
                  have hwr0 : (i : Int) + m ≤ 9223372036854775807 := by omega
                  by_cases h1 : i + m < s.picks.length
                  · have d1 : decide ((i : Int) + (m : Int) < (s.picks.length : Int)) = true := decide_eq_true (by omega)
                    by_cases h2 : m < 255
                    · have d2 : decide ((m : Int) < 255) = true := decide_eq_true (by omega)
                      obtain ⟨b', off', hbb, e1⟩ := HPI.out.at h1
                      obtain ⟨rfl, rfl⟩ : b = b' ∧ off = off' := by simpa using hbb
                      clear hbb
                      by_cases h3 : nth s.picks (i + m) = x
                      · have HLS := Lib.hid (lead_step x s.picks i m h2 h1 h3)
                        rw [h3] at e1; clear h3
                        go_wp2
                        go_quiet (fail)
                        go_wp2
                        go_roundw
                        case rel => exact ⟨m + 1, by omega, by omega, by omega, by go_num, Lib.hid (by rw [HL.out, HLS.out]; omega), _, rfl⟩
                        case measure => simp [intOf]; omega
                      · have d3 : (nth s.picks (i + m) == x) = false := by simpa using h3
                        have FM := Lib.hid (FIN.out (.inr (.inr ⟨h1, h3⟩)))
                        clear h3
                        go_wp2
                        go_quiet (fail)
                        go_wp2_with (at_builtin; refine wpList_enc rfl (.tmp 127) (.tmp 136) rfl W0 (w.heap.size + 1) _ (cur ++ done) [x, (m : Int)] _ 2 2 rfl rfl ((HEN.out.drewN _).alloc _) rfl (fun h => by cases h) (ints_fresh _ _ _ _ rfl _ _ (by simp)) ?_ ?_; rotate_right; intro v5 w5 he5 _; have HE5 := Lib.hid he5; clear he5)
                        any_goals (rw [List.length_append]; omega)
                        go_roundw
                        case rel =>
                          refine ⟨i + m, done ++ [x, (m : Int)], by omega, by go_num, Lib.hid ?_, by rw [List.length_append]; simp; omega, by rw [← List.append_assoc]; exact HE5.out⟩
                          have ef := FM.out
                          have hst := HST.out
                          rw [ef] at hst
                          have el : ((lead x (s.picks.drop (i + 1)) 254 : Nat) : Int) + 1 = (m : Int) := by omega
                          rw [el] at hst
                          rw [HD.out, hst, List.append_assoc]; rfl
                        case measure => simp [intOf]; omega
                    · have d2 : decide ((m : Int) < 255) = false := decide_eq_false (by omega)
                      have FM := Lib.hid (FIN.out (.inl (by omega)))
                      go_wp2
                      go_quiet (fail)
                      go_wp2_with (at_builtin; refine wpList_enc rfl (.tmp 127) (.tmp 136) rfl W0 (w.heap.size + 1) _ (cur ++ done) [x, (m : Int)] _ 2 2 rfl rfl ((HEN.out.drewN _).alloc _) rfl (fun h => by cases h) (ints_fresh _ _ _ _ rfl _ _ (by simp)) ?_ ?_; rotate_right; intro v5 w5 he5 _; have HE5 := Lib.hid he5; clear he5)
                      any_goals (rw [List.length_append]; omega)
                      go_roundw
                      case rel =>
                        refine ⟨i + m, done ++ [x, (m : Int)], by omega, by go_num, Lib.hid ?_, by rw [List.length_append]; simp; omega, by rw [← List.append_assoc]; exact HE5.out⟩
                        have ef := FM.out
                        have hst := HST.out
                        rw [ef] at hst
                        have el : ((lead x (s.picks.drop (i + 1)) 254 : Nat) : Int) + 1 = (m : Int) := by omega
                        rw [el] at hst
                        rw [HD.out, hst, List.append_assoc]; rfl
                      case measure => simp [intOf]; omega
                  · have d1 : decide ((i : Int) + (m : Int) < (s.picks.length : Int)) = false := decide_eq_false (by omega)
                    have FM := Lib.hid (FIN.out (.inr (.inl (by omega))))
                    go_wp2
                    go_quiet (fail)
                    go_wp2_with (at_builtin; refine wpList_enc rfl (.tmp 127) (.tmp 136) rfl W0 (w.heap.size + 1) _ (cur ++ done) [x, (m : Int)] _ 2 2 rfl rfl ((HEN.out.drewN _).alloc _) rfl (fun h => by cases h) (ints_fresh _ _ _ _ rfl _ _ (by simp)) ?_ ?_; rotate_right; intro v5 w5 he5 _; have HE5 := Lib.hid he5; clear he5)
                    any_goals (rw [List.length_append]; omega)
                    go_roundw
                    case rel =>
                      refine ⟨i + m, done ++ [x, (m : Int)], by omega, by go_num, Lib.hid ?_, by rw [List.length_append]; simp; omega, by rw [← List.append_assoc]; exact HE5.out⟩
                      have ef := FM.out
                      have hst := HST.out
                      rw [ef] at hst
                      have el : ((lead x (s.picks.drop (i + 1)) 254 : Nat) : Int) + 1 = (m : Int) := by omega
                      rw [el] at hst
                      rw [HD.out, hst, List.append_assoc]; rfl
                    case measure => simp [intOf]; omega
              · have hie : i = s.picks.length := by omega
                have hfin : cur ++ done = encS s := by
                  have h1 := HD.out
                  rw [hie, Nat.sub_self] at h1
                  rw [enc_pre, h1, HC.out]; simp [encRuns]
                have HFIN := Lib.hid hfin; clear hfin
                go_wp2
                go_ret2
                have hen := HEN.out
                rw [HFIN.out] at hen
                obtain ⟨a', cap', rfl, _, _, hi', hnil'⟩ := IsInts.ownK hen.own
                exact ⟨hw, .inr ⟨HE.out, a', cap', rfl, hnil', hi'⟩⟩
  · have HE := Lib.hid he
    have hne : (errF s != 0) = true := by simpa using he
    clear he
    go_wp2
    go_ret2
    exact ⟨((Ext.refl _).alloc _).trans hx1, .inl ⟨HE.out, rfl⟩⟩

end Go.Proofs.YtcfbcffmlinlaaaDoor
