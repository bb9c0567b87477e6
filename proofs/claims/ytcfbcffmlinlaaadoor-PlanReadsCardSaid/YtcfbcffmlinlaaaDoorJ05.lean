/-
  script.Encode: a script's bytes.
  script's reader: where it lies, what its calls leave as it was; how it gives up.
  script's reader: the next two bytes' number.
  script's reader: the next number.
  Single blocks, followed through a walk; what the reader's calls should read, part by part.
-/
import Derived.Test.YtcfbcffmlinlaaaDoorJ04
import Derived.StillTailTactics
set_option linter.unusedVariables false
namespace Go.Proofs.YtcfbcffmlinlaaaDoor
open Go.RowKit

theorem encRuns_at (l : List Int) (i : Nat) (h : i < l.length) :
    encRuns (l.length - i) (l.drop i) = nth l i :: (((lead (nth l i) (l.drop (i + 1)) 254 : Nat) : Int) + 1) :: encRuns (l.length - (i + (lead (nth l i) (l.drop (i + 1)) 254 + 1))) (l.drop (i + (lead (nth l i) (l.drop (i + 1)) 254 + 1))) := by
  have hl := lead_le (nth l i) (l.drop (i + 1)) 254
  rw [List.length_drop] at hl
  have e : l.length - i = (l.length - i - 1) + 1 := by omega
  rw [e, drop_cons l i h]
  simp only [encRuns, List.drop_drop]
  congr 2
  have e2 : i + 1 + lead (nth l i) (l.drop (i + 1)) 254 = i + (lead (nth l i) (l.drop (i + 1)) 254 + 1) := by omega
  rw [e2]
  exact encRuns_fuel _ _ _ (by rw [List.length_drop]; omega) (by rw [List.length_drop]; omega)

theorem lead_cons (x y : Int) (r : List Int) (k : Nat) : lead x (y :: r) (k + 1) = if y = x then lead x r k + 1 else 0 := rfl

theorem lead_step (x : Int) (l : List Int) (i m : Nat) (hm : m < 255) (h : i + m < l.length) (he : nth l (i + m) = x) :
    lead x (l.drop (i + m)) (255 - m) = 1 + lead x (l.drop (i + (m + 1))) (255 - (m + 1)) := by
  have e : 255 - m = (255 - (m + 1)) + 1 := by omega
  rw [drop_cons l (i + m) h, e, lead_cons, if_pos he, Nat.add_comm, Nat.add_assoc i m 1]

theorem lead_stop (x : Int) (l : List Int) (i m : Nat) (h : 255 ≤ m ∨ l.length ≤ i + m ∨ (i + m < l.length ∧ nth l (i + m) ≠ x)) : lead x (l.drop (i + m)) (255 - m) = 0 := by
  by_cases h1 : 255 ≤ m
  · have : 255 - m = 0 := by omega
    rw [this]; cases l.drop (i + m) <;> rfl
  · by_cases h2 : l.length ≤ i + m
    · rw [List.drop_eq_nil_iff.2 h2]
      cases 255 - m <;> rfl
    · rcases h with h | h | ⟨h3, h4⟩
      · omega
      · omega
      · have e : 255 - m = (255 - (m + 1)) + 1 := by omega
        rw [drop_cons l (i + m) h3, e, lead_cons, if_neg h4]

/-- What script.Encode answers. -/
def EncPost (s : Scr) (w : World) (e : Ending) (w' : World) : Prop :=
  Ext w w' ∧
  ((errF s ≠ 0 ∧ e = .returned (.tuple #[.slice none 0 0, .int .i64 (errF s)])) ∨
   (errF s = 0 ∧ ∃ a cap, e = .returned (.tuple #[.slice a (encS s).length cap, .int .i64 0]) ∧ (a = none → cap = 0) ∧ IsInts .u8 w' a (encS s)))

set_option maxRecDepth 100000 in
set_option maxHeartbeats 2000000 in
theorem encode_any (s : Scr) (m : Lies) (w : World) (hf : Fits s) (hwd : s.wide) (hm : LiesAt s m w) :
    Calls Tryd.prog 15 #[.agg #[.int .i64 s.n, .slice m.sa s.specs.length m.sc, .slice m.ca s.calls.length m.cc, .slice m.pa s.picks.length m.pc]] w (EncPost s w) := by
  have hright := right_any s m (w.alloc (.cells #[.int .i64 s.n, .slice m.sa s.specs.length m.sc, .slice m.ca s.calls.length m.cc, .slice m.pa s.picks.length m.pc] 26)) hf (hm.ext ((Ext.refl _).alloc _))
  obtain ⟨sa, sc, ca, cc, pa, pc⟩ := m
  simp only at hright ⊢
  have HM1 := Lib.hid hm.specs
  have HM2 := Lib.hid hm.calls
  have HM3 := Lib.hid hm.picks
  clear hm
  simp only at HM1 HM2 HM3
  have HR := Lib.hid hright; clear hright
  have HWD := Lib.hid hwd; clear hwd
  obtain ⟨⟨f1, f2⟩, f3, f4, f5⟩ := hf
  go_enter Tryd.func15, Tryd.ntmps15
  go_wp2_with fail
  refine HR.out.mono ?_
  rintro e w1 ⟨rfl, hx1⟩
  have c0 : w1.cell? ⟨w.heap.size, 0, none⟩ = some (.int .i64 s.n) := hx1.cell (by simp)
  have c1 : w1.cell? ⟨w.heap.size, 1, none⟩ = some (.slice sa s.specs.length sc) := hx1.cell (by simp)
  have hbs : w.heap.size < w1.heap.size := World.block_lt_of_cell? _ _ c0
  by_cases he : errF s = 0
  · have hok := (errF_zero s).1 he
    have HE := Lib.hid he
    rw [he]; clear he
    have HOK := Lib.hid hok
    obtain ⟨⟨n1, n2⟩, l1, l2, l3, -, -, -⟩ := hok
    have hb0 : Below (w.heap.size + 1) (w.alloc (.cells #[.int .i64 s.n, .slice sa s.specs.length sc, .slice ca s.calls.length cc, .slice pa s.picks.length pc] 26)) w1 := Below.mono hx1 (by simp)
    have henc0 := Enc.lit hb0 (by omega) [s.n, (s.specs.length : Int)] #[.int .u8 s.n, .int .u8 (s.specs.length : Int)] rfl (by unfold maxLen; simp)
    have hbox : ∀ w', Below (w.heap.size + 1) (w.alloc (.cells #[.int .i64 s.n, .slice sa s.specs.length sc, .slice ca s.calls.length cc, .slice pa s.picks.length pc] 26)) w' →
        w'.cell? ⟨w.heap.size, 2, none⟩ = some (.slice ca s.calls.length cc) ∧ w'.cell? ⟨w.heap.size, 3, none⟩ = some (.slice pa s.picks.length pc) ∧ Ext w w' := by
      intro w' h
      exact ⟨(h.cell (by simp)).trans (by simp), (h.cell (by simp)).trans (by simp), ((Ext.refl w).alloc _).trans (Below.mono h (by simp))⟩
    go_wp2_with fail
    clear c0 c1 hb0 hx1
    generalize w.alloc (.cells #[.int .i64 s.n, .slice sa s.specs.length sc, .slice ca s.calls.length cc, .slice pa s.picks.length pc] 26) = W0 at henc0 hbox HR
    clear HR
    have HENC := Lib.hid henc0; clear henc0
    have HBOX := Lib.hid hbox; clear hbox
    go_loopw [5, 30] (fun v k wr => ∃ (j : Nat) (cur : List Int), j ≤ s.specs.length ∧ k = .int .i64 j ∧ Hid (cur = preS s j) ∧ cur.length ≤ 2 + 5 * j ∧ Enc W0 (w.heap.size + 1) wr v cur) (fun _ k _ => s.specs.length - (intOf k).toNat)
    case atStart => exact ⟨0, [s.n, (s.specs.length : Int)], Nat.zero_le _, rfl, Lib.hid rfl, by simp, HENC.out⟩
    case round =>
      obtain ⟨j, cur, hj, rfl, HC, hcl, henc⟩ := hrel
      have HEN := Lib.hid henc; clear henc
      obtain ⟨q2, q3, hw⟩ := HBOX.out wr HEN.out.below
      by_cases hlt : j < s.specs.length
      · clear q2 q3
        obtain ⟨b, off, rfl, e0, e1, e2⟩ := (HM1.out.ext hw).at hlt
        have hxo := HOK.out.2.2.2.2.1 _ (nthD_mem spc0 s.specs j hlt)
        have H1 := Lib.hid (preS_succ s j hlt)
        generalize nthD spc0 s.specs j = x at *
        obtain ⟨⟨k1, k2⟩, ⟨p1, p2⟩, ⟨r1, r2⟩⟩ := hxo
        clear hw
        go_wp2_with (first
          | (at_builtin; refine wpList_enc rfl (.tmp 34) (.tmp 38) rfl W0 (w.heap.size + 1) _ cur [x.kind] _ 1 1 rfl rfl ((HEN.out.alloc _).alloc _) rfl (fun h => by cases h) (ints_fresh _ _ _ _ rfl _ _ (by simp)) ?_ ?_; rotate_right; intro v1 w2 he1 hk1; have HE1 := Lib.hid he1; clear he1; have hb1 := hk1 _ _ _ _ (by decide) (block_old _ (block_new _ _)); clear hk1; have g1 := block_cell hb1 1 rfl; have g2 := block_cell hb1 2 rfl; have g3 := block_lt hb1; have HB1 := Lib.hid hb1; clear hb1)
          | (at_builtin; refine wpList_enc rfl (.tmp 40) (.tmp 43) rfl W0 (w.heap.size + 1) _ (cur ++ [x.kind]) (encTwo x.p) _ 2 2 rfl rfl (HE1.out.alloc _) rfl (fun h => by cases h) (encTwo_fresh _ _ _) ?_ ?_; rotate_right; intro v2 w3 he2 hk2; have HE2 := Lib.hid he2; clear he2; have hb2 := hk2 _ _ _ _ (by decide) (block_old _ HB1.out); clear hk2 g1 g2 g3; have g2 := block_cell hb2 2 rfl; have g3 := block_lt hb2; clear hb2)
          | (at_builtin; refine wpList_enc rfl (.tmp 45) (.tmp 48) rfl W0 (w.heap.size + 1) _ (cur ++ [x.kind] ++ encTwo x.p) (encTwo x.q) _ 2 2 rfl rfl (HE2.out.alloc _) rfl (fun h => by cases h) (encTwo_fresh _ _ _) ?_ ?_; rotate_right; intro v3 w4 he3 _; have HE3 := Lib.hid he3; clear he3)
          | (go_at_call 32; refine (two_any _ _ (by omega) (by omega)).mono ?_; rintro e w' ⟨rfl, rfl⟩))
        any_goals (simp [List.length_append, encTwo_len]; omega)
        go_roundw
        case rel =>
          refine ⟨j + 1, _, by omega, by go_num, Lib.hid ?_, ?_, HE3.out⟩
          · rw [H1.out, HC.out]; simp [encSpec]
          · simp [List.length_append, encTwo_len]; omega
        case measure => simp [intOf]; omega
      · have hje : j = s.specs.length := by omega
        subst hje
        clear hlt hj
        go_wp2_with (first
          | (at_builtin; refine wpList_enc rfl (.tmp 51) (.tmp 55) rfl W0 (w.heap.size + 1) _ cur (encTwo s.calls.length) _ 2 2 rfl rfl (HEN.out.alloc _) rfl (fun h => by cases h) (encTwo_fresh _ _ _) ?_ ?_; rotate_right; intro v1 w2 he1 _; have HE1 := Lib.hid he1; clear he1; clear q2 q3 hw; obtain ⟨q2, q3, hw⟩ := HBOX.out w2 HE1.out.below)
          | (go_at_call 32; refine (two_any _ _ (by omega) (by omega)).mono ?_; rintro e w' ⟨rfl, rfl⟩))
        any_goals (simp; omega)
        have HCC : Hid (cur ++ encTwo s.calls.length = preC s 0) := Lib.hid (by rw [preC_zero, HC.out])
        have hcl2 : (cur ++ encTwo s.calls.length).length ≤ 44 := by rw [List.length_append, encTwo_len]; omega
        generalize cur ++ encTwo s.calls.length = cur at *
        clear hw HEN HC
        go_wp2_with fail
        go_loopw [5, 60] (fun v k wr => ∃ (j : Nat) (cur : List Int), j ≤ s.calls.length ∧ k = .int .i64 j ∧ Hid (cur = preC s j) ∧ cur.length ≤ 44 + 36 * j ∧ Enc W0 (w.heap.size + 1) wr v cur) (fun _ k _ => s.calls.length - (intOf k).toNat)
        case atStart => exact ⟨0, cur, Nat.zero_le _, rfl, HCC, by omega, HE1.out⟩
        case round =>
          clear HE1 HCC hcl2 q2 q3
          obtain ⟨j, cur, hj, rfl, HC, hcl, henc⟩ := hrel
          have HEN := Lib.hid henc; clear henc
          obtain ⟨q2, q3, hw⟩ := HBOX.out wr HEN.out.below
          by_cases hlt : j < s.calls.length
          · clear q2 q3
            obtain ⟨b, off, rfl, e0, e1, e2, e3, e4, e5⟩ := (HM2.out.ext hw).at hlt
            have hxo := HOK.out.2.2.2.2.2.1 _ (nthD_mem cll0 s.calls j hlt)
            have hxw := HWD.out _ (nthD_mem cll0 s.calls j hlt)
            have H1 := Lib.hid (preC_succ s j hlt)
            generalize nthD cll0 s.calls j = x at *
            obtain ⟨⟨t1, t2⟩, ⟨o1, o2⟩, ⟨k1, k2⟩⟩ := hxo
            have HXW := Lib.hid hxw; clear hxw
            clear hw
            go_wp2_with (first
              | (at_builtin; refine wpList_enc rfl (.tmp 64) (.tmp 74) rfl W0 (w.heap.size + 1) _ cur [x.thread, x.obj, x.kind] _ 3 3 rfl rfl ((HEN.out.alloc _).alloc _) rfl (fun h => by cases h) (ints_fresh _ _ _ _ rfl _ _ (by simp)) ?_ ?_; rotate_right; intro v1 w2 he1 hk1; have HE1 := Lib.hid he1; clear he1; have hb1 := hk1 _ _ _ _ (by decide) (block_old _ (block_new _ _)); clear hk1; have g1 := block_cell hb1 3 rfl; have g2 := block_cell hb1 4 rfl; have g3 := block_cell hb1 5 rfl; have g4 := block_lt hb1; clear hb1)
              | fail)
            any_goals (simp; omega)
            go_loopw [5, 84] (fun v k wq => ∃ (i : Nat) (cu : List Int), i ≤ 3 ∧ k = .int .i64 i ∧ Hid (cu = cur ++ [x.thread, x.obj, x.kind] ++ ([x.a, x.b, x.c].take i).flatMap (numB 10)) ∧ cu.length ≤ 47 + 36 * j + 11 * i ∧ Enc W0 (w.heap.size + 1) wq v cu ∧
              wq.heap[w2.heap.size]? = some (.cells #[.int .u64 x.a, .int .u64 x.b, .int .u64 x.c] 47)) (fun _ k _ => 3 - (intOf k).toNat)
            case atStart => exact ⟨0, _, by omega, rfl, Lib.hid (by simp), by simp; omega, HE1.out.alloc _, block_new _ _⟩
            case round =>
              obtain ⟨i, cu, hi, rfl, HCU, hcul, henq, hbl⟩ := hrel
              have HEQ := Lib.hid henq; clear henq
              have HBL := Lib.hid hbl; clear hbl
              clear g1 g2 g3 g4
              by_cases hlt3 : i < 3
              · have hci : wr.cell? ⟨w2.heap.size, i, none⟩ = some (.int .u64 (nth [x.a, x.b, x.c] i)) ∧ u64Ok (nth [x.a, x.b, x.c] i) ∧ ([x.a, x.b, x.c].take (i + 1)).flatMap (numB 10) = ([x.a, x.b, x.c].take i).flatMap (numB 10) ++ numB 10 (nth [x.a, x.b, x.c] i) := by
                  obtain ⟨u1, u2, u3⟩ := HXW.out
                  rcases (show i = 0 ∨ i = 1 ∨ i = 2 by omega) with rfl | rfl | rfl
                  · exact ⟨block_cell HBL.out 0 rfl, u1, by simp [nth]⟩
                  · exact ⟨block_cell HBL.out 1 rfl, u2, by simp [nth]⟩
                  · exact ⟨block_cell HBL.out 2 rfl, u3, by simp [nth]⟩
                obtain ⟨hci, hu, hfm⟩ := hci
                have HFM := Lib.hid hfm; clear hfm
                have HU := Lib.hid hu; clear hu
                generalize nth [x.a, x.b, x.c] i = y at *
                go_wp2_with fail
                refine (number_any y _ HU.out).mono ?_
                rintro e w3 ⟨na, nc, rfl, hnil, hni, hxn⟩
                have HNN := Lib.hid hnil; clear hnil
                have HNI := Lib.hid hni; clear hni
                have hnl := (numB_len 10 y).2
                have HXN := Lib.hid hxn; clear hxn
                have HE3 := Lib.hid (HEQ.out.ext HXN.out)
                go_wp2_with (at_builtin; refine wpList_enc rfl (.tmp 88) (.tmp 90) rfl W0 (w.heap.size + 1) _ cu (numB 10 y) na _ nc rfl rfl HE3.out rfl HNN.out HNI.out ?_ ?_; rotate_right; intro v4 w4 he4 hk4; have HE4 := Lib.hid he4; clear he4; have HK4 := Lib.hid hk4; clear hk4)
                any_goals (first | omega | (simp; omega))
                go_roundw
                case rel =>
                  refine ⟨i + 1, _, by omega, by go_num, Lib.hid ?_, ?_, HE4.out, HK4.out _ _ _ _ (by decide) (block_ext HXN.out HBL.out)⟩
                  · rw [HFM.out, HCU.out, List.append_assoc _ _ (numB 10 y)]
                  · rw [List.length_append]; omega
                case measure => simp [intOf]; omega
              · have hi3 : i = 3 := by omega
                have HCN : Hid (cu = preC s (j + 1)) := Lib.hid (by rw [H1.out, HCU.out, hi3, HC.out]; simp [encCall])
                have hcul2 : cu.length ≤ 44 + 36 * (j + 1) := by omega
                clear hi3 HCU
                go_wp2
                go_roundw
                case rel => exact ⟨j + 1, cu, by omega, by go_num, HCN, hcul2, HEQ.out⟩
                case measure => simp [intOf]; omega
          · have hje : j = s.calls.length := by omega
            subst hje
            clear hlt hj
            have hcl3 : cur.length ≤ 40000 := by omega
            have HPK := Lib.hid (show ∀ p ∈ s.picks, byteOk p from HOK.out.2.2.2.2.2.2)
            clear hcl
            go_wp2_with fail
            go_loopw [5, 12] (fun v k wr => ∃ (i : Nat) (done : List Int), i ≤ s.picks.length ∧ k = .int .i64 i ∧ Hid (encRuns s.picks.length s.picks = done ++ encRuns (s.picks.length - i) (s.picks.drop i)) ∧ done.length ≤ 2 * i ∧ Enc W0 (w.heap.size + 1) wr v (cur ++ done)) (fun _ k _ => s.picks.length - (intOf k).toNat)
            case atStart => exact ⟨0, [], Nat.zero_le _, rfl, Lib.hid (by simp), by simp, by rw [List.append_nil]; exact HEN.out⟩
            case round =>
              clear HEN q2 q3 hw
              obtain ⟨i, done, hi, rfl, HD, hdl, henc⟩ := hrel
              have HEN := Lib.hid henc; clear henc
              obtain ⟨q2, q3, hw⟩ := HBOX.out wr HEN.out.below
              by_cases hlt : i < s.picks.length
              · have HPI := Lib.hid (HM3.out.ext hw)
                clear hw
                obtain ⟨b, off, rfl, e0⟩ := HPI.out.at hlt
                have hxb := HPK.out _ (nth_mem s.picks i hlt)
                obtain ⟨xb1, xb2⟩ := hxb
                have HST := Lib.hid (encRuns_at s.picks i hlt)
                generalize hxe : nth s.picks i = x at *
                clear hxe
                go_wp2_with fail
                obtain ⟨wo, rfl⟩ : ∃ wo : World, wo = wr := ⟨_, rfl⟩
                go_loopw [13] (fun k wq => ∃ m : Nat, 1 ≤ m ∧ m ≤ 255 ∧ i + m ≤ s.picks.length ∧ k = .int .i64 m ∧ Hid (lead x (s.picks.drop (i + 1)) 254 + 1 = m + lead x (s.picks.drop (i + m)) (255 - m)) ∧ ∃ q, wq = wo.drewN q) (fun k _ => 255 - (intOf k).toNat)
                case atStart => exact ⟨1, by omega, by omega, by omega, rfl, Lib.hid (by show _ = 1 + lead _ _ 254; omega), 0, rfl⟩
                case round =>
                  obtain ⟨m, hm1, hm2, hm3, rfl, HL, q, rfl⟩ := hrel
                  have fin : ∀ (_h : 255 ≤ m ∨ s.picks.length ≤ i + m ∨ (i + m < s.picks.length ∧ nth s.picks (i + m) ≠ x)), lead x (s.picks.drop (i + 1)) 254 + 1 = m := fun h => by
                    rw [HL.out, lead_stop x s.picks i m h]; rfl
                  have FIN := Lib.hid fin; clear fin
                  have hwr0 : (i : Int) + m ≤ 9223372036854775807 := by omega
                  by_cases h1 : i + m < s.picks.length
                  · have d1 : decide ((i : Int) + (m : Int) < (s.picks.length : Int)) = true := decide_eq_true (by omega)
                    by_cases h2 : m < 255
                    · have d2 : decide ((m : Int) < 255) = true := decide_eq_true (by omega)
                      obtain ⟨b', off', hbb, e1⟩ := HPI.out.at h1
                      obtain ⟨rfl, rfl⟩ : b = b' ∧ off = off' := by simpa using hbb
                      clear hbb
                      by_cases h3 : nth s.picks (i + m) = x
                      · have HLS := Lib.hid (lead_step x s.picks i m h2 h1 h3)
                        rw [h3] at e1; clear h3
                        go_wp2
                        go_quiet (fail)
                        go_wp2
                        go_roundw
                        case rel => exact ⟨m + 1, by omega, by omega, by omega, by go_num, Lib.hid (by rw [HL.out, HLS.out]; omega), _, rfl⟩
                        case measure => simp [intOf]; omega
                      · have d3 : (nth s.picks (i + m) == x) = false := by simpa using h3
                        have FM := Lib.hid (FIN.out (.inr (.inr ⟨h1, h3⟩)))
                        clear h3
                        go_wp2
                        go_quiet (fail)
                        go_wp2_with (at_builtin; refine wpList_enc rfl (.tmp 127) (.tmp 136) rfl W0 (w.heap.size + 1) _ (cur ++ done) [x, (m : Int)] _ 2 2 rfl rfl ((HEN.out.drewN _).alloc _) rfl (fun h => by cases h) (ints_fresh _ _ _ _ rfl _ _ (by simp)) ?_ ?_; rotate_right; intro v5 w5 he5 _; have HE5 := Lib.hid he5; clear he5)
                        any_goals (rw [List.length_append]; omega)
                        go_roundw
                        case rel =>
                          refine ⟨i + m, done ++ [x, (m : Int)], by omega, by go_num, Lib.hid ?_, by rw [List.length_append]; simp; omega, by rw [← List.append_assoc]; exact HE5.out⟩
                          have ef := FM.out
                          have hst := HST.out
                          rw [ef] at hst
                          have el : ((lead x (s.picks.drop (i + 1)) 254 : Nat) : Int) + 1 = (m : Int) := by omega
                          rw [el] at hst
                          rw [HD.out, hst, List.append_assoc]; rfl
                        case measure => simp [intOf]; omega
                    · have d2 : decide ((m : Int) < 255) = false := decide_eq_false (by omega)
                      have FM := Lib.hid (FIN.out (.inl (by omega)))
                      go_wp2
                      go_quiet (fail)
                      go_wp2_with (at_builtin; refine wpList_enc rfl (.tmp 127) (.tmp 136) rfl W0 (w.heap.size + 1) _ (cur ++ done) [x, (m : Int)] _ 2 2 rfl rfl ((HEN.out.drewN _).alloc _) rfl (fun h => by cases h) (ints_fresh _ _ _ _ rfl _ _ (by simp)) ?_ ?_; rotate_right; intro v5 w5 he5 _; have HE5 := Lib.hid he5; clear he5)
                      any_goals (rw [List.length_append]; omega)
                      go_roundw
                      case rel =>
                        refine ⟨i + m, done ++ [x, (m : Int)], by omega, by go_num, Lib.hid ?_, by rw [List.length_append]; simp; omega, by rw [← List.append_assoc]; exact HE5.out⟩
                        have ef := FM.out
                        have hst := HST.out
                        rw [ef] at hst
                        have el : ((lead x (s.picks.drop (i + 1)) 254 : Nat) : Int) + 1 = (m : Int) := by omega
                        rw [el] at hst
                        rw [HD.out, hst, List.append_assoc]; rfl
                      case measure => simp [intOf]; omega
                  · have d1 : decide ((i : Int) + (m : Int) < (s.picks.length : Int)) = false := decide_eq_false (by omega)
                    have FM := Lib.hid (FIN.out (.inr (.inl (by omega))))
                    go_wp2
                    go_quiet (fail)
                    go_wp2_with (at_builtin; refine wpList_enc rfl (.tmp 127) (.tmp 136) rfl W0 (w.heap.size + 1) _ (cur ++ done) [x, (m : Int)] _ 2 2 rfl rfl ((HEN.out.drewN _).alloc _) rfl (fun h => by cases h) (ints_fresh _ _ _ _ rfl _ _ (by simp)) ?_ ?_; rotate_right; intro v5 w5 he5 _; have HE5 := Lib.hid he5; clear he5)
                    any_goals (rw [List.length_append]; omega)
                    go_roundw
                    case rel =>
                      refine ⟨i + m, done ++ [x, (m : Int)], by omega, by go_num, Lib.hid ?_, by rw [List.length_append]; simp; omega, by rw [← List.append_assoc]; exact HE5.out⟩
                      have ef := FM.out
                      have hst := HST.out
                      rw [ef] at hst
                      have el : ((lead x (s.picks.drop (i + 1)) 254 : Nat) : Int) + 1 = (m : Int) := by omega
                      rw [el] at hst
                      rw [HD.out, hst, List.append_assoc]; rfl
                    case measure => simp [intOf]; omega
              · have hie : i = s.picks.length := by omega
                have hfin : cur ++ done = encS s := by
                  have h1 := HD.out
                  rw [hie, Nat.sub_self] at h1
                  rw [enc_pre, h1, HC.out]; simp [encRuns]
                have HFIN := Lib.hid hfin; clear hfin
                go_wp2
                go_ret2
                have hen := HEN.out
                rw [HFIN.out] at hen
                obtain ⟨a', cap', rfl, _, _, hi', hnil'⟩ := IsInts.ownK hen.own
                exact ⟨hw, .inr ⟨HE.out, a', cap', rfl, hnil', hi'⟩⟩
  · have HE := Lib.hid he
    have hne : (errF s != 0) = true := by simpa using he
    clear he
    go_wp2
    go_ret2
    exact ⟨((Ext.refl _).alloc _).trans hx1, .inl ⟨HE.out, rfl⟩⟩

end Go.Proofs.YtcfbcffmlinlaaaDoor

namespace Go.Proofs.YtcfbcffmlinlaaaDoor
open Go.RowKit

theorem insist_ok (at' e : Int) (w : World) : Calls Tryd.prog 49 #[.bool true, .int .i64 at', .int .i64 e] w fun x w' => x = .returned (.tuple #[]) ∧ w' = w := by
  go_enter Tryd.func49, Tryd.ntmps49
  go_wp2
  first | go_end0 | refine bodyPost_ret (results_none rfl _ _ _) rfl ?_
  exact ⟨rfl, rfl⟩

theorem insist_no (at' e : Int) (w : World) : Calls Tryd.prog 49 #[.bool false, .int .i64 at', .int .i64 e] w fun x w' =>
    x = .panicked [{ v := .iface 86 (.agg #[.int .i64 at', .int .i64 e]), recovered := false }] ∧ w' = w := by
  go_enter Tryd.func49, Tryd.ntmps49
  go_wp2
  exact ⟨rfl, rfl, rfl⟩

/-- All blocks that were there are as they were, but for R. -/
def Keep (R : Nat) (w w' : World) : Prop := w.grownBy w' (some R)
theorem Keep.refl (R : Nat) (w : World) : Keep R w w := ⟨rfl, rfl, rfl, Nat.le_refl _, fun _ _ _ => rfl⟩
theorem Keep.trans {R : Nat} {a b c : World} (h : Keep R a b) (k : Keep R b c) : Keep R a c := World.grownBy.trans h k
theorem Keep.size {R : Nat} {a b : World} (h : Keep R a b) : a.heap.size ≤ b.heap.size := World.grownBy.size h
theorem Keep.of_ext {R : Nat} {a b : World} (h : Ext a b) : Keep R a b := ⟨h.os, h.tape, h.output, h.size, fun k hk _ => h.block k hk⟩
theorem Keep.alloc {R : Nat} {a w : World} (h : Keep R a w) (o : Obj) : Keep R a (w.alloc o) := h.trans (Keep.of_ext ((Ext.refl w).alloc o))
theorem Keep.drewN {R : Nat} {a w : World} (h : Keep R a w) (n : Nat) : Keep R a (w.drewN n) := h.trans (Keep.of_ext ((Ext.refl w).drewN n))
theorem keep_set (R i : Nat) (w : World) (v : Value) : Keep R w (w.setCell ⟨R, i, none⟩ v) :=
  ⟨rfl, rfl, rfl, by simp, fun k _ hne => heap_setCell_other w _ k v (by intro h; exact hne (by rw [h]))⟩
theorem Keep.below {R : Nat} {w0 a b : World} (h : Keep R a b) (h0 : Below R w0 a) (hR : R ≤ a.heap.size) : Below R w0 b :=
  ⟨h.os.trans h0.os, h.tape.trans h0.tape, h.output.trans h0.output, Nat.le_trans h0.size h.size, fun k hk => (World.grownBy.block h k (by omega) (by intro he; simp at he; omega)).trans (h0.block k hk)⟩
theorem Keep.block {R : Nat} {a b : World} (h : Keep R a b) {k : Nat} {x : Obj} (hk : k ≠ R) (hx : a.heap[k]? = some x) : b.heap[k]? = some x := by
  rw [World.grownBy.block h k (block_lt hx) (by intro he; simp at he; exact hk he)]; exact hx
theorem Keep.cell {R : Nat} {a b : World} (h : Keep R a b) {p : Addr} {v : Value} (hk : p.block ≠ R) (hx : a.cell? p = some v) : b.cell? p = some v := by
  rw [World.cell?_of_block (World.grownBy.block h p.block (World.block_lt_of_cell? _ _ hx) (by intro he; simp at he; exact hk he))]; exact hx
theorem Keep.own {R : Nat} {a b : World} (h : Keep R a b) {B : Nat} {E : TypeId} {size n : Nat} {v : Value} {xs : List Value} (ho : a.ownsRow B E size v n xs) (hB : R < B) : b.ownsRow B E size v n xs := by
  refine ⟨ho.1, ?_⟩
  rcases ho.2 with h2 | ⟨g, cap, cur, hv, hg, hh, r⟩
  · exact .inl h2
  · exact .inr ⟨g, cap, cur, hv, hg, h.block (by omega) hh, r⟩

/-- The reader at R: the bytes l, and how far it has come. -/
structure Rd (w : World) (R : Nat) (l : List Int) (ba : Option Addr) (bc : Nat) (j : Nat) : Prop where
  here : w.heap[R]? = some (.cells #[.slice ba l.length bc, .int .i64 j] 90 (0, 0))
  bytes : l = [] ∨ ∃ b off, ba = some ⟨b, off, none⟩ ∧ b ≠ R ∧ ∀ i, i < l.length → w.cell? ⟨b, off + i, none⟩ = some (.int .u8 (nth l i))
  le : j ≤ l.length

theorem Rd.keep {w w' : World} {R : Nat} {l : List Int} {ba : Option Addr} {bc j : Nat} (h : Rd w R l ba bc j) (hk : Keep R w w') (hh : w'.heap[R]? = w.heap[R]?) : Rd w' R l ba bc j := by
  refine ⟨hh.trans h.here, ?_, h.le⟩
  rcases h.bytes with h1 | ⟨b, off, h1, h2, h3⟩
  · exact .inl h1
  · exact .inr ⟨b, off, h1, h2, fun i hi => hk.cell h2 (h3 i hi)⟩
theorem Rd.ext {w w' : World} {R : Nat} {l : List Int} {ba : Option Addr} {bc j : Nat} (h : Rd w R l ba bc j) (he : Ext w w') : Rd w' R l ba bc j := h.keep (Keep.of_ext he) (he.block R (block_lt h.here))
theorem Rd.alloc {w : World} {R : Nat} {l : List Int} {ba : Option Addr} {bc j : Nat} (h : Rd w R l ba bc j) (o : Obj) : Rd (w.alloc o) R l ba bc j := h.ext ((Ext.refl w).alloc o)
theorem Rd.drewN {w : World} {R : Nat} {l : List Int} {ba : Option Addr} {bc j : Nat} (h : Rd w R l ba bc j) (n : Nat) : Rd (w.drewN n) R l ba bc j := h.ext ((Ext.refl w).drewN n)
theorem Rd.set {w : World} {R : Nat} {l : List Int} {ba : Option Addr} {bc j : Nat} (h : Rd w R l ba bc j) (k : Nat) (hk : k ≤ l.length) : Rd (w.setCell ⟨R, 1, none⟩ (.int .i64 k)) R l ba bc k := by
  refine ⟨?_, ?_, hk⟩
  · rw [heap_setCell_same w R 1 _ _ _ h.here]; rfl
  · rcases h.bytes with h1 | ⟨b, off, h1, h2, h3⟩
    · exact .inl h1
    · exact .inr ⟨b, off, h1, h2, fun i hi => (keep_set R 1 w _).cell h2 (h3 i hi)⟩
theorem Rd.lt {w : World} {R : Nat} {l : List Int} {ba : Option Addr} {bc j : Nat} (h : Rd w R l ba bc j) : R < w.heap.size := block_lt h.here
theorem Rd.c0 {w : World} {R : Nat} {l : List Int} {ba : Option Addr} {bc j : Nat} (h : Rd w R l ba bc j) : w.cell? ⟨R, 0, none⟩ = some (.slice ba l.length bc) := block_cell h.here 0 rfl
theorem Rd.c1 {w : World} {R : Nat} {l : List Int} {ba : Option Addr} {bc j : Nat} (h : Rd w R l ba bc j) : w.cell? ⟨R, 1, none⟩ = some (.int .i64 j) := block_cell h.here 1 rfl
theorem Rd.fz {w : World} {R : Nat} {l : List Int} {ba : Option Addr} {bc j : Nat} (h : Rd w R l ba bc j) (i : Nat) : w.frozen? ⟨R, i, none⟩ = false := by simp [World.frozen?, h.here]
theorem Rd.at {w : World} {R : Nat} {l : List Int} {ba : Option Addr} {bc j : Nat} (h : Rd w R l ba bc j) (hj : j < l.length) : ∃ b off, ba = some ⟨b, off, none⟩ ∧ b ≠ R ∧ w.cell? ⟨b, off + j, none⟩ = some (.int .u8 (nth l j)) := by
  rcases h.bytes with h1 | ⟨b, off, h1, h2, h3⟩
  · subst h1; simp at hj
  · exact ⟨b, off, h1, h2, h3 j hj⟩

/-- It gives up: at a place among the bytes, for a reason. -/
def Bad (l : List Int) (e : Ending) : Prop :=
  ∃ p r : Int, e = .panicked [{ v := .iface 86 (.agg #[.int .i64 p, .int .i64 r]), recovered := false }] ∧ 0 ≤ p ∧ p ≤ l.length ∧ r ≠ 0 ∧ (l = [1, 1] → p = 2 ∧ r = 4)

theorem Bad.mk (l : List Int) (p r : Int) (h0 : 0 ≤ p) (h1 : p ≤ l.length) (h2 : r ≠ 0) (h3 : l = [1, 1] → p = 2 ∧ r = 4) : Bad l (.panicked [{ v := .iface 86 (.agg #[.int .i64 p, .int .i64 r]), recovered := false }]) := ⟨p, r, rfl, h0, h1, h2, h3⟩

/-- What a reading call answers, p being what it should read. -/
def ReadPost {α : Type} (w : World) (R : Nat) (l : List Int) (ba : Option Addr) (bc : Nat) (p : Option (α × List Int)) (ret : α → Ending → World → Prop) (e : Ending) (w' : World) : Prop :=
  Keep R w w' ∧ ((p = none ∧ Bad l e) ∨ ∃ v j, p = some (v, l.drop j) ∧ ret v e w' ∧ Rd w' R l ba bc j)

def pByte : List Int → Option (Int × List Int)
  | [] => none
  | x :: r => some (x, r)
def retInt (k : IntKind) (x : Int) (e : Ending) (_ : World) : Prop := e = .returned (.int k x)

theorem pByte_none {l : List Int} {j : Nat} (h : ¬ j < l.length) : pByte (l.drop j) = none := by rw [List.drop_eq_nil_iff.2 (by omega)]; rfl
theorem pByte_some {l : List Int} {j : Nat} (h : j < l.length) : pByte (l.drop j) = some (nth l j, l.drop (j + 1)) := by rw [drop_cons l j h]; rfl

theorem eleven {l : List Int} {j : Nat} (h : l = [1, 1]) (hj : j < l.length) : nth l j = 1 := by
  subst h
  rcases (show j = 0 ∨ j = 1 by simp at hj; omega) with rfl | rfl <;> rfl

set_option maxRecDepth 100000 in
set_option maxHeartbeats 1000000 in
theorem byte_any (w : World) (R : Nat) (l : List Int) (ba : Option Addr) (bc j : Nat) (h : Rd w R l ba bc j) (hb : ∀ b ∈ l, byteOk b) (hl : l.length ≤ 9223372036854775807) :
    Calls Tryd.prog 48 #[.pointer (some ⟨R, 0, none⟩)] w (ReadPost w R l ba bc (pByte (l.drop j)) (retInt .i64)) := by
  have h0 := h.c0
  have h1 := h.c1
  have h2 := h.fz 1
  have hlt := h.lt
  have hle := h.le
  by_cases hj : j < l.length
  · have HN := Lib.hid (pByte_some hj)
    obtain ⟨b, off, rfl, hne, hc⟩ := h.at hj
    obtain ⟨x0, x1⟩ := hb _ (nth_mem l j hj)
    generalize nth l j = x at *
    have HR := Lib.hid h; clear h hb
    go_enter Tryd.func48, Tryd.ntmps48
    go_wp2
    go_quiet (refine Calls.quiet_of_same (insist_ok _ _ _))
    go_wp2
    have hr1 : Rd ((w.drewN nq).setCell ⟨R, 1, none⟩ (.int .i64 ((j : Int) + 1))) R l (some ⟨b, off, none⟩) bc (j + 1) := (HR.out.drewN nq).set (j + 1) (by omega)
    have hk1 : Keep R w ((w.drewN nq).setCell ⟨R, 1, none⟩ (.int .i64 ((j : Int) + 1))) := ((Keep.refl R w).drewN nq).trans (keep_set _ _ _ _)
    generalize (w.drewN nq).setCell ⟨R, 1, none⟩ (.int .i64 ((j : Int) + 1)) = w1 at hr1 hk1 ⊢
    have hc1 := hk1.cell hne hc
    clear h0 h1 h2 hc HR hlt
    have g0 := hr1.c0
    have g1 := hr1.c1
    have hlt := hr1.lt
    have HK1 := Lib.hid hk1; clear hk1
    have HR1 := Lib.hid hr1; clear hr1
    go_quiet (fail)
    go_wp2
    go_ret
    exact ⟨HK1.out.drewN _, .inr ⟨x, j + 1, HN.out, rfl, HR1.out.drewN _⟩⟩
  · have HN := Lib.hid (pByte_none hj)
    go_enter Tryd.func48, Tryd.ntmps48
    go_wp2
    go_still_tail 15, (by kernel_rfl)
    change wpList _ _ _ _ _ (w.drewN 1)
    have HK := Lib.hid ((Keep.refl R w).drewN 1)
    have hbad := Bad.mk l (l.length : Int) 4 (by omega) (by omega) (by decide) (fun h => by subst h; exact ⟨rfl, rfl⟩)
    generalize w.drewN 1 = w1 at *
    go_wp2_with fail
    refine (insist_no _ _ _).mono ?_
    rintro e w' ⟨rfl, rfl⟩
    exact ⟨rfl, HK.out, .inl ⟨HN.out, hbad⟩⟩

end Go.Proofs.YtcfbcffmlinlaaaDoor

namespace Go.Proofs.YtcfbcffmlinlaaaDoor
open Go.RowKit

theorem pTwo_byte (l : List Int) : pTwo l = match pByte l with
    | none => none
    | some (h, r) => match pByte r with
      | none => none
      | some (x, r) => some (256 * h + x, r) := by
  match l with
  | [] => rfl
  | [_] => rfl
  | _ :: _ :: _ => rfl

theorem byte_next {l : List Int} {j j1 : Nat} {x : Int} (h : pByte (l.drop j) = some (x, l.drop j1)) (hle : j1 ≤ l.length) (hb : ∀ b ∈ l, byteOk b) : j1 = j + 1 ∧ j < l.length ∧ x = nth l j ∧ byteOk x := by
  by_cases hj : j < l.length
  · rw [pByte_some hj] at h
    simp only [Option.some.injEq, Prod.mk.injEq] at h
    obtain ⟨h1, h2⟩ := h
    have := congrArg List.length h2
    rw [List.length_drop, List.length_drop] at this
    exact ⟨by omega, hj, h1.symm, by rw [← h1]; exact hb _ (nth_mem l j hj)⟩
  · rw [pByte_none hj] at h; cases h

theorem i64_or256 (x y : Int) (hx0 : 0 ≤ x) (hx1 : x ≤ 255) (hy0 : 0 ≤ y) (hy1 : y ≤ 255) : bits .or .i64 (x * 256) y = 256 * x + y := by
  rw [bits_join .i64 63 (by decide) (fun n h0 h1 => by rw [IntKind.wrap_i64]; omega) 8 (x * 256) y (by omega) (by omega) (by omega) hy0 (by omega) (by omega)]
  omega

set_option maxHeartbeats 1000000 in
theorem two_read (w : World) (R : Nat) (l : List Int) (ba : Option Addr) (bc j : Nat) (h : Rd w R l ba bc j) (hb : ∀ b ∈ l, byteOk b) (hl : l.length ≤ 9223372036854775807) :
    Calls Tryd.prog 50 #[.pointer (some ⟨R, 0, none⟩)] w (ReadPost w R l ba bc (pTwo (l.drop j)) (retInt .i64)) := by
  have HB := Lib.hid hb
  have HP := Lib.hid (pTwo_byte (l.drop j))
  have HC := Lib.hid (byte_any w R l ba bc j h hb hl)
  clear h hb
  go_enter Tryd.func50, Tryd.ntmps50
  go_wp2_with fail
  refine HC.out.mono ?_
  rintro e w1 ⟨hk1, ⟨hn, p, r, rfl, hbad⟩ | ⟨x, j1, hs, rfl, hr1⟩⟩
  · refine ⟨rfl, hk1, .inl ⟨?_, p, r, rfl, hbad⟩⟩
    rw [HP.out, hn]
  · obtain ⟨-, -, -, x0, x1⟩ := byte_next hs hr1.le HB.out
    have HC1 := Lib.hid (byte_any w1 R l ba bc j1 hr1 HB.out hl)
    have HK1 := Lib.hid hk1; clear hk1
    have HS := Lib.hid hs; clear hs
    clear hr1 HC
    go_wp2_with fail
    refine HC1.out.mono ?_
    rintro e w2 ⟨hk2, ⟨hn, p, r, rfl, hbad⟩ | ⟨y, j2, hs, rfl, hr2⟩⟩
    · refine ⟨rfl, HK1.out.trans hk2, .inl ⟨?_, p, r, rfl, hbad⟩⟩
      rw [HP.out, HS.out]; simp only; rw [hn]
    · obtain ⟨-, -, -, y0, y1⟩ := byte_next hs hr2.le HB.out
      have e1 := i64_or256 x y x0 x1 y0 y1
      have HR2 := Lib.hid hr2; clear hr2
      have HK2 := Lib.hid (HK1.out.trans hk2); clear hk2
      have HS2 := Lib.hid hs; clear hs
      go_wp2
      go_ret
      refine ⟨HK2.out, .inr ⟨256 * x + y, j2, ?_, rfl, HR2.out⟩⟩
      rw [HP.out, HS.out]; simp only; rw [HS2.out]

end Go.Proofs.YtcfbcffmlinlaaaDoor

namespace Go.Proofs.YtcfbcffmlinlaaaDoor
open Go.RowKit

theorem pNum_byte (i : Nat) (w acc : Int) (l : List Int) : pNum i w acc l = match pByte l with
    | none => none
    | some (x, r) => if (9 ≤ i ∧ 1 < x) ∨ (x = 0 ∧ i ≠ 0) then none else if x ≤ 127 then some (acc + x * w, r) else pNum (i + 1) (w * 128) (acc + x % 128 * w) r := by
  cases l with
  | nil => rfl
  | cons x r => rw [pNum]; rfl

theorem bits_or_comm (k : IntKind) (x y : Int) : bits .or k x y = bits .or k y x := by
  simp only [bits, BitVec.or_comm]

theorem weight_two (i : Nat) : weight i = 2 ^ (7 * i) := by
  unfold weight
  rw [Int.pow_mul]; rfl

theorem num_or (i : Nat) (acc x : Int) (hi : i ≤ 8 ∨ (i ≤ 9 ∧ x ≤ 1)) (h0 : 0 ≤ acc) (h1 : acc < weight i) (x0 : 0 ≤ x) (x1 : x ≤ 255) :
    bits .or .u64 acc (IntKind.u64.wrap (x % 128 * 2 ^ (7 * i))) = acc + x % 128 * weight i ∧ acc + x % 128 * weight i < weight (i + 1) ∧ 0 ≤ acc + x % 128 * weight i := by
  have hm : 0 ≤ x % 128 ∧ x % 128 < 128 := ⟨Int.emod_nonneg _ (by decide), Int.emod_lt_of_pos _ (by decide)⟩
  have hp := weight_pos i
  have hnn : 0 ≤ x % 128 * weight i := Int.mul_nonneg hm.1 (Int.le_of_lt hp)
  have hup : x % 128 * weight i ≤ 127 * weight i := Int.mul_le_mul_of_nonneg_right (by omega) (Int.le_of_lt hp)
  have hlt : x % 128 * weight i < 18446744073709551616 := by
    rcases hi with hi | ⟨hi, hx⟩
    · have := weight_mono hi
      have e8 : weight 8 = 72057594037927936 := by decide
      omega
    · have := weight_mono hi
      rw [weight_nine] at this
      have : x % 128 * weight i ≤ 1 * weight i := Int.mul_le_mul_of_nonneg_right (by omega) (Int.le_of_lt hp)
      omega
  have hacc : acc < 18446744073709551616 := by
    have := weight_mono (show i ≤ 9 by omega)
    rw [weight_nine] at this
    omega
  refine ⟨?_, by rw [weight_succ]; omega, by omega⟩
  rw [← weight_two, wraps_u64 _ hnn (by omega), bits_or_comm]
  rw [bits_join .u64 64 (by decide) wraps_u64 (7 * i) (x % 128 * weight i) acc hnn (by rw [weight_two]; exact Int.mul_emod_left _ _) (by omega) h0 (by rw [← weight_two]; exact h1) (by omega)]
  omega

set_option maxHeartbeats 400000 in
theorem number_read (w : World) (R : Nat) (l : List Int) (ba : Option Addr) (bc j : Nat) (h : Rd w R l ba bc j) (hb : ∀ b ∈ l, byteOk b) (hl : l.length ≤ 9223372036854775807) (h11 : l ≠ [1, 1]) :
    Calls Tryd.prog 51 #[.pointer (some ⟨R, 0, none⟩)] w (ReadPost w R l ba bc (pNum 0 1 0 (l.drop j)) (retInt .u64)) := by
  have HB := Lib.hid hb
  go_enter Tryd.func51, Tryd.ntmps51
  go_wp2_with fail
  go_loopw [3, 4] (fun v s wr => ∃ (i q : Nat) (acc : Int), v = .int .u64 acc ∧ s = .int .u64 (7 * (i : Int)) ∧ i ≤ 9 ∧ 0 ≤ acc ∧ Hid (acc < weight i) ∧ Hid (pNum 0 1 0 (l.drop j) = pNum i (weight i) acc (l.drop q)) ∧ Keep R w wr ∧ Rd wr R l ba bc q) (fun _ s _ => 100 - (intOf s).toNat)
  case atStart => exact ⟨0, j, 0, rfl, rfl, by omega, by omega, Lib.hid (by rw [weight_zero]; omega), Lib.hid rfl, Keep.refl R w, h⟩
  case round =>
    clear h hb
    obtain ⟨i, q, acc, rfl, rfl, hi, ha0, HA, HP, hk, hr⟩ := hrel
    have HC := Lib.hid (byte_any wr R l ba bc q hr HB.out hl)
    have HK := Lib.hid hk; clear hk
    clear hr
    go_wp2_with fail
    refine HC.out.mono ?_
    rintro e w1 ⟨hk1, ⟨hn, p, r, rfl, hbad⟩ | ⟨x, j1, hs, rfl, hr1⟩⟩
    · refine ⟨rfl, HK.out.trans hk1, .inl ⟨?_, p, r, rfl, hbad⟩⟩
      rw [HP.out, pNum_byte, hn]
    · obtain ⟨hj1, -, -, x0, x1⟩ := byte_next hs hr1.le HB.out
      have hj1a : 1 ≤ j1 := by omega
      have hle := hr1.le
      clear hj1
      have g1 := hr1.c1
      have hlt := hr1.lt
      have HR1 := Lib.hid hr1; clear hr1
      have HK1 := Lib.hid (HK.out.trans hk1); clear hk1
      have HPP : Hid (pNum 0 1 0 (l.drop j) = if (9 ≤ i ∧ 1 < x) ∨ (x = 0 ∧ i ≠ 0) then none else if x ≤ 127 then some (acc + x * weight i, l.drop j1) else pNum (i + 1) (weight i * 128) (acc + x % 128 * weight i) (l.drop j1)) :=
        Lib.hid (by rw [HP.out, pNum_byte, hs])
      clear hs HC
      by_cases c1 : 9 ≤ i ∧ 1 < x
      · obtain ⟨ca, cb⟩ := c1
        have d1 : decide (7 * (i : Int) < 63) = false := decide_eq_false (by omega)
        have d2 : decide (x ≤ 1) = false := decide_eq_false (by omega)
        go_wp2_with fail
        refine (insist_no _ _ _).mono ?_
        rintro e w2 ⟨rfl, rfl⟩
        refine ⟨rfl, HK1.out, .inl ⟨?_, Bad.mk l _ _ (by omega) (by omega) (by decide) (fun h => absurd h h11)⟩⟩
        rw [HPP.out, if_pos (.inl ⟨ca, cb⟩)]
      · by_cases c2 : x = 0 ∧ i ≠ 0
        · obtain ⟨rfl, cb⟩ := c2
          have hz : (7 * (i : Int) == 0) = false := by simp; omega
          clear c1
          have hi9 : i ≤ 8 ∨ 9 ≤ i := by omega
          rcases hi9 with hi9 | hi9
          · have d1 : decide (7 * (i : Int) < 63) = true := decide_eq_true (by omega)
            go_wp2_with fail
            refine (insist_ok _ _ _).mono ?_
            rintro e w2 ⟨rfl, rfl⟩
            go_wp2_with fail
            refine (insist_no _ _ _).mono ?_
            rintro e w2 ⟨rfl, rfl⟩
            refine ⟨rfl, HK1.out, .inl ⟨?_, Bad.mk l _ _ (by omega) (by omega) (by decide) (fun h => absurd h h11)⟩⟩
            rw [HPP.out, if_pos (Or.inr (by first | exact ⟨rfl, cb⟩ | exact ⟨trivial, cb⟩))]
          · have d1 : decide (7 * (i : Int) < 63) = false := decide_eq_false (by omega)
            go_wp2_with fail
            refine (insist_ok _ _ _).mono ?_
            rintro e w2 ⟨rfl, rfl⟩
            go_wp2_with fail
            refine (insist_no _ _ _).mono ?_
            rintro e w2 ⟨rfl, rfl⟩
            refine ⟨rfl, HK1.out, .inl ⟨?_, Bad.mk l _ _ (by omega) (by omega) (by decide) (fun h => absurd h h11)⟩⟩
            rw [HPP.out, if_pos (Or.inr (by first | exact ⟨rfl, cb⟩ | exact ⟨trivial, cb⟩))]
        · have HO := Lib.hid (num_or i acc x (by omega) ha0 HA.out x0 x1)
          have HPN := Lib.hid (fun hx : 127 < x => (show pNum 0 1 0 (l.drop j) = pNum (i + 1) (weight (i + 1)) (acc + x % 128 * weight i) (l.drop j1) by rw [HPP.out, if_neg (by omega), if_neg (by omega), weight_succ]))
          have b1 := u64_and127 x x0 (by omega)
          rcases (show (i ≤ 8 ∧ x ≠ 0) ∨ (i = 0 ∧ x = 0) ∨ (9 ≤ i ∧ x = 1) by omega) with ⟨hi8, hx⟩ | ⟨hi0, hx⟩ | ⟨hi9, hx⟩
          · have hxb : (x != 0) = true := by simpa using hx
            have d1 : decide (7 * (i : Int) < 63) = true := decide_eq_true (by omega)
            clear c1 c2
            go_wp2_with fail
            refine (insist_ok _ _ _).mono ?_
            rintro e w2 ⟨rfl, rfl⟩
            go_wp2_with fail
            refine (insist_ok _ _ _).mono ?_
            rintro e w2 ⟨rfl, rfl⟩
            go_wp2_with fail
            · go_ret
              refine ⟨HK1.out, .inr ⟨acc + x * weight i, j1, ?_, ?_, HR1.out⟩⟩
              · rw [HPP.out, if_neg (by omega), if_pos (by omega)]
              · have e := HO.out.1
                have e2 : x % 128 * weight i = x * weight i := by rw [show x % 128 = x by omega]
                rw [e2] at e
                exact ret_int e
            · go_roundw
              case rel => exact ⟨i + 1, j1, _, rfl, by go_num, by omega, by rw [HO.out.1]; exact HO.out.2.2, Lib.hid (by rw [HO.out.1]; exact HO.out.2.1), Lib.hid (by rw [HO.out.1]; exact HPN.out (by omega)), HK1.out, HR1.out⟩
              case measure => simp [intOf]; omega
          · have hxb : (x != 0) = false := by rw [hx]; rfl
            have hib : (7 * (i : Int) == 0) = true := by rw [hi0]; rfl
            have d1 : decide (7 * (i : Int) < 63) = true := decide_eq_true (by omega)
            have hx1 : x ≤ 0 := by omega
            have hi1 : i ≤ 0 := by omega
            have d3 : decide (x ≤ 127) = true := decide_eq_true (by omega)
            clear hx hi0
            clear c1 c2
            go_wp2_with fail
            refine (insist_ok _ _ _).mono ?_
            rintro e w2 ⟨rfl, rfl⟩
            go_wp2_with fail
            refine (insist_ok _ _ _).mono ?_
            rintro e w2 ⟨rfl, rfl⟩
            go_wp2_with fail
            go_ret
            refine ⟨HK1.out, .inr ⟨acc + x * weight i, j1, ?_, ?_, HR1.out⟩⟩
            · rw [HPP.out, if_neg (by omega), if_pos (by omega)]
            · have e := HO.out.1
              have e2 : x % 128 * weight i = x * weight i := by rw [show x % 128 = x by omega]
              rw [e2] at e
              exact ret_int e
          · have hxb : (x != 0) = true := by rw [hx]; rfl
            have d1 : decide (7 * (i : Int) < 63) = false := decide_eq_false (by omega)
            have hx1 : x ≤ 1 := by omega
            have hx2 : 1 ≤ x := by omega
            have d3 : decide (x ≤ 127) = true := decide_eq_true (by omega)
            clear hx
            clear c1 c2
            go_wp2_with fail
            refine (insist_ok _ _ _).mono ?_
            rintro e w2 ⟨rfl, rfl⟩
            go_wp2_with fail
            refine (insist_ok _ _ _).mono ?_
            rintro e w2 ⟨rfl, rfl⟩
            go_wp2_with fail
            go_ret
            refine ⟨HK1.out, .inr ⟨acc + x * weight i, j1, ?_, ?_, HR1.out⟩⟩
            · rw [HPP.out, if_neg (by omega), if_pos (by omega)]
            · have e := HO.out.1
              have e2 : x % 128 * weight i = x * weight i := by rw [show x % 128 = x by omega]
              rw [e2] at e
              exact ret_int e

end Go.Proofs.YtcfbcffmlinlaaaDoor

namespace Go.Proofs.YtcfbcffmlinlaaaDoor
open Go.RowKit

/-- The block k holds these cells. -/
def Blk (w : World) (k : Nat) (cs : Array Value) (E : TypeId) : Prop := w.heap[k]? = some (.cells cs E (0, 0))
theorem Blk.new (w : World) (cs : Array Value) (E : TypeId) : Blk (w.alloc (.cells cs E)) w.heap.size cs E := heap_alloc_new w _
theorem Blk.lt {w : World} {k : Nat} {cs : Array Value} {E : TypeId} (h : Blk w k cs E) : k < w.heap.size := block_lt h
theorem Blk.cell {w : World} {k : Nat} {cs : Array Value} {E : TypeId} (h : Blk w k cs E) (i : Nat) {v : Value} (hv : cs[i]? = some v) : w.cell? ⟨k, i, none⟩ = some v := block_cell h i hv
theorem Blk.fz {w : World} {k : Nat} {cs : Array Value} {E : TypeId} (h : Blk w k cs E) (i : Nat) : w.frozen? ⟨k, i, none⟩ = false := by
  unfold Blk at h; simp [World.frozen?, h]
theorem Blk.keep {w w' : World} {R k : Nat} {cs : Array Value} {E : TypeId} (h : Blk w k cs E) (hk : Keep R w w') (hne : k ≠ R) : Blk w' k cs E := hk.block hne h
theorem Blk.ext {w w' : World} {k : Nat} {cs : Array Value} {E : TypeId} (h : Blk w k cs E) (he : Ext w w') : Blk w' k cs E := block_ext he h
theorem Blk.alloc {w : World} {k : Nat} {cs : Array Value} {E : TypeId} (h : Blk w k cs E) (o : Obj) : Blk (w.alloc o) k cs E := h.ext ((Ext.refl w).alloc o)
theorem Blk.set {w : World} {k : Nat} {cs : Array Value} {E : TypeId} (h : Blk w k cs E) (i : Nat) (v : Value) : Blk (w.setCell ⟨k, i, none⟩ v) k (cs.setIfInBounds i v) E := heap_setCell_same w k i cs E v h
theorem Blk.set_ne {w : World} {k : Nat} {cs : Array Value} {E : TypeId} (h : Blk w k cs E) {b i : Nat} (hne : k ≠ b) (v : Value) : Blk (w.setCell ⟨b, i, none⟩ v) k cs E := by
  unfold Blk; rw [heap_setCell_other w _ k v hne]; exact h
theorem Blk.grown {w w' : World} {row : Option Nat} {k : Nat} {cs : Array Value} {E : TypeId} (h : Blk w k cs E) (hg : w.grownBy w' row) (hne : row ≠ some k) : Blk w' k cs E := by
  unfold Blk; rw [hg.block k h.lt (fun h => hne h.symm)]; exact h

theorem Keep.then_below {R : Nat} {w a b : World} (h : Keep R w a) (k : Below w.heap.size a b) : Keep R w b :=
  ⟨k.os.trans h.os, k.tape.trans h.tape, k.output.trans h.output, Nat.le_trans h.size k.size, fun i hi hne => (k.block i hi).trans (World.grownBy.block h i hi hne)⟩
theorem below_set (B : Nat) (w : World) {b i : Nat} (h : B ≤ b) (v : Value) : Below B w (w.setCell ⟨b, i, none⟩ v) :=
  ⟨rfl, rfl, rfl, by simp, fun k hk => heap_setCell_other w _ k v (by intro he; have : k = b := he; omega)⟩
theorem Keep.set {R : Nat} {w a : World} (h : Keep R w a) {b i : Nat} (hb : w.heap.size ≤ b) (v : Value) : Keep R w (a.setCell ⟨b, i, none⟩ v) := h.then_below (below_set _ _ hb v)
theorem Rd.set_ne {w : World} {R : Nat} {l : List Int} {ba : Option Addr} {bc j : Nat} (h : Rd w R l ba bc j) {b i : Nat} (hb : ∀ x, ba = some x → x.block ≠ b) (hne : R ≠ b) (v : Value) : Rd (w.setCell ⟨b, i, none⟩ v) R l ba bc j := by
  refine ⟨?_, ?_, h.le⟩
  · rw [heap_setCell_other w _ R v hne]; exact h.here
  · rcases h.bytes with h1 | ⟨b', off, h1, h2, h3⟩
    · exact .inl h1
    · refine .inr ⟨b', off, h1, h2, fun i' hi => ?_⟩
      rw [World.cell?_of_block (heap_setCell_other w _ b' v (hb _ h1))]; exact h3 i' hi
theorem Rd.below {w w' : World} {R : Nat} {l : List Int} {ba : Option Addr} {bc j B : Nat} (h : Rd w R l ba bc j) (k : Below B w w') (hR : R < B) (hb : ∀ x, ba = some x → x.block < B) : Rd w' R l ba bc j := by
  refine ⟨(k.block R hR).trans h.here, ?_, h.le⟩
  rcases h.bytes with h1 | ⟨b', off, h1, h2, h3⟩
  · exact .inl h1
  · exact .inr ⟨b', off, h1, h2, fun i' hi => (k.cell (show b' < B from hb _ h1)).trans (h3 i' hi)⟩

theorem IsSeq.keep {α : Type} {d : α} {sz R : Nat} {f : α → List Value} {w w' : World} {a : Option Addr} {xs : List α} (h : IsSeq d sz f w a xs) (hk : Keep R w w') (hne : ∀ x, a = some x → x.block ≠ R) : IsSeq d sz f w' a xs := by
  rcases h with h | ⟨b, off, ha, hc⟩
  · exact .inl h
  · exact .inr ⟨b, off, ha, fun i hi j hj => hk.cell (show b ≠ R from hne _ ha) (hc i hi j hj)⟩
theorem IsInts.keep {k : IntKind} {R : Nat} {w w' : World} {a : Option Addr} {xs : List Int} (h : IsInts k w a xs) (hk : Keep R w w') (hne : ∀ x, a = some x → x.block ≠ R) : IsInts k w' a xs := by
  rcases h with h | ⟨b, off, ha, hc⟩
  · exact .inl h
  · exact .inr ⟨b, off, ha, fun i hi => hk.cell (show b ≠ R from hne _ ha) (hc i hi)⟩

theorem own_below {w w' : World} {B B' : Nat} {E : TypeId} {size n : Nat} {v : Value} {xs : List Value} (h : w.ownsRow B E size v n xs) (hg : ∀ k, v.ownBlock = some k → w'.heap[k]? = w.heap[k]?) : w'.ownsRow B E size v n xs := by
  refine ⟨h.1, ?_⟩
  rcases h.2 with h2 | ⟨g, cap, cur, hv, hge, hh, r⟩
  · exact .inl h2
  · exact .inr ⟨g, cap, cur, hv, hge, by rw [hg g (by rw [hv]; rfl)]; exact hh, r⟩
theorem own_set {w : World} {B : Nat} {E : TypeId} {size n : Nat} {v : Value} {xs : List Value} (h : w.ownsRow B E size v n xs) {b i : Nat} (hb : b < B) (u : Value) : (w.setCell ⟨b, i, none⟩ u).ownsRow B E size v n xs := by
  refine own_below (B' := B) h (fun k hk => heap_setCell_other w _ k u ?_)
  have := (h.lt k hk).1
  intro he; rw [he] at this; simp at this; omega

theorem own_set_ne {w : World} {B : Nat} {E : TypeId} {size n : Nat} {v : Value} {xs : List Value} (h : w.ownsRow B E size v n xs) {b i : Nat} (hb : v.ownBlock ≠ some b) (u : Value) : (w.setCell ⟨b, i, none⟩ u).ownsRow B E size v n xs := by
  refine own_below (B' := B) h (fun k hk => heap_setCell_other w _ k u ?_)
  intro he; have : k = b := he; rw [this] at hk; exact hb hk
theorem Blk.below {w w' : World} {B k : Nat} {cs : Array Value} {E : TypeId} (h : Blk w k cs E) (hb : Below B w w') (hk : k < B) : Blk w' k cs E := (hb.block k hk).trans h

theorem own_slice {w : World} {B : Nat} {E : TypeId} {size n : Nat} {v : Value} {xs : List Value} (h : w.ownsRow B E size v n xs) : ∃ a cap, v = .slice a n cap ∧ n ≤ cap := by
  rcases h.2 with ⟨rfl, rfl⟩ | ⟨g, cap, cur, rfl, hg, hh, hn, hm, hs, ht⟩
  · exact ⟨none, 0, rfl, Nat.le_refl _⟩
  · exact ⟨_, cap, rfl, hn⟩

/-! ### What the calls should read -/

def pre {α : Type} (ss : List α) (p : Option (List α × List Int)) : Option (List α × List Int) := p.map fun x => (ss ++ x.1, x.2)
theorem pre_nil {α : Type} (p : Option (List α × List Int)) : pre [] p = p := by cases p <;> simp [pre]
theorem pre_pre {α : Type} (a b : List α) (p : Option (List α × List Int)) : pre a (pre b p) = pre (a ++ b) p := by cases p <;> simp [pre]
theorem pSpecs_step (k : Nat) (l : List Int) : pSpecs (k + 1) l = match pSpec l with
    | none => none
    | some (s, r) => pre [s] (pSpecs k r) := by
  simp only [pSpecs]
  cases pSpec l with
  | none => rfl
  | some x =>
    obtain ⟨s, r⟩ := x
    simp only
    cases pSpecs k r <;> rfl
theorem pCalls_step (n : Int) (k : Nat) (l : List Int) : pCalls n (k + 1) l = match pCall n l with
    | none => none
    | some (s, r) => pre [s] (pCalls n k r) := by
  simp only [pCalls]
  cases pCall n l with
  | none => rfl
  | some x =>
    obtain ⟨s, r⟩ := x
    simp only
    cases pCalls n k r <;> rfl
theorem pSpec_byte (l : List Int) : pSpec l = match pByte l with
    | none => none
    | some (k, l) => match pTwo l with
      | none => none
      | some (p, l) => match pTwo l with
        | none => none
        | some (q, l) => some (⟨k, p, q⟩, l) := by
  cases l <;> rfl

def thn {α β : Type} (p : Option (α × List Int)) (f : α → List Int → Option β) : Option β := match p with
  | none => none
  | some (a, r) => f a r
theorem thn_none {α β : Type} (f : α → List Int → Option β) : thn none f = none := rfl
theorem thn_some {α β : Type} (a : α) (r : List Int) (f : α → List Int → Option β) : thn (some (a, r)) f = f a r := rfl

def pHead3 (n : Int) : Option (List Spc × List Int) → Option ((Int × List Spc) × List Int)
  | none => none
  | some (ss, l) => some ((n, ss), l)
def pHead2 (n : Int) : Option (Int × List Int) → Option ((Int × List Spc) × List Int)
  | none => none
  | some (m, l) => if m ≤ 8 then pHead3 n (pSpecs m.toNat l) else none
def pHead1 : Option (Int × List Int) → Option ((Int × List Spc) × List Int)
  | none => none
  | some (n, l) => if 1 ≤ n ∧ n ≤ 16 then pHead2 n (pByte l) else none
def pHead (l : List Int) : Option ((Int × List Spc) × List Int) := pHead1 (pByte l)
def pAllCalls (n : Int) (l : List Int) : Option (List Cll × List Int) := match pTwo l with
  | none => none
  | some (m, l) => if m ≤ 1000 then pCalls n m.toNat l else none

theorem pS_parts (l : List Int) : pS l = match pHead l with
    | none => none
    | some ((n, ss), l) => match pAllCalls n l with
      | none => none
      | some (cs, l) => match pPicks (-1) true [] l with
        | none => none
        | some ps => some ⟨n, ss, cs, ps⟩ := by
  match l with
  | [] => rfl
  | [n] => simp only [pS, pHead, pHead1, pHead2, pByte]; by_cases h1 : 1 ≤ n ∧ n ≤ 16 <;> simp only [h1, if_false] <;> simp
  | n :: m :: l =>
    simp only [pS, pHead, pHead1, pHead2, pByte]
    by_cases h1 : 1 ≤ n ∧ n ≤ 16
    · by_cases h2 : m ≤ 8
      · rw [if_pos ⟨h1.1, h1.2, h2⟩, if_pos h1, if_pos h2]
        cases pSpecs m.toNat l with
        | none => rfl
        | some x =>
          obtain ⟨ss, l⟩ := x
          simp only [pHead3, pAllCalls]
          cases pTwo l with
          | none => rfl
          | some x =>
            obtain ⟨many, l⟩ := x
            simp only
            split
            · cases pCalls n many.toNat l with
              | none => rfl
              | some x => rfl
            · rfl
      · rw [if_neg (by omega), if_pos h1, if_neg h2]
    · rw [if_neg (by omega), if_neg h1]

theorem pAllCalls_thn (n : Int) (l : List Int) : pAllCalls n l = thn (pTwo l) fun m l => if m ≤ 1000 then pCalls n m.toNat l else none := by
  unfold pAllCalls; cases pTwo l <;> rfl
theorem pCalls_thn (n : Int) (k : Nat) (l : List Int) : pCalls n (k + 1) l = thn (pCall n l) fun s r => pre [s] (pCalls n k r) := by
  rw [pCalls_step]; cases pCall n l <;> rfl
theorem pCall_thn (n : Int) (l : List Int) : pCall n l = thn (pByte l) fun t l => if t < n then thn (pByte l) fun o l => thn (pByte l) fun k l => thn (pNum 0 1 0 l) fun a l => thn (pNum 0 1 0 l) fun b l => thn (pNum 0 1 0 l) fun c l => some (⟨t, o, k, a, b, c⟩, l) else none := by
  match l with
  | [] => rfl
  | [t] => simp only [pCall, pByte, thn]; split <;> rfl
  | [t, o] => simp only [pCall, pByte, thn]; split <;> rfl
  | t :: o :: k :: l =>
    simp only [pCall, pByte, thn]
    split
    · cases pNum 0 1 0 l with
      | none => rfl
      | some x =>
        obtain ⟨a, l⟩ := x
        simp only
        cases pNum 0 1 0 l with
        | none => rfl
        | some x =>
          obtain ⟨b, l⟩ := x
          simp only
          cases pNum 0 1 0 l with
          | none => rfl
          | some x => rfl
    · rfl

theorem two_bounds {l r : List Int} {j : Nat} {x : Int} (h : pTwo (l.drop j) = some (x, r)) (hb : ∀ b ∈ l, byteOk b) : 0 ≤ x ∧ x ≤ 65535 :=
  (pTwo_back (fun b hm => hb b (List.mem_of_mem_drop hm)) h).2.1

end Go.Proofs.YtcfbcffmlinlaaaDoor
