/-
  The reference's Bytes: a script's bytes.
-/
import Derived.Test.YtmnkkmgfkodmhaaScrRNum
import Derived.Test.YtmnkkmgfkodmhaaScrRPure
namespace Go.Proofs.Ytmnkkmgfkodmhaa
open Go.RowKit

/-- What the reference's Bytes answers. -/
def BytesPost (s : Scr) (w : World) (e : Ending) (w' : World) : Prop :=
  Ext w w' ∧ ∃ a cap, e = .returned (.slice a (encS s).length cap) ∧ (a = none → cap = 0) ∧ IsInts .u8 w' a (encS s)

set_option maxRecDepth 100000 in
set_option maxHeartbeats 2000000 in
theorem rbytes_any (s : Scr) (m : Lies) (w : World) (hok : s.ok) (hwd : s.wide) (hm : LiesAt s m w) :
    Calls Try.prog 10 #[.agg #[.int .i64 s.n, .slice m.sa s.specs.length m.sc, .slice m.ca s.calls.length m.cc, .slice m.pa s.picks.length m.pc]] w (BytesPost s w) := by
  obtain ⟨sa, sc, ca, cc, pa, pc⟩ := m
  simp only
  have HM1 := Lib.hid hm.specs
  have HM2 := Lib.hid hm.calls
  have HM3 := Lib.hid hm.picks
  clear hm
  simp only at HM1 HM2 HM3
  have HWD := Lib.hid hwd; clear hwd
  have HOK := Lib.hid hok
  obtain ⟨⟨n1, n2⟩, l1, l2, l3, -, -, -⟩ := hok
  go_enter Try.func10, Try.ntmps10
  have henc0 := Enc.lit (Below.refl (w.heap.size + 1) (w.alloc (.cells #[.int .i64 s.n, .slice sa s.specs.length sc, .slice ca s.calls.length cc, .slice pa s.picks.length pc] 33))) (by simp) [s.n, (s.specs.length : Int)] #[.int .u8 s.n, .int .u8 (s.specs.length : Int)] rfl (by unfold maxLen; simp)
  have hs0 : (w.alloc (.cells #[.int .i64 s.n, .slice sa s.specs.length sc, .slice ca s.calls.length cc, .slice pa s.picks.length pc] 33)).heap.size = w.heap.size + 1 := by simp
  rw [hs0] at henc0
  have hbox : ∀ w', Below (w.heap.size + 1) (w.alloc (.cells #[.int .i64 s.n, .slice sa s.specs.length sc, .slice ca s.calls.length cc, .slice pa s.picks.length pc] 33)) w' →
      w'.cell? ⟨w.heap.size, 1, none⟩ = some (.slice sa s.specs.length sc) ∧ w'.cell? ⟨w.heap.size, 2, none⟩ = some (.slice ca s.calls.length cc) ∧ w'.cell? ⟨w.heap.size, 3, none⟩ = some (.slice pa s.picks.length pc) ∧ Ext w w' := by
    intro w' h
    exact ⟨(h.cell (by simp)).trans (by simp), (h.cell (by simp)).trans (by simp), (h.cell (by simp)).trans (by simp), ((Ext.refl w).alloc _).trans (Below.mono h (by simp))⟩
  go_wp2_with fail
  generalize w.alloc (.cells #[.int .i64 s.n, .slice sa s.specs.length sc, .slice ca s.calls.length cc, .slice pa s.picks.length pc] 33) = W0 at henc0 hbox hs0 ⊢
  clear hs0
  have HENC := Lib.hid henc0; clear henc0
  have HBOX := Lib.hid hbox; clear hbox
  go_loopw [3, 21] (fun v k wr => ∃ (j : Nat) (cur : List Int), j ≤ s.specs.length ∧ k = .int .i64 j ∧ Hid (cur = preS s j) ∧ cur.length ≤ 2 + 5 * j ∧ Enc W0 (w.heap.size + 1) wr v cur) (fun _ k _ => s.specs.length - (intOf k).toNat)
  case atStart => exact ⟨0, [s.n, (s.specs.length : Int)], Nat.zero_le _, rfl, Lib.hid rfl, by simp, HENC.out⟩
  case round =>
    obtain ⟨j, cur, hj, rfl, HC, hcl, henc⟩ := hrel
    have HEN := Lib.hid henc; clear henc
    obtain ⟨q1, q2, q3, hw⟩ := HBOX.out wr HEN.out.below
    have hbs : w.heap.size < wr.heap.size := World.block_lt_of_cell? _ _ q1
    by_cases hlt : j < s.specs.length
    · clear q2 q3
      obtain ⟨b, off, rfl, e0, e1, e2⟩ := (HM1.out.ext hw).at hlt
      have hxo := HOK.out.2.2.2.2.1 _ (nthD_mem spc0 s.specs j hlt)
      have H1 := Lib.hid (preS_succ s j hlt)
      generalize nthD spc0 s.specs j = x at *
      obtain ⟨⟨k1, k2⟩, ⟨p1, p2⟩, ⟨r1, r2⟩⟩ := hxo
      clear hw
      go_wp2_with (at_builtin; refine wpList_enc rfl (.tmp 29) (.tmp 49) rfl W0 (w.heap.size + 1) _ cur (encSpec x) _ 5 5 rfl rfl ((HEN.out.alloc _).alloc _) rfl (fun h => by cases h) (ints_fresh _ _ (encSpec x) _ rfl _ _ (by simp)) ?_ ?_; rotate_right; intro v1 w2 he1 _; have HE1 := Lib.hid he1; clear he1)
      any_goals omega
      go_roundw
      case rel =>
        refine ⟨j + 1, _, by omega, by go_num, Lib.hid ?_, ?_, HE1.out⟩
        · rw [H1.out, HC.out]
        · rw [List.length_append, encSpec_len]; omega
      case measure => simp [intOf]; omega
    · have hje : j = s.specs.length := by omega
      subst hje
      clear hlt hj
      go_wp2_with (at_builtin; refine wpList_enc rfl (.tmp 52) (.tmp 63) rfl W0 (w.heap.size + 1) _ cur (encTwo s.calls.length) _ 2 2 rfl rfl (HEN.out.alloc _) rfl (fun h => by cases h) (encTwo_fresh _ _ _) ?_ ?_; rotate_right; intro v1 w2 he1 _; have HE1 := Lib.hid he1; clear he1; clear q1 q2 q3 hw hbs; obtain ⟨q1, q2, q3, hw⟩ := HBOX.out w2 HE1.out.below)
      any_goals omega
      have HCC : Hid (cur ++ encTwo s.calls.length = preC s 0) := Lib.hid (by rw [preC_zero, HC.out])
      have hcl2 : (cur ++ encTwo s.calls.length).length ≤ 44 := by rw [List.length_append, encTwo_len]; omega
      generalize cur ++ encTwo s.calls.length = cur at *
      clear hw HEN HC q1
      have hbs : w.heap.size < w2.heap.size := World.block_lt_of_cell? _ _ q2
      go_wp2_with fail
      go_loopw [3, 68] (fun v k wr => ∃ (j : Nat) (cur : List Int), j ≤ s.calls.length ∧ k = .int .i64 j ∧ Hid (cur = preC s j) ∧ cur.length ≤ 44 + 36 * j ∧ Enc W0 (w.heap.size + 1) wr v cur) (fun _ k _ => s.calls.length - (intOf k).toNat)
      case atStart => exact ⟨0, cur, Nat.zero_le _, rfl, HCC, by omega, HE1.out⟩
      case round =>
        clear HE1 HCC hcl2 q2 q3 hbs
        obtain ⟨j, cur, hj, rfl, HC, hcl, henc⟩ := hrel
        have HEN := Lib.hid henc; clear henc
        obtain ⟨q1, q2, q3, hw⟩ := HBOX.out wr HEN.out.below
        have hbs : w.heap.size < wr.heap.size := World.block_lt_of_cell? _ _ q1
        by_cases hlt : j < s.calls.length
        · clear q1 q3
          obtain ⟨b, off, rfl, e0, e1, e2, e3, e4, e5⟩ := (HM2.out.ext hw).at hlt
          have hxo := HOK.out.2.2.2.2.2.1 _ (nthD_mem cll0 s.calls j hlt)
          have hxw := HWD.out _ (nthD_mem cll0 s.calls j hlt)
          have H1 := Lib.hid (preC_succ s j hlt)
          generalize nthD cll0 s.calls j = x at *
          obtain ⟨⟨t1, t2⟩, ⟨o1, o2⟩, ⟨k1, k2⟩⟩ := hxo
          have HXW := Lib.hid hxw; clear hxw
          clear hw
          have a1 := (numB_len 10 x.a).2
          have a2 := (numB_len 10 x.b).2
          have a3 := (numB_len 10 x.c).2
          go_wp2_with (at_builtin; refine wpList_enc rfl (.tmp 76) (.tmp 86) rfl W0 (w.heap.size + 1) _ cur [x.thread, x.obj, x.kind] _ 3 3 rfl rfl ((HEN.out.alloc _).alloc _) rfl (fun h => by cases h) (ints_fresh _ _ [x.thread, x.obj, x.kind] _ rfl _ _ (by simp)) ?_ ?_; rotate_right; intro v1 w2 he1 hk1; have HE1 := Lib.hid he1; clear he1; have hb1 := hk1 _ _ _ _ (by decide) (block_old _ (block_new _ _)); clear hk1; have g1 := block_cell hb1 3 rfl; have g2 := block_lt hb1; have HB1 := Lib.hid hb1; clear hb1)
          any_goals (simp; omega)
          refine (rnumber_any x.a _ HXW.out.1).mono ?_
          rintro e w3 ⟨na, nc, rfl, hnil, hni, hxn⟩
          have HNN := Lib.hid hnil; clear hnil
          have HNI := Lib.hid hni; clear hni
          have HB2 := Lib.hid (block_ext hxn HB1.out)
          have HE2 := Lib.hid (HE1.out.ext hxn); clear hxn
          clear g1 g2
          go_wp2_with (at_builtin; refine wpList_enc rfl (.tmp 88) (.tmp 91) rfl W0 (w.heap.size + 1) _ (cur ++ [x.thread, x.obj, x.kind]) (numB 10 x.a) na _ nc rfl rfl HE2.out rfl HNN.out HNI.out ?_ ?_; rotate_right; intro v2 w4 he3 hk3; have HE3 := Lib.hid he3; clear he3; have hb3 := hk3 _ _ _ _ (by decide) HB2.out; clear hk3; have g1 := block_cell hb3 4 rfl; have g2 := block_lt hb3; have HB3 := Lib.hid hb3; clear hb3)
          any_goals (simp; omega)
          clear HNN HNI HB1 HB2 HE1 HE2
          refine (rnumber_any x.b _ HXW.out.2.1).mono ?_
          rintro e w5 ⟨na, nc, rfl, hnil, hni, hxn⟩
          have HNN := Lib.hid hnil; clear hnil
          have HNI := Lib.hid hni; clear hni
          have HB2 := Lib.hid (block_ext hxn HB3.out)
          have HE2 := Lib.hid (HE3.out.ext hxn); clear hxn
          clear g1 g2
          go_wp2_with (at_builtin; refine wpList_enc rfl (.tmp 93) (.tmp 96) rfl W0 (w.heap.size + 1) _ (cur ++ [x.thread, x.obj, x.kind] ++ numB 10 x.a) (numB 10 x.b) na _ nc rfl rfl HE2.out rfl HNN.out HNI.out ?_ ?_; rotate_right; intro v3 w6 he4 hk4; have HE4 := Lib.hid he4; clear he4; have hb4 := hk4 _ _ _ _ (by decide) HB2.out; clear hk4; have g1 := block_cell hb4 5 rfl; have g2 := block_lt hb4; have HB4 := Lib.hid hb4; clear hb4)
          any_goals (simp; omega)
          clear HNN HNI HB2 HE2 HB3 HE3
          refine (rnumber_any x.c _ HXW.out.2.2).mono ?_
          rintro e w7 ⟨na, nc, rfl, hnil, hni, hxn⟩
          have HNN := Lib.hid hnil; clear hnil
          have HNI := Lib.hid hni; clear hni
          have HE2 := Lib.hid (HE4.out.ext hxn); clear hxn
          clear g1 g2
          go_wp2_with (at_builtin; refine wpList_enc rfl (.tmp 98) (.tmp 101) rfl W0 (w.heap.size + 1) _ (cur ++ [x.thread, x.obj, x.kind] ++ numB 10 x.a ++ numB 10 x.b) (numB 10 x.c) na _ nc rfl rfl HE2.out rfl HNN.out HNI.out ?_ ?_; rotate_right; intro v4 w8 he5 _; have HE5 := Lib.hid he5; clear he5)
          any_goals (simp; omega)
          go_roundw
          case rel =>
            refine ⟨j + 1, _, by omega, by go_num, Lib.hid ?_, ?_, HE5.out⟩
            · rw [H1.out, HC.out]; simp [encCall]
            · simp; omega
          case measure => simp [intOf]; omega
        · have hje : j = s.calls.length := by omega
          subst hje
          clear hlt hj
          have hcl3 : cur.length ≤ 40000 := by omega
          have HPK := Lib.hid (show ∀ p ∈ s.picks, byteOk p from HOK.out.2.2.2.2.2.2)
          clear hcl q1 q2
          go_wp2_with fail
          go_loopw [3, 8, 107] (fun v kn k wr => ∃ (st n p : Nat) (done : List Int), Hid (p = st + n) ∧ p ≤ s.picks.length ∧ n ≤ 254 ∧ kn = .int .i64 n ∧ k = .int .i64 p ∧ Hid (RunInv s.picks done st n) ∧ done.length ≤ 2 * st ∧ Enc W0 (w.heap.size + 1) wr v (cur ++ done)) (fun _ _ k _ => s.picks.length - (intOf k).toNat)
          case atStart => exact ⟨0, 0, 0, [], Lib.hid rfl, Nat.zero_le _, by omega, rfl, rfl, Lib.hid (RunInv.start _), by simp, by rw [List.append_nil]; exact HEN.out⟩
          case round =>
            clear HEN q3 hw hbs
            obtain ⟨st, n, p, done, HP, hi, hn, rfl, rfl, HR, hdl, henc⟩ := hrel
            have HEN := Lib.hid henc; clear henc
            obtain ⟨q1, q2, q3, hw⟩ := HBOX.out wr HEN.out.below
            have hbs : w.heap.size < wr.heap.size := World.block_lt_of_cell? _ _ q1
            clear q1 q2
            have hp1 : p ≤ st + n := by have := HP.out; omega
            have hp2 : st + n ≤ p := by have := HP.out; omega
            by_cases hlt : p < s.picks.length
            · have HPI := Lib.hid (HM3.out.ext hw)
              clear hw
              obtain ⟨b, off, rfl, e0⟩ := HPI.out.at hlt
              obtain ⟨xb1, xb2⟩ := HPK.out _ (nth_mem s.picks p hlt)
              have HMORE := Lib.hid (fun h1 h2 h3 => HR.out.more h1 h2 h3)
              rw [← Nat.add_assoc, ← HP.out] at HMORE
              have HEMIT := Lib.hid (fun hs => HR.out.emit hn (by omega) hs)
              rw [← Nat.add_assoc, ← HP.out] at HEMIT
              by_cases h1 : n + 1 = 255
              · have HX := Lib.hid (HEMIT.out (.inl h1))
                have d1 : ((n : Int) + 1 == 255) = true := by simp; omega
                go_wp2
                go_quiet (fail)
                go_wp2_with (at_builtin; refine wpList_enc rfl (.tmp 136) (.tmp 145) rfl W0 (w.heap.size + 1) _ (cur ++ done) [nth s.picks p, (n : Int) + 1] _ 2 2 rfl rfl ((HEN.out.drewN _).alloc _) rfl (fun h => by cases h) (ints_fresh _ _ [nth s.picks p, (n : Int) + 1] _ rfl _ _ (by simp)) ?_ ?_; rotate_right; intro v5 w5 he5 _; have HE5 := Lib.hid he5; clear he5)
                any_goals (first | omega | (rw [List.length_append]; omega))
                go_roundw
                case rel =>
                  refine ⟨p + 1, 0, p + 1, done ++ [nth s.picks p, (n : Int) + 1], Lib.hid rfl, by omega, by omega, rfl, by go_num, HX, by rw [List.length_append]; simp; omega, by rw [← List.append_assoc]; exact HE5.out⟩
                case measure => simp [intOf]; omega
              · have d1 : ((n : Int) + 1 == 255) = false := by simp; omega
                by_cases h2 : p + 1 = s.picks.length
                · have HX := Lib.hid (HEMIT.out (.inr (.inl h2)))
                  have d2 : ((p : Int) + 1 == (s.picks.length : Int)) = true := by simp; omega
                  go_wp2
                  go_quiet (fail)
                  go_wp2_with (at_builtin; refine wpList_enc rfl (.tmp 136) (.tmp 145) rfl W0 (w.heap.size + 1) _ (cur ++ done) [nth s.picks p, (n : Int) + 1] _ 2 2 rfl rfl ((HEN.out.drewN _).alloc _) rfl (fun h => by cases h) (ints_fresh _ _ [nth s.picks p, (n : Int) + 1] _ rfl _ _ (by simp)) ?_ ?_; rotate_right; intro v5 w5 he5 _; have HE5 := Lib.hid he5; clear he5)
                  any_goals (first | omega | (rw [List.length_append]; omega))
                  go_roundw
                  case rel =>
                    refine ⟨p + 1, 0, p + 1, done ++ [nth s.picks p, (n : Int) + 1], Lib.hid rfl, by omega, by omega, rfl, by go_num, HX, by rw [List.length_append]; simp; omega, by rw [← List.append_assoc]; exact HE5.out⟩
                  case measure => simp [intOf]; omega
                · have h2' : p + 1 < s.picks.length := by omega
                  have d2 : ((p : Int) + 1 == (s.picks.length : Int)) = false := by simp; omega
                  obtain ⟨b', off', hbb, e1⟩ := HPI.out.at h2'
                  obtain ⟨rfl, rfl⟩ : b = b' ∧ off = off' := by simpa using hbb
                  clear hbb
                  by_cases h3 : nth s.picks (p + 1) = nth s.picks p
                  · have HX := Lib.hid (HMORE.out (by omega) h2' h3)
                    have d3 : (nth s.picks (p + 1) == nth s.picks p) = true := by simpa using h3
                    clear h3
                    go_wp2
                    go_quiet (fail)
                    go_wp2
                    go_roundw
                    case rel => exact ⟨st, n + 1, p + 1, done, Lib.hid (by omega), by omega, by omega, by go_num, by go_num, HX, hdl, HEN.out.drewN _⟩
                    case measure => simp [intOf]; omega
                  · have HX := Lib.hid (HEMIT.out (.inr (.inr ⟨h2', h3⟩)))
                    have d3 : (nth s.picks (p + 1) == nth s.picks p) = false := by simpa using h3
                    clear h3
                    go_wp2
                    go_quiet (fail)
                    go_wp2_with (at_builtin; refine wpList_enc rfl (.tmp 136) (.tmp 145) rfl W0 (w.heap.size + 1) _ (cur ++ done) [nth s.picks p, (n : Int) + 1] _ 2 2 rfl rfl ((HEN.out.drewN _).alloc _) rfl (fun h => by cases h) (ints_fresh _ _ [nth s.picks p, (n : Int) + 1] _ rfl _ _ (by simp)) ?_ ?_; rotate_right; intro v5 w5 he5 _; have HE5 := Lib.hid he5; clear he5)
                    any_goals (first | omega | (rw [List.length_append]; omega))
                    go_roundw
                    case rel =>
                      refine ⟨p + 1, 0, p + 1, done ++ [nth s.picks p, (n : Int) + 1], Lib.hid rfl, by omega, by omega, rfl, by go_num, HX, by rw [List.length_append]; simp; omega, by rw [← List.append_assoc]; exact HE5.out⟩
                    case measure => simp [intOf]; omega
            · have hie : st + n = s.picks.length := by omega
              have HFIN : Hid (cur ++ done = encS s) := Lib.hid (by rw [enc_pre, HR.out.fin hie, HC.out])
              go_wp2
              go_ret
              have hen := HEN.out
              rw [HFIN.out] at hen
              obtain ⟨a', cap', rfl, _, _, hi', hnil'⟩ := IsInts.ownK hen.own
              exact ⟨hw, a', cap', rfl, hnil', hi'⟩

end Go.Proofs.Ytmnkkmgfkodmhaa
