/-
  The reference's line that is read.
-/
import Derived.Test.YtcfbcffmlinlaaaDoorJ18
import Derived.Test.YtcfbcffmlinlaaaDoorJ07
import Derived.Test.YtcfbcffmlinlaaaDoorJ09
import Derived.Deep.CutBlock
set_option linter.unusedVariables false
namespace Go.Proofs.YtcfbcffmlinlaaaDoor
open Go.RowKit

theorem extract_St (s : List UInt8) (a b : Nat) : (St s).extract a b = St ((s.drop a).take (b - a)) := by
  apply ByteArray.ext
  show ((St s).extract a b).data = ((s.drop a).take (b - a)).toArray
  rw [ByteArray.data_extract]
  simp [St, List.extract_eq_take_drop]

namespace Pl
/-- The words that stand behind a blank. -/
def wsOf : List UInt8 → List (List UInt8)
  | [] => []
  | _ :: t => words t
theorem words_part {w r : List UInt8} (hw : (32 : UInt8) ∉ w) (hr : r = [] ∨ ∃ t, r = 32 :: t) : words (w ++ r) = w :: wsOf r := by
  rcases hr with rfl | ⟨t, rfl⟩
  · rw [List.append_nil, words_none hw]; rfl
  · rw [words_app t hw]; rfl
theorem take_no {l : List UInt8} {c : UInt8} {i : Nat} (h : c ∉ l.take i) (hi : i < l.length) (hc : l[i] ≠ c) : c ∉ l.take (i + 1) := by
  rw [List.take_succ_eq_append_getElem hi]
  intro hm
  rcases List.mem_append.1 hm with h1 | h1
  · exact h h1
  · simp only [List.mem_singleton] at h1; exact hc h1.symm
theorem drop_blank {l : List UInt8} {i : Nat} (hi : i < l.length) (hc : l[i] = 32) : ∃ t, l.drop i = 32 :: t := ⟨l.drop (i + 1), by rw [List.drop_eq_getElem_cons hi, hc]⟩
theorem words_at {l : List UInt8} {i : Nat} (h : (32 : UInt8) ∉ l.take i) (hr : l.drop i = [] ∨ ∃ t, l.drop i = 32 :: t) : words l = l.take i :: wsOf (l.drop i) := by
  have := words_part h hr
  rwa [List.take_append_drop] at this
theorem wsOf_at {l : List UInt8} {i k : Nat} (hi : i < l.length) (h : (32 : UInt8) ∉ (l.drop (i + 1)).take (k - (i + 1))) (hk : i + 1 ≤ k) (hr : l.drop k = [] ∨ ∃ t, l.drop k = 32 :: t) :
    wsOf (l.drop i) = (l.drop (i + 1)).take (k - (i + 1)) :: wsOf (l.drop k) := by
  have e : l.drop i = l[i] :: l.drop (i + 1) := List.drop_eq_getElem_cons hi
  have e2 : (l.drop (i + 1)).drop (k - (i + 1)) = l.drop k := by rw [List.drop_drop]; congr 1; omega
  rw [e]
  show words (l.drop (i + 1)) = _
  have := words_part (w := (l.drop (i + 1)).take (k - (i + 1))) h (r := (l.drop (i + 1)).drop (k - (i + 1))) (by rw [e2]; exact hr)
  rw [List.take_append_drop, e2] at this
  exact this
end Pl

theorem b_ne {c d : UInt8} (h : c ≠ d) : ((c.toNat : Int) != (d.toNat : Int)) = true := bne_iff_ne.2 (fun e => h (UInt8.toNat_inj.1 (Int.ofNat.inj e)))
theorem b_eq {c d : UInt8} (h : c = d) : ((c.toNat : Int) != (d.toNat : Int)) = false := by rw [h]; simp

/-- What Parse answers: a word, and numbers, if all are numbers. -/
def ParsePost (w : World) (wd : List UInt8) (x : Option (List Int)) (e : Ending) (w' : World) : Prop :=
  Ext w w' ∧ ∃ a n c, match x with
    | some l => n = l.length ∧ e = .returned (.agg #[.string (St wd), .slice a n c, .bool true]) ∧ (∃ B', w'.ownsRow B' 47 1 (.slice a n c) l.length (l.map (Value.int .u64))) ∧ ∀ y ∈ l, 0 ≤ y ∧ y ≤ 18446744073709551615
    | none => n ≤ 1000002 ∧ e = .returned (.agg #[.string (St wd), .slice a n c, .bool false])

theorem take_no2 {l : List UInt8} {c : UInt8} {i k : Nat} (h : c ∉ (l.drop (i + 1)).take (k - (i + 1))) (hik : i + 1 ≤ k) (hk : k < l.length) (hc : l[k] ≠ c) : c ∉ (l.drop (i + 1)).take (k + 1 - (i + 1)) := by
  have := Pl.take_no h (by rw [List.length_drop]; omega) (by
    rw [List.getElem_drop]
    have e : i + 1 + (k - (i + 1)) = k := by omega
    simpa [e] using hc)
  rwa [show k + 1 - (i + 1) = k - (i + 1) + 1 by omega]

/-- The numbers so far, and those to come. -/
def NumAt (X : Option (List Int)) (is : Bool) (acc : List Int) (r : List UInt8) : Prop :=
  if is = true then X = preN acc (Pl.numsP (Pl.wsOf r)) else X = none

set_option maxRecDepth 100000 in
set_option maxHeartbeats 4000000 in
theorem parse_any (l : List UInt8) (w : World) (hl : l.length ≤ 1000000) (wd : List UInt8) (ws : List (List UInt8)) (hw : Pl.words l = wd :: ws) :
    Calls Tryd.prog 28 #[.string (St l)] w (ParsePost w wd (Pl.numsP ws)) := by
  have HW := Lib.hid hw
  clear hw
  go_enter Tryd.func28, Tryd.ntmps28
  go_wp2_with fail
  have hZ0 := (Blk.new w #[.string (St []), .slice none 0 0, .bool false] 78).alloc (.cells #[.string (St []), .slice none 0 0, .bool true] 78)
  have hL0 := Blk.new (w.alloc (.cells #[.string (St []), .slice none 0 0, .bool false] 78)) #[.string (St []), .slice none 0 0, .bool true] 78
  have hX0 := ((Ext.refl w).alloc (.cells #[.string (St []), .slice none 0 0, .bool false] 78)).alloc (.cells #[.string (St []), .slice none 0 0, .bool true] 78)
  simp only [World.size_alloc] at hL0
  generalize (w.alloc (.cells #[.string (St []), .slice none 0 0, .bool false] 78)).alloc (.cells #[.string (St []), .slice none 0 0, .bool true] 78) = W1 at *
  have HZ0 := Lib.hid hZ0
  have HL0 := Lib.hid hL0
  have HX0 := Lib.hid hX0
  clear hZ0 hL0 hX0
  go_loop [4] (fun u => ∃ i : Nat, i ≤ l.length ∧ u = .int .i64 (i : Int) ∧ Hid ((32 : UInt8) ∉ l.take i)) (fun u => l.length - (intOf u).toNat)
  case atStart => exact ⟨0, Nat.zero_le _, rfl, Lib.hid (by simp)⟩
  case round =>
    obtain ⟨i, hi, rfl, HN⟩ := hrel
    by_cases hgo : ∃ h : i < l.length, l[i] ≠ 32
    · obtain ⟨hlt, hc⟩ := hgo
      have hd : ((l[i].toNat : Int) != 32) = true := b_ne (d := 32) hc
      have HN2 := Lib.hid (Pl.take_no HN.out hlt hc)
      clear hc
      go_wp2_with fail
      go_round
      case rel => exact ⟨i + 1, by omega, by go_num, HN2⟩
      case measure => simp [intOf]; omega
    · have hr : l.drop i = [] ∨ ∃ t, l.drop i = 32 :: t := by
        by_cases h : i < l.length
        · by_cases hc : l[i] = 32
          · exact .inr (Pl.drop_blank h hc)
          · exact absurd ⟨h, hc⟩ hgo
        · exact .inl (List.drop_of_length_le (by omega))
      have HWS := Lib.hid (Pl.words_at HN.out hr)
      rw [HW.out] at HWS
      have hwd : l.take i = wd := by have := HWS.out; simp only [List.cons.injEq] at this; exact this.1.symm
      have hws : ws = Pl.wsOf (l.drop i) := by have := HWS.out; simp only [List.cons.injEq] at this; exact this.2
      have HR := Lib.hid hr
      have HWD := Lib.hid hwd
      have HWS2 := Lib.hid hws
      have c0 := HL0.out.cell 0 (v := .string (St [])) rfl
      have c1 := HL0.out.fz 0
      have c2 := HL0.out.lt
      have HEX := Lib.hid (extract_St l 0 i)
      have hstop : i < l.length → ∃ h : i < l.length, ((l[i].toNat : Int) != 32) = false := fun h => ⟨h, b_eq (d := 32) (by
        by_cases hc : l[i] = 32
        · exact hc
        · exact absurd ⟨h, hc⟩ hgo)⟩
      have HST := Lib.hid hstop
      clear hr hws hwd hgo HWS hstop
      by_cases hlt : i < l.length
      · obtain ⟨_, hd⟩ := HST.out hlt
        go_upto_block 3 with (fail)
        simp only [HEX.out, Nat.sub_zero, List.drop_zero, HWD.out]
        have HL := Lib.hid (HL0.out.set 0 (.string (St wd)))
        have HZ := Lib.hid (HZ0.out.set_ne (b := w.heap.size + 1) (i := 0) (by omega) (.string (St wd)))
        have HX : Hid (Ext w (W1.setCell ⟨w.heap.size + 1, 0, none⟩ (.string (St wd)))) := Lib.hid (Below.trans HX0.out (below_set _ _ (by omega) _))
        have HL : Hid (Blk (W1.setCell ⟨w.heap.size + 1, 0, none⟩ (.string (St wd))) (w.heap.size + 1) #[.string (St wd), .slice none 0 0, .bool true] 78) := HL
        have hsz : w.heap.size + 2 ≤ (W1.setCell ⟨w.heap.size + 1, 0, none⟩ (.string (St wd))).heap.size := HL.out.lt
        have HNA : Hid (NumAt (Pl.numsP ws) true [] (l.drop i)) := Lib.hid (by unfold NumAt; rw [if_pos rfl, preN_nil, ← HWS2.out])
        clear c0 c1 c2 HL0 HZ0 HX0
        generalize W1.setCell ⟨w.heap.size + 1, 0, none⟩ (.string (St wd)) = W2 at *
        generalize Pl.numsP ws = X at *
        go_loopw [4] (fun u wr => ∃ (i : Nat) (acc : List Int) (is : Bool) (v : Value), i ≤ l.length ∧ u = .int .i64 (i : Int) ∧ acc.length ≤ i ∧ w.heap.size + 2 ≤ wr.heap.size ∧ Hid (Ext w wr) ∧ Hid (Blk wr (w.heap.size + 1) #[.string (St wd), v, .bool is] 78) ∧ Hid (Blk wr w.heap.size #[.string (St []), .slice none 0 0, .bool false] 78) ∧
          Hid (wr.ownsRow (w.heap.size + 2) 47 1 v acc.length (acc.map (Value.int .u64))) ∧ Hid (NumAt X is acc (l.drop i)) ∧ Hid (l.drop i = [] ∨ ∃ t, l.drop i = 32 :: t) ∧ Hid (∀ y ∈ acc, 0 ≤ y ∧ y ≤ 18446744073709551615)) (fun u _ => l.length - (intOf u).toNat)
        case atStart => exact ⟨i, [], true, _, hi, rfl, Nat.zero_le _, hsz, HX, HL, HZ, Lib.hid (World.ownsRow_nil _ _ _ _), HNA, HR, Lib.hid (fun y h => by cases h)⟩
        case round =>
          clear HX HL HZ HNA HR hsz hi HST HN
          obtain ⟨i, acc, is, v, hi, rfl, hacc, hsz, HX, HL, HZ, HO, HNA, HR, HG⟩ := hrel
          by_cases hlt2 : i < l.length
          · cases is with
            | false =>
              have r2' := HL.out.cell 2 (v := .bool false) rfl
              have s0 := HZ.out.cell 0 (v := .string (St [])) rfl
              have s1 := HZ.out.cell 1 (v := .slice none 0 0) rfl
              have s2 := HZ.out.cell 2 (v := .bool false) rfl
              have z0 := HZ.out.fz 0
              have z1 := HZ.out.fz 1
              have z2 := HZ.out.fz 2
              have zl := HZ.out.lt
              obtain ⟨va, vc, rfl, -⟩ := own_slice HO.out
              have r0 := HL.out.cell 0 (v := .string (St wd)) rfl
              have r1 := HL.out.cell 1 (v := .slice va acc.length vc) rfl
              have r2 := HL.out.cell 2 (v := .bool false) rfl
              go_wp2_with fail
              have hbF : Blk (((wr.setCell ⟨w.heap.size, 0, none⟩ (.string (St wd))).setCell ⟨w.heap.size, 1, none⟩ (.slice va acc.length vc)).setCell ⟨w.heap.size, 2, none⟩ (.bool false)) w.heap.size #[.string (St wd), .slice va acc.length vc, .bool false] 78 := ((HZ.out.set 0 _).set 1 _).set 2 _
              have hxF : Ext w (((wr.setCell ⟨w.heap.size, 0, none⟩ (.string (St wd))).setCell ⟨w.heap.size, 1, none⟩ (.slice va acc.length vc)).setCell ⟨w.heap.size, 2, none⟩ (.bool false)) := Below.trans HX.out (((below_set _ _ (Nat.le_refl _) _).trans (below_set _ _ (Nat.le_refl _) _)).trans (below_set _ _ (Nat.le_refl _) _))
              have hoF := own_set (own_set (own_set HO.out (b := w.heap.size) (i := 0) (by omega) (.string (St wd))) (b := w.heap.size) (i := 1) (by omega) (.slice va acc.length vc)) (b := w.heap.size) (i := 2) (by omega) (.bool false)
              generalize ((wr.setCell ⟨w.heap.size, 0, none⟩ (.string (St wd))).setCell ⟨w.heap.size, 1, none⟩ (.slice va acc.length vc)).setCell ⟨w.heap.size, 2, none⟩ (.bool false) = wf at hbF hxF hoF ⊢
              have u0 := hbF.cell 0 (v := .string (St wd)) rfl
              have u1 := hbF.cell 1 (v := .slice va acc.length vc) rfl
              have u2 := hbF.cell 2 (v := .bool false) rfl
              refine bodyPost_ret (v := .agg #[.string (St wd), .slice va acc.length vc, .bool false]) (by simp [results, Tryd.results28, go_sem, u0, u1, u2]) rfl ?_
              have hX : X = none := HNA.out
              rw [hX]
              exact ⟨hxF, va, acc.length, vc, by omega, rfl⟩
            | true =>
              have r2 := HL.out.cell 2 (v := .bool true) rfl
              go_upto_block 5 with (fail)
              obtain ⟨wo, rfl⟩ : ∃ wo : World, wo = wr := ⟨_, rfl⟩
              go_loop [5] (fun u => ∃ k : Nat, i + 1 ≤ k ∧ k ≤ l.length ∧ u = .int .i64 (k : Int) ∧ Hid ((32 : UInt8) ∉ (l.drop (i + 1)).take (k - (i + 1)))) (fun u => l.length - (intOf u).toNat)
              case atStart => exact ⟨i + 1, Nat.le_refl _, by omega, by go_num, Lib.hid (by simp)⟩
              case round =>
                obtain ⟨k, hik, hk, rfl, HN⟩ := hrel
                by_cases hgo : ∃ h : k < l.length, l[k] ≠ 32
                · obtain ⟨hlt3, hc⟩ := hgo
                  have hd : ((l[k].toNat : Int) != 32) = true := b_ne (d := 32) hc
                  have HN2 := Lib.hid (take_no2 HN.out hik hlt3 hc)
                  clear hc
                  go_wp2_with fail
                  go_round
                  case rel => exact ⟨k + 1, by omega, by omega, by go_num, HN2⟩
                  case measure => simp [intOf]; omega
                · have hr : l.drop k = [] ∨ ∃ t, l.drop k = 32 :: t := by
                    by_cases h : k < l.length
                    · by_cases hc : l[k] = 32
                      · exact .inr (Pl.drop_blank h hc)
                      · exact absurd ⟨h, hc⟩ hgo
                    · exact .inl (List.drop_of_length_le (by omega))
                  have HWS3 := Lib.hid (Pl.wsOf_at hlt2 HN.out hik hr)
                  have HR3 := Lib.hid hr
                  have HEX2 := Lib.hid (extract_St l (i + 1) k)
                  have hwl : ((l.drop (i + 1)).take (k - (i + 1))).length ≤ 1000000 := by have := List.length_take_le (k - (i + 1)) (l.drop (i + 1)); omega
                  have hstop : k < l.length → ∃ h : k < l.length, ((l[k].toNat : Int) != 32) = false := fun h => ⟨h, b_eq (d := 32) (by
                    by_cases hc : l[k] = 32
                    · exact hc
                    · exact absurd ⟨h, hc⟩ hgo)⟩
                  have HST := Lib.hid hstop
                  clear hr hgo hstop
                  generalize (l.drop (i + 1)).take (k - (i + 1)) = wv at *
                  have HVAL := Lib.hid (fun W => value_any wv W hwl)
                  by_cases hlt4 : k < l.length
                  · obtain ⟨_, hd⟩ := HST.out hlt4
                    go_wp2_with fail
                    rw [HEX2.out]
                    refine (HVAL.out _).mono ?_
                    rintro e w5 ⟨hv, hx5⟩
                    unfold ValPost at hv
                    cases hn : Pl.numP wv with
                    | some v5 =>
                      rw [hn] at hv
                      subst hv
                      have hv5 := numP_le hn
                      have hv6 : (v5 : Int) ≤ 18446744073709551615 := by omega
                      have HNV := Lib.hid hn
                      clear hn hv5
                      obtain ⟨va, vc, rfl, -⟩ := own_slice HO.out
                      have HX5 := Lib.hid (HX.out.trans hx5)
                      have HL5 := Lib.hid (HL.out.ext hx5)
                      have HZ5 := Lib.hid (HZ.out.ext hx5)
                      have HO5 := Lib.hid (own_ext HO.out hx5)
                      have hsz5 : w.heap.size + 2 ≤ w5.heap.size := Nat.le_trans hsz hx5.size
                      clear hx5 HX HL HZ HO r2
                      have r1 := HL5.out.cell 1 (v := .slice va acc.length vc) rfl
                      have rl := HL5.out.lt
                      have hal : acc.length ≤ 1000000 := by omega
                      go_upto_region 12 with (at_builtin; refine wpList_app1 rfl (.tmp 57) (.tmp 59) 60 rfl (w.heap.size + 2) 47 _ 8 Tryd.underlying60 Tryd.infoU64 rfl _ _ _ (.int .u64 (v5 : Int)) _ rfl (own_ext HO5.out ((Ext.refl _).alloc _)) rfl ?_ rfl ?_ ?_ ?_ ?_; rotate_right; intro v' w6 ho6 hg6 hb6; obtain ⟨va', vc', rfl, -⟩ := own_slice ho6; have hb6' := (HL5.out.alloc (.cells #[.int .u64 (v5 : Int)] 47)).grown hg6 (own_ne (own_ext HO5.out ((Ext.refl _).alloc _)) (HL5.out.alloc (.cells #[.int .u64 (v5 : Int)] 47)) (by decide)); have k1 := hb6'.cell 1 (v := .slice va acc.length vc) rfl; have k2 := hb6'.fz 1; have k3 := hb6'.lt; have HL6 := Lib.hid hb6'; have HB6 := Lib.hid hb6; have HO6 := Lib.hid ho6; have HZ6 := Lib.hid ((HZ5.out.alloc (.cells #[.int .u64 (v5 : Int)] 47)).below hb6 (by omega)); clear ho6 hg6 hb6 hb6')
                      any_goals (first | (rw [World.cell?_alloc_at _ _ _ _ (by simp)]; rfl) | (unfold maxLen; omega) | omega | (simp; omega))
                      have hsz6 : w.heap.size + 2 ≤ w6.heap.size := k3
                      have HX7 : Hid (Ext w (w6.setCell ⟨w.heap.size + 1, 1, none⟩ (.slice va' (acc.length + 1) vc'))) := Lib.hid (Below.trans (HX5.out.alloc (.cells #[.int .u64 (v5 : Int)] 47)) (Below.trans (Below.mono HB6.out (by omega)) (below_set _ _ (by omega) _)))
                      have HL7 : Hid (Blk (w6.setCell ⟨w.heap.size + 1, 1, none⟩ (.slice va' (acc.length + 1) vc')) (w.heap.size + 1) #[.string (St wd), .slice va' (acc.length + 1) vc', .bool true] 78) := Lib.hid (HL6.out.set 1 _)
                      have HZ7 : Hid (Blk (w6.setCell ⟨w.heap.size + 1, 1, none⟩ (.slice va' (acc.length + 1) vc')) w.heap.size #[.string (St []), .slice none 0 0, .bool false] 78) := Lib.hid (HZ6.out.set_ne (by omega) _)
                      have HO7 := Lib.hid (own_set HO6.out (b := w.heap.size + 1) (i := 1) (by omega) (.slice va' (acc.length + 1) vc'))
                      have hsz7 : w.heap.size + 2 ≤ (w6.setCell ⟨w.heap.size + 1, 1, none⟩ (.slice va' (acc.length + 1) vc')).heap.size := by simp; omega
                      clear k1 k2 k3 r1 rl HX5 HL5 HZ5 HO5 hsz5 HL6 HB6 HO6 HZ6 hsz6
                      generalize w6.setCell ⟨w.heap.size + 1, 1, none⟩ (.slice va' (acc.length + 1) vc') = w7 at *
                      have k1 := HL7.out.cell 2 (v := .bool true) rfl
                      have k2 := HL7.out.fz 2
                      have k3 := HL7.out.lt
                      go_wp2_with fail
                      go_roundw
                      case rel =>
                        refine ⟨k, acc ++ [(v5 : Int)], true, .slice va' (acc.length + 1) vc', hk, by go_num, by simp; omega, by simp; omega, Lib.hid (Below.trans HX7.out (below_set _ _ (by omega) _)), Lib.hid (HL7.out.set 2 _), Lib.hid (HZ7.out.set_ne (by omega) _), Lib.hid ?_, Lib.hid ?_, HR3, Lib.hid ?_⟩
                        · rw [List.length_append, List.map_append]; exact own_set HO7.out (by omega) _
                        · have h1 : X = preN acc (Pl.numsP (Pl.wsOf (l.drop i))) := HNA.out
                          show X = preN (acc ++ [(v5 : Int)]) (Pl.numsP (Pl.wsOf (l.drop k)))
                          rw [h1, HWS3.out, numsP_some HNV.out, preN_preN]
                        · intro z hz
                          rcases List.mem_append.1 hz with h | h
                          · exact HG.out z h
                          · simp only [List.mem_singleton] at h; omega
                      case measure => simp [intOf]; omega
                    | none =>
                      rw [hn] at hv
                      obtain ⟨y5, y6, y7, rfl⟩ := hv
                      have HNV := Lib.hid hn
                      clear hn
                      obtain ⟨va, vc, rfl, -⟩ := own_slice HO.out
                      have HX5 := Lib.hid (HX.out.trans hx5)
                      have HL5 := Lib.hid (HL.out.ext hx5)
                      have HZ5 := Lib.hid (HZ.out.ext hx5)
                      have HO5 := Lib.hid (own_ext HO.out hx5)
                      have hsz5 : w.heap.size + 2 ≤ w5.heap.size := Nat.le_trans hsz hx5.size
                      clear hx5 HX HL HZ HO r2
                      have r1 := HL5.out.cell 1 (v := .slice va acc.length vc) rfl
                      have rl := HL5.out.lt
                      have hal : acc.length ≤ 1000000 := by omega
                      go_upto_region 12 with (at_builtin; refine wpList_app1 rfl (.tmp 57) (.tmp 59) 60 rfl (w.heap.size + 2) 47 _ 8 Tryd.underlying60 Tryd.infoU64 rfl _ _ _ (.int .u64 y5) _ rfl (own_ext HO5.out ((Ext.refl _).alloc _)) rfl ?_ rfl ?_ ?_ ?_ ?_; rotate_right; intro v' w6 ho6 hg6 hb6; obtain ⟨va', vc', rfl, -⟩ := own_slice ho6; have hb6' := (HL5.out.alloc (.cells #[.int .u64 y5] 47)).grown hg6 (own_ne (own_ext HO5.out ((Ext.refl _).alloc _)) (HL5.out.alloc (.cells #[.int .u64 y5] 47)) (by decide)); have k1 := hb6'.cell 1 (v := .slice va acc.length vc) rfl; have k2 := hb6'.fz 1; have k3 := hb6'.lt; have HL6 := Lib.hid hb6'; have HB6 := Lib.hid hb6; have HO6 := Lib.hid ho6; have HZ6 := Lib.hid ((HZ5.out.alloc (.cells #[.int .u64 y5] 47)).below hb6 (by omega)); clear ho6 hg6 hb6 hb6')
                      any_goals (first | (rw [World.cell?_alloc_at _ _ _ _ (by simp)]; rfl) | (unfold maxLen; omega) | omega | (simp; omega))
                      have hsz6 : w.heap.size + 2 ≤ w6.heap.size := k3
                      have HX7 : Hid (Ext w (w6.setCell ⟨w.heap.size + 1, 1, none⟩ (.slice va' (acc.length + 1) vc'))) := Lib.hid (Below.trans (HX5.out.alloc (.cells #[.int .u64 y5] 47)) (Below.trans (Below.mono HB6.out (by omega)) (below_set _ _ (by omega) _)))
                      have HL7 : Hid (Blk (w6.setCell ⟨w.heap.size + 1, 1, none⟩ (.slice va' (acc.length + 1) vc')) (w.heap.size + 1) #[.string (St wd), .slice va' (acc.length + 1) vc', .bool true] 78) := Lib.hid (HL6.out.set 1 _)
                      have HZ7 : Hid (Blk (w6.setCell ⟨w.heap.size + 1, 1, none⟩ (.slice va' (acc.length + 1) vc')) w.heap.size #[.string (St []), .slice none 0 0, .bool false] 78) := Lib.hid (HZ6.out.set_ne (by omega) _)
                      have HO7 := Lib.hid (own_set HO6.out (b := w.heap.size + 1) (i := 1) (by omega) (.slice va' (acc.length + 1) vc'))
                      have hsz7 : w.heap.size + 2 ≤ (w6.setCell ⟨w.heap.size + 1, 1, none⟩ (.slice va' (acc.length + 1) vc')).heap.size := by simp; omega
                      clear k1 k2 k3 r1 rl HX5 HL5 HZ5 HO5 hsz5 HL6 HB6 HO6 HZ6 hsz6
                      generalize w6.setCell ⟨w.heap.size + 1, 1, none⟩ (.slice va' (acc.length + 1) vc') = w7 at *
                      have k1 := HL7.out.cell 2 (v := .bool true) rfl
                      have k2 := HL7.out.fz 2
                      have k3 := HL7.out.lt
                      go_wp2_with fail
                      go_roundw
                      case rel =>
                        refine ⟨k, acc ++ [y5], false, .slice va' (acc.length + 1) vc', hk, by go_num, by simp; omega, by simp; omega, Lib.hid (Below.trans HX7.out (below_set _ _ (by omega) _)), Lib.hid (HL7.out.set 2 _), Lib.hid (HZ7.out.set_ne (by omega) _), Lib.hid ?_, Lib.hid ?_, HR3, Lib.hid ?_⟩
                        · rw [List.length_append, List.map_append]; exact own_set HO7.out (by omega) _
                        · have h1 : X = preN acc (Pl.numsP (Pl.wsOf (l.drop i))) := HNA.out
                          show X = none
                          rw [h1, HWS3.out, numsP_none HNV.out]; rfl
                        · intro z hz
                          rcases List.mem_append.1 hz with h | h
                          · exact HG.out z h
                          · simp only [List.mem_singleton] at h; omega
                      case measure => simp [intOf]; omega
                  · go_wp2_with fail
                    rw [HEX2.out]
                    refine (HVAL.out _).mono ?_
                    rintro e w5 ⟨hv, hx5⟩
                    unfold ValPost at hv
                    cases hn : Pl.numP wv with
                    | some v5 =>
                      rw [hn] at hv
                      subst hv
                      have hv5 := numP_le hn
                      have hv6 : (v5 : Int) ≤ 18446744073709551615 := by omega
                      have HNV := Lib.hid hn
                      clear hn hv5
                      obtain ⟨va, vc, rfl, -⟩ := own_slice HO.out
                      have HX5 := Lib.hid (HX.out.trans hx5)
                      have HL5 := Lib.hid (HL.out.ext hx5)
                      have HZ5 := Lib.hid (HZ.out.ext hx5)
                      have HO5 := Lib.hid (own_ext HO.out hx5)
                      have hsz5 : w.heap.size + 2 ≤ w5.heap.size := Nat.le_trans hsz hx5.size
                      clear hx5 HX HL HZ HO r2
                      have r1 := HL5.out.cell 1 (v := .slice va acc.length vc) rfl
                      have rl := HL5.out.lt
                      have hal : acc.length ≤ 1000000 := by omega
                      go_upto_region 12 with (at_builtin; refine wpList_app1 rfl (.tmp 57) (.tmp 59) 60 rfl (w.heap.size + 2) 47 _ 8 Tryd.underlying60 Tryd.infoU64 rfl _ _ _ (.int .u64 (v5 : Int)) _ rfl (own_ext HO5.out ((Ext.refl _).alloc _)) rfl ?_ rfl ?_ ?_ ?_ ?_; rotate_right; intro v' w6 ho6 hg6 hb6; obtain ⟨va', vc', rfl, -⟩ := own_slice ho6; have hb6' := (HL5.out.alloc (.cells #[.int .u64 (v5 : Int)] 47)).grown hg6 (own_ne (own_ext HO5.out ((Ext.refl _).alloc _)) (HL5.out.alloc (.cells #[.int .u64 (v5 : Int)] 47)) (by decide)); have k1 := hb6'.cell 1 (v := .slice va acc.length vc) rfl; have k2 := hb6'.fz 1; have k3 := hb6'.lt; have HL6 := Lib.hid hb6'; have HB6 := Lib.hid hb6; have HO6 := Lib.hid ho6; have HZ6 := Lib.hid ((HZ5.out.alloc (.cells #[.int .u64 (v5 : Int)] 47)).below hb6 (by omega)); clear ho6 hg6 hb6 hb6')
                      any_goals (first | (rw [World.cell?_alloc_at _ _ _ _ (by simp)]; rfl) | (unfold maxLen; omega) | omega | (simp; omega))
                      have hsz6 : w.heap.size + 2 ≤ w6.heap.size := k3
                      have HX7 : Hid (Ext w (w6.setCell ⟨w.heap.size + 1, 1, none⟩ (.slice va' (acc.length + 1) vc'))) := Lib.hid (Below.trans (HX5.out.alloc (.cells #[.int .u64 (v5 : Int)] 47)) (Below.trans (Below.mono HB6.out (by omega)) (below_set _ _ (by omega) _)))
                      have HL7 : Hid (Blk (w6.setCell ⟨w.heap.size + 1, 1, none⟩ (.slice va' (acc.length + 1) vc')) (w.heap.size + 1) #[.string (St wd), .slice va' (acc.length + 1) vc', .bool true] 78) := Lib.hid (HL6.out.set 1 _)
                      have HZ7 : Hid (Blk (w6.setCell ⟨w.heap.size + 1, 1, none⟩ (.slice va' (acc.length + 1) vc')) w.heap.size #[.string (St []), .slice none 0 0, .bool false] 78) := Lib.hid (HZ6.out.set_ne (by omega) _)
                      have HO7 := Lib.hid (own_set HO6.out (b := w.heap.size + 1) (i := 1) (by omega) (.slice va' (acc.length + 1) vc'))
                      have hsz7 : w.heap.size + 2 ≤ (w6.setCell ⟨w.heap.size + 1, 1, none⟩ (.slice va' (acc.length + 1) vc')).heap.size := by simp; omega
                      clear k1 k2 k3 r1 rl HX5 HL5 HZ5 HO5 hsz5 HL6 HB6 HO6 HZ6 hsz6
                      generalize w6.setCell ⟨w.heap.size + 1, 1, none⟩ (.slice va' (acc.length + 1) vc') = w7 at *
                      have k1 := HL7.out.cell 2 (v := .bool true) rfl
                      have k2 := HL7.out.fz 2
                      have k3 := HL7.out.lt
                      go_wp2_with fail
                      go_roundw
                      case rel =>
                        refine ⟨k, acc ++ [(v5 : Int)], true, .slice va' (acc.length + 1) vc', hk, by go_num, by simp; omega, by simp; omega, Lib.hid (Below.trans HX7.out (below_set _ _ (by omega) _)), Lib.hid (HL7.out.set 2 _), Lib.hid (HZ7.out.set_ne (by omega) _), Lib.hid ?_, Lib.hid ?_, HR3, Lib.hid ?_⟩
                        · rw [List.length_append, List.map_append]; exact own_set HO7.out (by omega) _
                        · have h1 : X = preN acc (Pl.numsP (Pl.wsOf (l.drop i))) := HNA.out
                          show X = preN (acc ++ [(v5 : Int)]) (Pl.numsP (Pl.wsOf (l.drop k)))
                          rw [h1, HWS3.out, numsP_some HNV.out, preN_preN]
                        · intro z hz
                          rcases List.mem_append.1 hz with h | h
                          · exact HG.out z h
                          · simp only [List.mem_singleton] at h; omega
                      case measure => simp [intOf]; omega
                    | none =>
                      rw [hn] at hv
                      obtain ⟨y5, y6, y7, rfl⟩ := hv
                      have HNV := Lib.hid hn
                      clear hn
                      obtain ⟨va, vc, rfl, -⟩ := own_slice HO.out
                      have HX5 := Lib.hid (HX.out.trans hx5)
                      have HL5 := Lib.hid (HL.out.ext hx5)
                      have HZ5 := Lib.hid (HZ.out.ext hx5)
                      have HO5 := Lib.hid (own_ext HO.out hx5)
                      have hsz5 : w.heap.size + 2 ≤ w5.heap.size := Nat.le_trans hsz hx5.size
                      clear hx5 HX HL HZ HO r2
                      have r1 := HL5.out.cell 1 (v := .slice va acc.length vc) rfl
                      have rl := HL5.out.lt
                      have hal : acc.length ≤ 1000000 := by omega
                      go_upto_region 12 with (at_builtin; refine wpList_app1 rfl (.tmp 57) (.tmp 59) 60 rfl (w.heap.size + 2) 47 _ 8 Tryd.underlying60 Tryd.infoU64 rfl _ _ _ (.int .u64 y5) _ rfl (own_ext HO5.out ((Ext.refl _).alloc _)) rfl ?_ rfl ?_ ?_ ?_ ?_; rotate_right; intro v' w6 ho6 hg6 hb6; obtain ⟨va', vc', rfl, -⟩ := own_slice ho6; have hb6' := (HL5.out.alloc (.cells #[.int .u64 y5] 47)).grown hg6 (own_ne (own_ext HO5.out ((Ext.refl _).alloc _)) (HL5.out.alloc (.cells #[.int .u64 y5] 47)) (by decide)); have k1 := hb6'.cell 1 (v := .slice va acc.length vc) rfl; have k2 := hb6'.fz 1; have k3 := hb6'.lt; have HL6 := Lib.hid hb6'; have HB6 := Lib.hid hb6; have HO6 := Lib.hid ho6; have HZ6 := Lib.hid ((HZ5.out.alloc (.cells #[.int .u64 y5] 47)).below hb6 (by omega)); clear ho6 hg6 hb6 hb6')
                      any_goals (first | (rw [World.cell?_alloc_at _ _ _ _ (by simp)]; rfl) | (unfold maxLen; omega) | omega | (simp; omega))
                      have hsz6 : w.heap.size + 2 ≤ w6.heap.size := k3
                      have HX7 : Hid (Ext w (w6.setCell ⟨w.heap.size + 1, 1, none⟩ (.slice va' (acc.length + 1) vc'))) := Lib.hid (Below.trans (HX5.out.alloc (.cells #[.int .u64 y5] 47)) (Below.trans (Below.mono HB6.out (by omega)) (below_set _ _ (by omega) _)))
                      have HL7 : Hid (Blk (w6.setCell ⟨w.heap.size + 1, 1, none⟩ (.slice va' (acc.length + 1) vc')) (w.heap.size + 1) #[.string (St wd), .slice va' (acc.length + 1) vc', .bool true] 78) := Lib.hid (HL6.out.set 1 _)
                      have HZ7 : Hid (Blk (w6.setCell ⟨w.heap.size + 1, 1, none⟩ (.slice va' (acc.length + 1) vc')) w.heap.size #[.string (St []), .slice none 0 0, .bool false] 78) := Lib.hid (HZ6.out.set_ne (by omega) _)
                      have HO7 := Lib.hid (own_set HO6.out (b := w.heap.size + 1) (i := 1) (by omega) (.slice va' (acc.length + 1) vc'))
                      have hsz7 : w.heap.size + 2 ≤ (w6.setCell ⟨w.heap.size + 1, 1, none⟩ (.slice va' (acc.length + 1) vc')).heap.size := by simp; omega
                      clear k1 k2 k3 r1 rl HX5 HL5 HZ5 HO5 hsz5 HL6 HB6 HO6 HZ6 hsz6
                      generalize w6.setCell ⟨w.heap.size + 1, 1, none⟩ (.slice va' (acc.length + 1) vc') = w7 at *
                      have k1 := HL7.out.cell 2 (v := .bool true) rfl
                      have k2 := HL7.out.fz 2
                      have k3 := HL7.out.lt
                      go_wp2_with fail
                      go_roundw
                      case rel =>
                        refine ⟨k, acc ++ [y5], false, .slice va' (acc.length + 1) vc', hk, by go_num, by simp; omega, by simp; omega, Lib.hid (Below.trans HX7.out (below_set _ _ (by omega) _)), Lib.hid (HL7.out.set 2 _), Lib.hid (HZ7.out.set_ne (by omega) _), Lib.hid ?_, Lib.hid ?_, HR3, Lib.hid ?_⟩
                        · rw [List.length_append, List.map_append]; exact own_set HO7.out (by omega) _
                        · have h1 : X = preN acc (Pl.numsP (Pl.wsOf (l.drop i))) := HNA.out
                          show X = none
                          rw [h1, HWS3.out, numsP_none HNV.out]; rfl
                        · intro z hz
                          rcases List.mem_append.1 hz with h | h
                          · exact HG.out z h
                          · simp only [List.mem_singleton] at h; omega
                      case measure => simp [intOf]; omega
          · cases is with
            | false =>
              have s0 := HZ.out.cell 0 (v := .string (St [])) rfl
              have s1 := HZ.out.cell 1 (v := .slice none 0 0) rfl
              have s2 := HZ.out.cell 2 (v := .bool false) rfl
              have z0 := HZ.out.fz 0
              have z1 := HZ.out.fz 1
              have z2 := HZ.out.fz 2
              have zl := HZ.out.lt
              obtain ⟨va, vc, rfl, -⟩ := own_slice HO.out
              have r0 := HL.out.cell 0 (v := .string (St wd)) rfl
              have r1 := HL.out.cell 1 (v := .slice va acc.length vc) rfl
              have r2 := HL.out.cell 2 (v := .bool false) rfl
              go_wp2_with fail
              have hbF : Blk (((wr.setCell ⟨w.heap.size, 0, none⟩ (.string (St wd))).setCell ⟨w.heap.size, 1, none⟩ (.slice va acc.length vc)).setCell ⟨w.heap.size, 2, none⟩ (.bool false)) w.heap.size #[.string (St wd), .slice va acc.length vc, .bool false] 78 := ((HZ.out.set 0 _).set 1 _).set 2 _
              have hxF : Ext w (((wr.setCell ⟨w.heap.size, 0, none⟩ (.string (St wd))).setCell ⟨w.heap.size, 1, none⟩ (.slice va acc.length vc)).setCell ⟨w.heap.size, 2, none⟩ (.bool false)) := Below.trans HX.out (((below_set _ _ (Nat.le_refl _) _).trans (below_set _ _ (Nat.le_refl _) _)).trans (below_set _ _ (Nat.le_refl _) _))
              have hoF := own_set (own_set (own_set HO.out (b := w.heap.size) (i := 0) (by omega) (.string (St wd))) (b := w.heap.size) (i := 1) (by omega) (.slice va acc.length vc)) (b := w.heap.size) (i := 2) (by omega) (.bool false)
              generalize ((wr.setCell ⟨w.heap.size, 0, none⟩ (.string (St wd))).setCell ⟨w.heap.size, 1, none⟩ (.slice va acc.length vc)).setCell ⟨w.heap.size, 2, none⟩ (.bool false) = wf at hbF hxF hoF ⊢
              have u0 := hbF.cell 0 (v := .string (St wd)) rfl
              have u1 := hbF.cell 1 (v := .slice va acc.length vc) rfl
              have u2 := hbF.cell 2 (v := .bool false) rfl
              refine bodyPost_ret (v := .agg #[.string (St wd), .slice va acc.length vc, .bool false]) (by simp [results, Tryd.results28, go_sem, u0, u1, u2]) rfl ?_
              have hX : X = none := HNA.out
              rw [hX]
              exact ⟨hxF, va, acc.length, vc, by omega, rfl⟩
            | true =>
              have s0 := HZ.out.cell 0 (v := .string (St [])) rfl
              have s1 := HZ.out.cell 1 (v := .slice none 0 0) rfl
              have s2 := HZ.out.cell 2 (v := .bool false) rfl
              have z0 := HZ.out.fz 0
              have z1 := HZ.out.fz 1
              have z2 := HZ.out.fz 2
              have zl := HZ.out.lt
              obtain ⟨va, vc, rfl, -⟩ := own_slice HO.out
              have r0 := HL.out.cell 0 (v := .string (St wd)) rfl
              have r1 := HL.out.cell 1 (v := .slice va acc.length vc) rfl
              have r2 := HL.out.cell 2 (v := .bool true) rfl
              go_wp2_with fail
              have hbF : Blk (((wr.setCell ⟨w.heap.size, 0, none⟩ (.string (St wd))).setCell ⟨w.heap.size, 1, none⟩ (.slice va acc.length vc)).setCell ⟨w.heap.size, 2, none⟩ (.bool true)) w.heap.size #[.string (St wd), .slice va acc.length vc, .bool true] 78 := ((HZ.out.set 0 _).set 1 _).set 2 _
              have hxF : Ext w (((wr.setCell ⟨w.heap.size, 0, none⟩ (.string (St wd))).setCell ⟨w.heap.size, 1, none⟩ (.slice va acc.length vc)).setCell ⟨w.heap.size, 2, none⟩ (.bool true)) := Below.trans HX.out (((below_set _ _ (Nat.le_refl _) _).trans (below_set _ _ (Nat.le_refl _) _)).trans (below_set _ _ (Nat.le_refl _) _))
              have hoF := own_set (own_set (own_set HO.out (b := w.heap.size) (i := 0) (by omega) (.string (St wd))) (b := w.heap.size) (i := 1) (by omega) (.slice va acc.length vc)) (b := w.heap.size) (i := 2) (by omega) (.bool true)
              generalize ((wr.setCell ⟨w.heap.size, 0, none⟩ (.string (St wd))).setCell ⟨w.heap.size, 1, none⟩ (.slice va acc.length vc)).setCell ⟨w.heap.size, 2, none⟩ (.bool true) = wf at hbF hxF hoF ⊢
              have u0 := hbF.cell 0 (v := .string (St wd)) rfl
              have u1 := hbF.cell 1 (v := .slice va acc.length vc) rfl
              have u2 := hbF.cell 2 (v := .bool true) rfl
              refine bodyPost_ret (v := .agg #[.string (St wd), .slice va acc.length vc, .bool true]) (by simp [results, Tryd.results28, go_sem, u0, u1, u2]) rfl ?_
              have hX : X = some acc := by
                have h1 : X = preN acc (Pl.numsP (Pl.wsOf (l.drop i))) := HNA.out
                rw [List.drop_of_length_le (by omega)] at h1
                rw [h1]; simp [Pl.wsOf, Pl.numsP, preN]
              rw [hX]
              exact ⟨hxF, va, _, vc, rfl, rfl, ⟨_, hoF⟩, HG.out⟩
      · go_upto_block 3 with (fail)
        simp only [HEX.out, Nat.sub_zero, List.drop_zero, HWD.out]
        have HL := Lib.hid (HL0.out.set 0 (.string (St wd)))
        have HZ := Lib.hid (HZ0.out.set_ne (b := w.heap.size + 1) (i := 0) (by omega) (.string (St wd)))
        have HX : Hid (Ext w (W1.setCell ⟨w.heap.size + 1, 0, none⟩ (.string (St wd)))) := Lib.hid (Below.trans HX0.out (below_set _ _ (by omega) _))
        have HL : Hid (Blk (W1.setCell ⟨w.heap.size + 1, 0, none⟩ (.string (St wd))) (w.heap.size + 1) #[.string (St wd), .slice none 0 0, .bool true] 78) := HL
        have hsz : w.heap.size + 2 ≤ (W1.setCell ⟨w.heap.size + 1, 0, none⟩ (.string (St wd))).heap.size := HL.out.lt
        have HNA : Hid (NumAt (Pl.numsP ws) true [] (l.drop i)) := Lib.hid (by unfold NumAt; rw [if_pos rfl, preN_nil, ← HWS2.out])
        clear c0 c1 c2 HL0 HZ0 HX0
        generalize W1.setCell ⟨w.heap.size + 1, 0, none⟩ (.string (St wd)) = W2 at *
        generalize Pl.numsP ws = X at *
        go_loopw [4] (fun u wr => ∃ (i : Nat) (acc : List Int) (is : Bool) (v : Value), i ≤ l.length ∧ u = .int .i64 (i : Int) ∧ acc.length ≤ i ∧ w.heap.size + 2 ≤ wr.heap.size ∧ Hid (Ext w wr) ∧ Hid (Blk wr (w.heap.size + 1) #[.string (St wd), v, .bool is] 78) ∧ Hid (Blk wr w.heap.size #[.string (St []), .slice none 0 0, .bool false] 78) ∧
          Hid (wr.ownsRow (w.heap.size + 2) 47 1 v acc.length (acc.map (Value.int .u64))) ∧ Hid (NumAt X is acc (l.drop i)) ∧ Hid (l.drop i = [] ∨ ∃ t, l.drop i = 32 :: t) ∧ Hid (∀ y ∈ acc, 0 ≤ y ∧ y ≤ 18446744073709551615)) (fun u _ => l.length - (intOf u).toNat)
        case atStart => exact ⟨i, [], true, _, hi, rfl, Nat.zero_le _, hsz, HX, HL, HZ, Lib.hid (World.ownsRow_nil _ _ _ _), HNA, HR, Lib.hid (fun y h => by cases h)⟩
        case round =>
          clear HX HL HZ HNA HR hsz hi HST HN
          obtain ⟨i, acc, is, v, hi, rfl, hacc, hsz, HX, HL, HZ, HO, HNA, HR, HG⟩ := hrel
          by_cases hlt2 : i < l.length
          · cases is with
            | false =>
              have r2' := HL.out.cell 2 (v := .bool false) rfl
              have s0 := HZ.out.cell 0 (v := .string (St [])) rfl
              have s1 := HZ.out.cell 1 (v := .slice none 0 0) rfl
              have s2 := HZ.out.cell 2 (v := .bool false) rfl
              have z0 := HZ.out.fz 0
              have z1 := HZ.out.fz 1
              have z2 := HZ.out.fz 2
              have zl := HZ.out.lt
              obtain ⟨va, vc, rfl, -⟩ := own_slice HO.out
              have r0 := HL.out.cell 0 (v := .string (St wd)) rfl
              have r1 := HL.out.cell 1 (v := .slice va acc.length vc) rfl
              have r2 := HL.out.cell 2 (v := .bool false) rfl
              go_wp2_with fail
              have hbF : Blk (((wr.setCell ⟨w.heap.size, 0, none⟩ (.string (St wd))).setCell ⟨w.heap.size, 1, none⟩ (.slice va acc.length vc)).setCell ⟨w.heap.size, 2, none⟩ (.bool false)) w.heap.size #[.string (St wd), .slice va acc.length vc, .bool false] 78 := ((HZ.out.set 0 _).set 1 _).set 2 _
              have hxF : Ext w (((wr.setCell ⟨w.heap.size, 0, none⟩ (.string (St wd))).setCell ⟨w.heap.size, 1, none⟩ (.slice va acc.length vc)).setCell ⟨w.heap.size, 2, none⟩ (.bool false)) := Below.trans HX.out (((below_set _ _ (Nat.le_refl _) _).trans (below_set _ _ (Nat.le_refl _) _)).trans (below_set _ _ (Nat.le_refl _) _))
              have hoF := own_set (own_set (own_set HO.out (b := w.heap.size) (i := 0) (by omega) (.string (St wd))) (b := w.heap.size) (i := 1) (by omega) (.slice va acc.length vc)) (b := w.heap.size) (i := 2) (by omega) (.bool false)
              generalize ((wr.setCell ⟨w.heap.size, 0, none⟩ (.string (St wd))).setCell ⟨w.heap.size, 1, none⟩ (.slice va acc.length vc)).setCell ⟨w.heap.size, 2, none⟩ (.bool false) = wf at hbF hxF hoF ⊢
              have u0 := hbF.cell 0 (v := .string (St wd)) rfl
              have u1 := hbF.cell 1 (v := .slice va acc.length vc) rfl
              have u2 := hbF.cell 2 (v := .bool false) rfl
              refine bodyPost_ret (v := .agg #[.string (St wd), .slice va acc.length vc, .bool false]) (by simp [results, Tryd.results28, go_sem, u0, u1, u2]) rfl ?_
              have hX : X = none := HNA.out
              rw [hX]
              exact ⟨hxF, va, acc.length, vc, by omega, rfl⟩
            | true =>
              have r2 := HL.out.cell 2 (v := .bool true) rfl
              go_upto_block 5 with (fail)
              obtain ⟨wo, rfl⟩ : ∃ wo : World, wo = wr := ⟨_, rfl⟩
              go_loop [5] (fun u => ∃ k : Nat, i + 1 ≤ k ∧ k ≤ l.length ∧ u = .int .i64 (k : Int) ∧ Hid ((32 : UInt8) ∉ (l.drop (i + 1)).take (k - (i + 1)))) (fun u => l.length - (intOf u).toNat)
              case atStart => exact ⟨i + 1, Nat.le_refl _, by omega, by go_num, Lib.hid (by simp)⟩
              case round =>
                obtain ⟨k, hik, hk, rfl, HN⟩ := hrel
                by_cases hgo : ∃ h : k < l.length, l[k] ≠ 32
                · obtain ⟨hlt3, hc⟩ := hgo
                  have hd : ((l[k].toNat : Int) != 32) = true := b_ne (d := 32) hc
                  have HN2 := Lib.hid (take_no2 HN.out hik hlt3 hc)
                  clear hc
                  go_wp2_with fail
                  go_round
                  case rel => exact ⟨k + 1, by omega, by omega, by go_num, HN2⟩
                  case measure => simp [intOf]; omega
                · have hr : l.drop k = [] ∨ ∃ t, l.drop k = 32 :: t := by
                    by_cases h : k < l.length
                    · by_cases hc : l[k] = 32
                      · exact .inr (Pl.drop_blank h hc)
                      · exact absurd ⟨h, hc⟩ hgo
                    · exact .inl (List.drop_of_length_le (by omega))
                  have HWS3 := Lib.hid (Pl.wsOf_at hlt2 HN.out hik hr)
                  have HR3 := Lib.hid hr
                  have HEX2 := Lib.hid (extract_St l (i + 1) k)
                  have hwl : ((l.drop (i + 1)).take (k - (i + 1))).length ≤ 1000000 := by have := List.length_take_le (k - (i + 1)) (l.drop (i + 1)); omega
                  have hstop : k < l.length → ∃ h : k < l.length, ((l[k].toNat : Int) != 32) = false := fun h => ⟨h, b_eq (d := 32) (by
                    by_cases hc : l[k] = 32
                    · exact hc
                    · exact absurd ⟨h, hc⟩ hgo)⟩
                  have HST := Lib.hid hstop
                  clear hr hgo hstop
                  generalize (l.drop (i + 1)).take (k - (i + 1)) = wv at *
                  have HVAL := Lib.hid (fun W => value_any wv W hwl)
                  by_cases hlt4 : k < l.length
                  · obtain ⟨_, hd⟩ := HST.out hlt4
                    go_wp2_with fail
                    rw [HEX2.out]
                    refine (HVAL.out _).mono ?_
                    rintro e w5 ⟨hv, hx5⟩
                    unfold ValPost at hv
                    cases hn : Pl.numP wv with
                    | some v5 =>
                      rw [hn] at hv
                      subst hv
                      have hv5 := numP_le hn
                      have hv6 : (v5 : Int) ≤ 18446744073709551615 := by omega
                      have HNV := Lib.hid hn
                      clear hn hv5
                      obtain ⟨va, vc, rfl, -⟩ := own_slice HO.out
                      have HX5 := Lib.hid (HX.out.trans hx5)
                      have HL5 := Lib.hid (HL.out.ext hx5)
                      have HZ5 := Lib.hid (HZ.out.ext hx5)
                      have HO5 := Lib.hid (own_ext HO.out hx5)
                      have hsz5 : w.heap.size + 2 ≤ w5.heap.size := Nat.le_trans hsz hx5.size
                      clear hx5 HX HL HZ HO r2
                      have r1 := HL5.out.cell 1 (v := .slice va acc.length vc) rfl
                      have rl := HL5.out.lt
                      have hal : acc.length ≤ 1000000 := by omega
                      go_upto_region 12 with (at_builtin; refine wpList_app1 rfl (.tmp 57) (.tmp 59) 60 rfl (w.heap.size + 2) 47 _ 8 Tryd.underlying60 Tryd.infoU64 rfl _ _ _ (.int .u64 (v5 : Int)) _ rfl (own_ext HO5.out ((Ext.refl _).alloc _)) rfl ?_ rfl ?_ ?_ ?_ ?_; rotate_right; intro v' w6 ho6 hg6 hb6; obtain ⟨va', vc', rfl, -⟩ := own_slice ho6; have hb6' := (HL5.out.alloc (.cells #[.int .u64 (v5 : Int)] 47)).grown hg6 (own_ne (own_ext HO5.out ((Ext.refl _).alloc _)) (HL5.out.alloc (.cells #[.int .u64 (v5 : Int)] 47)) (by decide)); have k1 := hb6'.cell 1 (v := .slice va acc.length vc) rfl; have k2 := hb6'.fz 1; have k3 := hb6'.lt; have HL6 := Lib.hid hb6'; have HB6 := Lib.hid hb6; have HO6 := Lib.hid ho6; have HZ6 := Lib.hid ((HZ5.out.alloc (.cells #[.int .u64 (v5 : Int)] 47)).below hb6 (by omega)); clear ho6 hg6 hb6 hb6')
                      any_goals (first | (rw [World.cell?_alloc_at _ _ _ _ (by simp)]; rfl) | (unfold maxLen; omega) | omega | (simp; omega))
                      have hsz6 : w.heap.size + 2 ≤ w6.heap.size := k3
                      have HX7 : Hid (Ext w (w6.setCell ⟨w.heap.size + 1, 1, none⟩ (.slice va' (acc.length + 1) vc'))) := Lib.hid (Below.trans (HX5.out.alloc (.cells #[.int .u64 (v5 : Int)] 47)) (Below.trans (Below.mono HB6.out (by omega)) (below_set _ _ (by omega) _)))
                      have HL7 : Hid (Blk (w6.setCell ⟨w.heap.size + 1, 1, none⟩ (.slice va' (acc.length + 1) vc')) (w.heap.size + 1) #[.string (St wd), .slice va' (acc.length + 1) vc', .bool true] 78) := Lib.hid (HL6.out.set 1 _)
                      have HZ7 : Hid (Blk (w6.setCell ⟨w.heap.size + 1, 1, none⟩ (.slice va' (acc.length + 1) vc')) w.heap.size #[.string (St []), .slice none 0 0, .bool false] 78) := Lib.hid (HZ6.out.set_ne (by omega) _)
                      have HO7 := Lib.hid (own_set HO6.out (b := w.heap.size + 1) (i := 1) (by omega) (.slice va' (acc.length + 1) vc'))
                      have hsz7 : w.heap.size + 2 ≤ (w6.setCell ⟨w.heap.size + 1, 1, none⟩ (.slice va' (acc.length + 1) vc')).heap.size := by simp; omega
                      clear k1 k2 k3 r1 rl HX5 HL5 HZ5 HO5 hsz5 HL6 HB6 HO6 HZ6 hsz6
                      generalize w6.setCell ⟨w.heap.size + 1, 1, none⟩ (.slice va' (acc.length + 1) vc') = w7 at *
                      have k1 := HL7.out.cell 2 (v := .bool true) rfl
                      have k2 := HL7.out.fz 2
                      have k3 := HL7.out.lt
                      go_wp2_with fail
                      go_roundw
                      case rel =>
                        refine ⟨k, acc ++ [(v5 : Int)], true, .slice va' (acc.length + 1) vc', hk, by go_num, by simp; omega, by simp; omega, Lib.hid (Below.trans HX7.out (below_set _ _ (by omega) _)), Lib.hid (HL7.out.set 2 _), Lib.hid (HZ7.out.set_ne (by omega) _), Lib.hid ?_, Lib.hid ?_, HR3, Lib.hid ?_⟩
                        · rw [List.length_append, List.map_append]; exact own_set HO7.out (by omega) _
                        · have h1 : X = preN acc (Pl.numsP (Pl.wsOf (l.drop i))) := HNA.out
                          show X = preN (acc ++ [(v5 : Int)]) (Pl.numsP (Pl.wsOf (l.drop k)))
                          rw [h1, HWS3.out, numsP_some HNV.out, preN_preN]
                        · intro z hz
                          rcases List.mem_append.1 hz with h | h
                          · exact HG.out z h
                          · simp only [List.mem_singleton] at h; omega
                      case measure => simp [intOf]; omega
                    | none =>
                      rw [hn] at hv
                      obtain ⟨y5, y6, y7, rfl⟩ := hv
                      have HNV := Lib.hid hn
                      clear hn
                      obtain ⟨va, vc, rfl, -⟩ := own_slice HO.out
                      have HX5 := Lib.hid (HX.out.trans hx5)
                      have HL5 := Lib.hid (HL.out.ext hx5)
                      have HZ5 := Lib.hid (HZ.out.ext hx5)
                      have HO5 := Lib.hid (own_ext HO.out hx5)
                      have hsz5 : w.heap.size + 2 ≤ w5.heap.size := Nat.le_trans hsz hx5.size
                      clear hx5 HX HL HZ HO r2
                      have r1 := HL5.out.cell 1 (v := .slice va acc.length vc) rfl
                      have rl := HL5.out.lt
                      have hal : acc.length ≤ 1000000 := by omega
                      go_upto_region 12 with (at_builtin; refine wpList_app1 rfl (.tmp 57) (.tmp 59) 60 rfl (w.heap.size + 2) 47 _ 8 Tryd.underlying60 Tryd.infoU64 rfl _ _ _ (.int .u64 y5) _ rfl (own_ext HO5.out ((Ext.refl _).alloc _)) rfl ?_ rfl ?_ ?_ ?_ ?_; rotate_right; intro v' w6 ho6 hg6 hb6; obtain ⟨va', vc', rfl, -⟩ := own_slice ho6; have hb6' := (HL5.out.alloc (.cells #[.int .u64 y5] 47)).grown hg6 (own_ne (own_ext HO5.out ((Ext.refl _).alloc _)) (HL5.out.alloc (.cells #[.int .u64 y5] 47)) (by decide)); have k1 := hb6'.cell 1 (v := .slice va acc.length vc) rfl; have k2 := hb6'.fz 1; have k3 := hb6'.lt; have HL6 := Lib.hid hb6'; have HB6 := Lib.hid hb6; have HO6 := Lib.hid ho6; have HZ6 := Lib.hid ((HZ5.out.alloc (.cells #[.int .u64 y5] 47)).below hb6 (by omega)); clear ho6 hg6 hb6 hb6')
                      any_goals (first | (rw [World.cell?_alloc_at _ _ _ _ (by simp)]; rfl) | (unfold maxLen; omega) | omega | (simp; omega))
                      have hsz6 : w.heap.size + 2 ≤ w6.heap.size := k3
                      have HX7 : Hid (Ext w (w6.setCell ⟨w.heap.size + 1, 1, none⟩ (.slice va' (acc.length + 1) vc'))) := Lib.hid (Below.trans (HX5.out.alloc (.cells #[.int .u64 y5] 47)) (Below.trans (Below.mono HB6.out (by omega)) (below_set _ _ (by omega) _)))
                      have HL7 : Hid (Blk (w6.setCell ⟨w.heap.size + 1, 1, none⟩ (.slice va' (acc.length + 1) vc')) (w.heap.size + 1) #[.string (St wd), .slice va' (acc.length + 1) vc', .bool true] 78) := Lib.hid (HL6.out.set 1 _)
                      have HZ7 : Hid (Blk (w6.setCell ⟨w.heap.size + 1, 1, none⟩ (.slice va' (acc.length + 1) vc')) w.heap.size #[.string (St []), .slice none 0 0, .bool false] 78) := Lib.hid (HZ6.out.set_ne (by omega) _)
                      have HO7 := Lib.hid (own_set HO6.out (b := w.heap.size + 1) (i := 1) (by omega) (.slice va' (acc.length + 1) vc'))
                      have hsz7 : w.heap.size + 2 ≤ (w6.setCell ⟨w.heap.size + 1, 1, none⟩ (.slice va' (acc.length + 1) vc')).heap.size := by simp; omega
                      clear k1 k2 k3 r1 rl HX5 HL5 HZ5 HO5 hsz5 HL6 HB6 HO6 HZ6 hsz6
                      generalize w6.setCell ⟨w.heap.size + 1, 1, none⟩ (.slice va' (acc.length + 1) vc') = w7 at *
                      have k1 := HL7.out.cell 2 (v := .bool true) rfl
                      have k2 := HL7.out.fz 2
                      have k3 := HL7.out.lt
                      go_wp2_with fail
                      go_roundw
                      case rel =>
                        refine ⟨k, acc ++ [y5], false, .slice va' (acc.length + 1) vc', hk, by go_num, by simp; omega, by simp; omega, Lib.hid (Below.trans HX7.out (below_set _ _ (by omega) _)), Lib.hid (HL7.out.set 2 _), Lib.hid (HZ7.out.set_ne (by omega) _), Lib.hid ?_, Lib.hid ?_, HR3, Lib.hid ?_⟩
                        · rw [List.length_append, List.map_append]; exact own_set HO7.out (by omega) _
                        · have h1 : X = preN acc (Pl.numsP (Pl.wsOf (l.drop i))) := HNA.out
                          show X = none
                          rw [h1, HWS3.out, numsP_none HNV.out]; rfl
                        · intro z hz
                          rcases List.mem_append.1 hz with h | h
                          · exact HG.out z h
                          · simp only [List.mem_singleton] at h; omega
                      case measure => simp [intOf]; omega
                  · go_wp2_with fail
                    rw [HEX2.out]
                    refine (HVAL.out _).mono ?_
                    rintro e w5 ⟨hv, hx5⟩
                    unfold ValPost at hv
                    cases hn : Pl.numP wv with
                    | some v5 =>
                      rw [hn] at hv
                      subst hv
                      have hv5 := numP_le hn
                      have hv6 : (v5 : Int) ≤ 18446744073709551615 := by omega
                      have HNV := Lib.hid hn
                      clear hn hv5
                      obtain ⟨va, vc, rfl, -⟩ := own_slice HO.out
                      have HX5 := Lib.hid (HX.out.trans hx5)
                      have HL5 := Lib.hid (HL.out.ext hx5)
                      have HZ5 := Lib.hid (HZ.out.ext hx5)
                      have HO5 := Lib.hid (own_ext HO.out hx5)
                      have hsz5 : w.heap.size + 2 ≤ w5.heap.size := Nat.le_trans hsz hx5.size
                      clear hx5 HX HL HZ HO r2
                      have r1 := HL5.out.cell 1 (v := .slice va acc.length vc) rfl
                      have rl := HL5.out.lt
                      have hal : acc.length ≤ 1000000 := by omega
                      go_upto_region 12 with (at_builtin; refine wpList_app1 rfl (.tmp 57) (.tmp 59) 60 rfl (w.heap.size + 2) 47 _ 8 Tryd.underlying60 Tryd.infoU64 rfl _ _ _ (.int .u64 (v5 : Int)) _ rfl (own_ext HO5.out ((Ext.refl _).alloc _)) rfl ?_ rfl ?_ ?_ ?_ ?_; rotate_right; intro v' w6 ho6 hg6 hb6; obtain ⟨va', vc', rfl, -⟩ := own_slice ho6; have hb6' := (HL5.out.alloc (.cells #[.int .u64 (v5 : Int)] 47)).grown hg6 (own_ne (own_ext HO5.out ((Ext.refl _).alloc _)) (HL5.out.alloc (.cells #[.int .u64 (v5 : Int)] 47)) (by decide)); have k1 := hb6'.cell 1 (v := .slice va acc.length vc) rfl; have k2 := hb6'.fz 1; have k3 := hb6'.lt; have HL6 := Lib.hid hb6'; have HB6 := Lib.hid hb6; have HO6 := Lib.hid ho6; have HZ6 := Lib.hid ((HZ5.out.alloc (.cells #[.int .u64 (v5 : Int)] 47)).below hb6 (by omega)); clear ho6 hg6 hb6 hb6')
                      any_goals (first | (rw [World.cell?_alloc_at _ _ _ _ (by simp)]; rfl) | (unfold maxLen; omega) | omega | (simp; omega))
                      have hsz6 : w.heap.size + 2 ≤ w6.heap.size := k3
                      have HX7 : Hid (Ext w (w6.setCell ⟨w.heap.size + 1, 1, none⟩ (.slice va' (acc.length + 1) vc'))) := Lib.hid (Below.trans (HX5.out.alloc (.cells #[.int .u64 (v5 : Int)] 47)) (Below.trans (Below.mono HB6.out (by omega)) (below_set _ _ (by omega) _)))
                      have HL7 : Hid (Blk (w6.setCell ⟨w.heap.size + 1, 1, none⟩ (.slice va' (acc.length + 1) vc')) (w.heap.size + 1) #[.string (St wd), .slice va' (acc.length + 1) vc', .bool true] 78) := Lib.hid (HL6.out.set 1 _)
                      have HZ7 : Hid (Blk (w6.setCell ⟨w.heap.size + 1, 1, none⟩ (.slice va' (acc.length + 1) vc')) w.heap.size #[.string (St []), .slice none 0 0, .bool false] 78) := Lib.hid (HZ6.out.set_ne (by omega) _)
                      have HO7 := Lib.hid (own_set HO6.out (b := w.heap.size + 1) (i := 1) (by omega) (.slice va' (acc.length + 1) vc'))
                      have hsz7 : w.heap.size + 2 ≤ (w6.setCell ⟨w.heap.size + 1, 1, none⟩ (.slice va' (acc.length + 1) vc')).heap.size := by simp; omega
                      clear k1 k2 k3 r1 rl HX5 HL5 HZ5 HO5 hsz5 HL6 HB6 HO6 HZ6 hsz6
                      generalize w6.setCell ⟨w.heap.size + 1, 1, none⟩ (.slice va' (acc.length + 1) vc') = w7 at *
                      have k1 := HL7.out.cell 2 (v := .bool true) rfl
                      have k2 := HL7.out.fz 2
                      have k3 := HL7.out.lt
                      go_wp2_with fail
                      go_roundw
                      case rel =>
                        refine ⟨k, acc ++ [(v5 : Int)], true, .slice va' (acc.length + 1) vc', hk, by go_num, by simp; omega, by simp; omega, Lib.hid (Below.trans HX7.out (below_set _ _ (by omega) _)), Lib.hid (HL7.out.set 2 _), Lib.hid (HZ7.out.set_ne (by omega) _), Lib.hid ?_, Lib.hid ?_, HR3, Lib.hid ?_⟩
                        · rw [List.length_append, List.map_append]; exact own_set HO7.out (by omega) _
                        · have h1 : X = preN acc (Pl.numsP (Pl.wsOf (l.drop i))) := HNA.out
                          show X = preN (acc ++ [(v5 : Int)]) (Pl.numsP (Pl.wsOf (l.drop k)))
                          rw [h1, HWS3.out, numsP_some HNV.out, preN_preN]
                        · intro z hz
                          rcases List.mem_append.1 hz with h | h
                          · exact HG.out z h
                          · simp only [List.mem_singleton] at h; omega
                      case measure => simp [intOf]; omega
                    | none =>
                      rw [hn] at hv
                      obtain ⟨y5, y6, y7, rfl⟩ := hv
                      have HNV := Lib.hid hn
                      clear hn
                      obtain ⟨va, vc, rfl, -⟩ := own_slice HO.out
                      have HX5 := Lib.hid (HX.out.trans hx5)
                      have HL5 := Lib.hid (HL.out.ext hx5)
                      have HZ5 := Lib.hid (HZ.out.ext hx5)
                      have HO5 := Lib.hid (own_ext HO.out hx5)
                      have hsz5 : w.heap.size + 2 ≤ w5.heap.size := Nat.le_trans hsz hx5.size
                      clear hx5 HX HL HZ HO r2
                      have r1 := HL5.out.cell 1 (v := .slice va acc.length vc) rfl
                      have rl := HL5.out.lt
                      have hal : acc.length ≤ 1000000 := by omega
                      go_upto_region 12 with (at_builtin; refine wpList_app1 rfl (.tmp 57) (.tmp 59) 60 rfl (w.heap.size + 2) 47 _ 8 Tryd.underlying60 Tryd.infoU64 rfl _ _ _ (.int .u64 y5) _ rfl (own_ext HO5.out ((Ext.refl _).alloc _)) rfl ?_ rfl ?_ ?_ ?_ ?_; rotate_right; intro v' w6 ho6 hg6 hb6; obtain ⟨va', vc', rfl, -⟩ := own_slice ho6; have hb6' := (HL5.out.alloc (.cells #[.int .u64 y5] 47)).grown hg6 (own_ne (own_ext HO5.out ((Ext.refl _).alloc _)) (HL5.out.alloc (.cells #[.int .u64 y5] 47)) (by decide)); have k1 := hb6'.cell 1 (v := .slice va acc.length vc) rfl; have k2 := hb6'.fz 1; have k3 := hb6'.lt; have HL6 := Lib.hid hb6'; have HB6 := Lib.hid hb6; have HO6 := Lib.hid ho6; have HZ6 := Lib.hid ((HZ5.out.alloc (.cells #[.int .u64 y5] 47)).below hb6 (by omega)); clear ho6 hg6 hb6 hb6')
                      any_goals (first | (rw [World.cell?_alloc_at _ _ _ _ (by simp)]; rfl) | (unfold maxLen; omega) | omega | (simp; omega))
                      have hsz6 : w.heap.size + 2 ≤ w6.heap.size := k3
                      have HX7 : Hid (Ext w (w6.setCell ⟨w.heap.size + 1, 1, none⟩ (.slice va' (acc.length + 1) vc'))) := Lib.hid (Below.trans (HX5.out.alloc (.cells #[.int .u64 y5] 47)) (Below.trans (Below.mono HB6.out (by omega)) (below_set _ _ (by omega) _)))
                      have HL7 : Hid (Blk (w6.setCell ⟨w.heap.size + 1, 1, none⟩ (.slice va' (acc.length + 1) vc')) (w.heap.size + 1) #[.string (St wd), .slice va' (acc.length + 1) vc', .bool true] 78) := Lib.hid (HL6.out.set 1 _)
                      have HZ7 : Hid (Blk (w6.setCell ⟨w.heap.size + 1, 1, none⟩ (.slice va' (acc.length + 1) vc')) w.heap.size #[.string (St []), .slice none 0 0, .bool false] 78) := Lib.hid (HZ6.out.set_ne (by omega) _)
                      have HO7 := Lib.hid (own_set HO6.out (b := w.heap.size + 1) (i := 1) (by omega) (.slice va' (acc.length + 1) vc'))
                      have hsz7 : w.heap.size + 2 ≤ (w6.setCell ⟨w.heap.size + 1, 1, none⟩ (.slice va' (acc.length + 1) vc')).heap.size := by simp; omega
                      clear k1 k2 k3 r1 rl HX5 HL5 HZ5 HO5 hsz5 HL6 HB6 HO6 HZ6 hsz6
                      generalize w6.setCell ⟨w.heap.size + 1, 1, none⟩ (.slice va' (acc.length + 1) vc') = w7 at *
                      have k1 := HL7.out.cell 2 (v := .bool true) rfl
                      have k2 := HL7.out.fz 2
                      have k3 := HL7.out.lt
                      go_wp2_with fail
                      go_roundw
                      case rel =>
                        refine ⟨k, acc ++ [y5], false, .slice va' (acc.length + 1) vc', hk, by go_num, by simp; omega, by simp; omega, Lib.hid (Below.trans HX7.out (below_set _ _ (by omega) _)), Lib.hid (HL7.out.set 2 _), Lib.hid (HZ7.out.set_ne (by omega) _), Lib.hid ?_, Lib.hid ?_, HR3, Lib.hid ?_⟩
                        · rw [List.length_append, List.map_append]; exact own_set HO7.out (by omega) _
                        · have h1 : X = preN acc (Pl.numsP (Pl.wsOf (l.drop i))) := HNA.out
                          show X = none
                          rw [h1, HWS3.out, numsP_none HNV.out]; rfl
                        · intro z hz
                          rcases List.mem_append.1 hz with h | h
                          · exact HG.out z h
                          · simp only [List.mem_singleton] at h; omega
                      case measure => simp [intOf]; omega
          · cases is with
            | false =>
              have s0 := HZ.out.cell 0 (v := .string (St [])) rfl
              have s1 := HZ.out.cell 1 (v := .slice none 0 0) rfl
              have s2 := HZ.out.cell 2 (v := .bool false) rfl
              have z0 := HZ.out.fz 0
              have z1 := HZ.out.fz 1
              have z2 := HZ.out.fz 2
              have zl := HZ.out.lt
              obtain ⟨va, vc, rfl, -⟩ := own_slice HO.out
              have r0 := HL.out.cell 0 (v := .string (St wd)) rfl
              have r1 := HL.out.cell 1 (v := .slice va acc.length vc) rfl
              have r2 := HL.out.cell 2 (v := .bool false) rfl
              go_wp2_with fail
              have hbF : Blk (((wr.setCell ⟨w.heap.size, 0, none⟩ (.string (St wd))).setCell ⟨w.heap.size, 1, none⟩ (.slice va acc.length vc)).setCell ⟨w.heap.size, 2, none⟩ (.bool false)) w.heap.size #[.string (St wd), .slice va acc.length vc, .bool false] 78 := ((HZ.out.set 0 _).set 1 _).set 2 _
              have hxF : Ext w (((wr.setCell ⟨w.heap.size, 0, none⟩ (.string (St wd))).setCell ⟨w.heap.size, 1, none⟩ (.slice va acc.length vc)).setCell ⟨w.heap.size, 2, none⟩ (.bool false)) := Below.trans HX.out (((below_set _ _ (Nat.le_refl _) _).trans (below_set _ _ (Nat.le_refl _) _)).trans (below_set _ _ (Nat.le_refl _) _))
              have hoF := own_set (own_set (own_set HO.out (b := w.heap.size) (i := 0) (by omega) (.string (St wd))) (b := w.heap.size) (i := 1) (by omega) (.slice va acc.length vc)) (b := w.heap.size) (i := 2) (by omega) (.bool false)
              generalize ((wr.setCell ⟨w.heap.size, 0, none⟩ (.string (St wd))).setCell ⟨w.heap.size, 1, none⟩ (.slice va acc.length vc)).setCell ⟨w.heap.size, 2, none⟩ (.bool false) = wf at hbF hxF hoF ⊢
              have u0 := hbF.cell 0 (v := .string (St wd)) rfl
              have u1 := hbF.cell 1 (v := .slice va acc.length vc) rfl
              have u2 := hbF.cell 2 (v := .bool false) rfl
              refine bodyPost_ret (v := .agg #[.string (St wd), .slice va acc.length vc, .bool false]) (by simp [results, Tryd.results28, go_sem, u0, u1, u2]) rfl ?_
              have hX : X = none := HNA.out
              rw [hX]
              exact ⟨hxF, va, acc.length, vc, by omega, rfl⟩
            | true =>
              have s0 := HZ.out.cell 0 (v := .string (St [])) rfl
              have s1 := HZ.out.cell 1 (v := .slice none 0 0) rfl
              have s2 := HZ.out.cell 2 (v := .bool false) rfl
              have z0 := HZ.out.fz 0
              have z1 := HZ.out.fz 1
              have z2 := HZ.out.fz 2
              have zl := HZ.out.lt
              obtain ⟨va, vc, rfl, -⟩ := own_slice HO.out
              have r0 := HL.out.cell 0 (v := .string (St wd)) rfl
              have r1 := HL.out.cell 1 (v := .slice va acc.length vc) rfl
              have r2 := HL.out.cell 2 (v := .bool true) rfl
              go_wp2_with fail
              have hbF : Blk (((wr.setCell ⟨w.heap.size, 0, none⟩ (.string (St wd))).setCell ⟨w.heap.size, 1, none⟩ (.slice va acc.length vc)).setCell ⟨w.heap.size, 2, none⟩ (.bool true)) w.heap.size #[.string (St wd), .slice va acc.length vc, .bool true] 78 := ((HZ.out.set 0 _).set 1 _).set 2 _
              have hxF : Ext w (((wr.setCell ⟨w.heap.size, 0, none⟩ (.string (St wd))).setCell ⟨w.heap.size, 1, none⟩ (.slice va acc.length vc)).setCell ⟨w.heap.size, 2, none⟩ (.bool true)) := Below.trans HX.out (((below_set _ _ (Nat.le_refl _) _).trans (below_set _ _ (Nat.le_refl _) _)).trans (below_set _ _ (Nat.le_refl _) _))
              have hoF := own_set (own_set (own_set HO.out (b := w.heap.size) (i := 0) (by omega) (.string (St wd))) (b := w.heap.size) (i := 1) (by omega) (.slice va acc.length vc)) (b := w.heap.size) (i := 2) (by omega) (.bool true)
              generalize ((wr.setCell ⟨w.heap.size, 0, none⟩ (.string (St wd))).setCell ⟨w.heap.size, 1, none⟩ (.slice va acc.length vc)).setCell ⟨w.heap.size, 2, none⟩ (.bool true) = wf at hbF hxF hoF ⊢
              have u0 := hbF.cell 0 (v := .string (St wd)) rfl
              have u1 := hbF.cell 1 (v := .slice va acc.length vc) rfl
              have u2 := hbF.cell 2 (v := .bool true) rfl
              refine bodyPost_ret (v := .agg #[.string (St wd), .slice va acc.length vc, .bool true]) (by simp [results, Tryd.results28, go_sem, u0, u1, u2]) rfl ?_
              have hX : X = some acc := by
                have h1 : X = preN acc (Pl.numsP (Pl.wsOf (l.drop i))) := HNA.out
                rw [List.drop_of_length_le (by omega)] at h1
                rw [h1]; simp [Pl.wsOf, Pl.numsP, preN]
              rw [hX]
              exact ⟨hxF, va, _, vc, rfl, rfl, ⟨_, hoF⟩, HG.out⟩

end Go.Proofs.YtcfbcffmlinlaaaDoor
