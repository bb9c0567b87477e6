/-
  text's lists; the reference's.
-/
import Derived.Test.YtkhagpnnkfglbaaTxNum
import Derived.Test.YtkhagpnnkfglbaaShelf
import Derived.Deep.OwnRows
namespace Go.Proofs.Ytkhagpnnkfglbaa
open Go.RowKit

theorem jn_snoc (a : List UInt8) : ∀ ws : List (List UInt8), ws ≠ [] → Tx.jn (ws ++ [a]) = Tx.jn ws ++ 32 :: a
  | [], h => absurd rfl h
  | [b], _ => rfl
  | b :: c :: r, _ => by
    have := jn_snoc a (c :: r) (by simp)
    show b ++ 32 :: Tx.jn (c :: r ++ [a]) = (b ++ 32 :: Tx.jn (c :: r)) ++ 32 :: a
    rw [this]; simp

theorem lib_join : ∀ ws : List (List UInt8), Lib.join ws [32] = Tx.jn ws
  | [] => rfl
  | [a] => Lib.join_one a [32]
  | a :: b :: r => by
    have := lib_join (b :: r)
    rw [Lib.join_cons] at this ⊢
    show a ++ Lib.joinTail [32] (b :: r) = a ++ 32 :: Tx.jn (b :: r)
    rw [← this]
    simp [Lib.joinTail]

theorem numT_len (x : Int) : (Tx.numT x).length ≤ 22 := by
  unfold Tx.numT
  split
  · have := digs_len 20 (-x).toNat; simp; omega
  · have := digs_len 20 x.toNat; omega

theorem jn_len (n : Nat) : ∀ ws : List (List UInt8), (∀ w ∈ ws, w.length ≤ n) → (Tx.jn ws).length ≤ ws.length * (n + 1)
  | [], _ => by simp [Tx.jn]
  | [a], h => by have := h a List.mem_cons_self; simp [Tx.jn]; omega
  | a :: b :: r, h => by
    have h1 := jn_len n (b :: r) (fun w hw => h w (List.mem_cons_of_mem _ hw))
    have h2 := h a List.mem_cons_self
    show (a ++ 32 :: Tx.jn (b :: r)).length ≤ _
    rw [List.length_append, List.length_cons, List.length_cons, Nat.succ_mul]
    omega

theorem jnum_len (l : List Int) : (Tx.jn (l.map Tx.numT)).length ≤ 23 * l.length := by
  have := jn_len 22 (l.map Tx.numT) (fun w hw => by obtain ⟨x, _, rfl⟩ := List.mem_map.1 hw; exact numT_len x)
  rw [List.length_map] at this
  omega

theorem jn_take_succ (l : List Int) (k : Nat) (h : k < l.length) (hk : 0 < k) : Tx.jn ((l.take (k + 1)).map Tx.numT) = Tx.jn ((l.take k).map Tx.numT) ++ 32 :: Tx.numT (nth l k) := by
  rw [take_snoc l k h, List.map_append]
  exact jn_snoc _ _ (by
    intro e
    have := congrArg List.length e
    rw [List.length_map, List.length_take, List.length_nil] at this
    omega)

theorem row_below {w1 w2 : World} {b n : Nat} {t : TypeId} {f : Nat → Value} (h : w1.rowIs b t n f) (he : Ext w1 w2) : w2.rowIs b t n f := h.of_block (he.block b h.lt)

/-- What the words are so far. -/
def wordAt (l : List Int) (j : Nat) (i : Nat) : Value := if i < j then .string (St (Tx.numT (nth l i))) else .string (St [])
theorem wordAt_lt {l : List Int} {j i : Nat} (h : i < j) : wordAt l j i = .string (St (Tx.numT (nth l i))) := if_pos h

theorem info_str : (Try.prog.info? 9).map (fun i => (i.zero, i.size, i.bytes)) = some (some (.string (St [])), 1, 16) := by kernel_rfl

set_option maxHeartbeats 1000000 in
theorem list_u64_any (l : List Int) (a : Option Addr) (c : Nat) (w : World) (hi : IsInts .u64 w a l) (hg : ∀ x ∈ l, Tx.u64 x) (hl : l.length ≤ 10000) :
    Calls Try.prog 21 #[.slice a l.length c] w fun e w' => e = .returned (.string (St (Tx.listT l))) ∧ Ext w w' := by
  have hmk := fun (n : Nat) (hn : n ≤ 10000) (w : World) => run_make_row' (P := Try.prog) 58 9 (.string (St [])) 16 Try.underlying58 info_str rfl .i64 .i64 n (by omega) (by omega) w
  have hmk := hmk l.length hl
  have HI := Lib.hid hi
  have HG := Lib.hid hg
  clear hi hg
  go_enter Try.func21, Try.ntmps21
  go_wp2_with fail
  have HB : Hid (Below w.heap.size w (w.alloc (.cells (madeCells #[.string (St [])] l.length) 9))) := Lib.hid ((Below.refl _ _).alloc (Nat.le_refl _) _)
  have HR : Hid ((w.alloc (.cells (madeCells #[.string (St [])] l.length) 9)).rowIs w.heap.size 9 l.length (wordAt l 0)) := Lib.hid ((World.rowIs_made w (.string (St [])) l.length 9).congr (fun i hi => by unfold wordAt; rw [if_neg (by omega)]))
  clear hmk
  generalize w.alloc (.cells (madeCells #[.string (St [])] l.length) 9) = W0 at *
  generalize hB : w.heap.size = B at *
  have HBe := Lib.hid hB; clear hB
  simp only [lit_St]
  go_loopw [11] (fun k wr => ∃ j : Nat, j ≤ l.length ∧ k = .int .i64 j ∧ Hid (wr.rowIs B 9 l.length (wordAt l j)) ∧ Hid (Below B w wr)) (fun k _ => l.length - (intOf k).toNat)
  case atStart => exact ⟨0, Nat.zero_le _, rfl, HR, HB⟩
  case round =>
    obtain ⟨j, hj, rfl, HRj, HBj⟩ := hrel
    by_cases hlt : j < l.length
    · have hbel := HBj.out
      have hx := HI.out.ext (w' := wr) (by unfold Ext; rw [HBe.out]; exact hbel)
      obtain ⟨b, off, rfl, hc⟩ := hx.at hlt
      have hgx := HG.out _ (nth_mem l j hlt)
      unfold Tx.u64 at hgx
      have HW := Lib.hid (HRj.out.cell hlt)
      have hcB := HRj.out.cell hlt
      have hfB := HRj.out.frozen j
      have hltB := HRj.out.lt
      clear hx hbel
      have HN : Hid ((wr.setCell ⟨B, j, none⟩ (.string (St (Tx.numT (nth l j))))).rowIs B 9 l.length (wordAt l (j + 1))) := Lib.hid ((HRj.out.set j _).congr (fun i hi => by
        unfold wordAt
        by_cases e : i = j
        · subst e; rw [if_pos rfl, if_pos (by omega)]
        · rw [if_neg e]
          by_cases h2 : i < j
          · rw [if_pos h2, if_pos (by omega)]
          · rw [if_neg h2, if_neg (by omega)]))
      have HNB : Hid (Below B w (wr.setCell ⟨B, j, none⟩ (.string (St (Tx.numT (nth l j)))))) := Lib.hid (HBj.out.setCell (Nat.le_refl _) _)
      generalize nth l j = x at *
      go_wp2_with fail
      refine (num_u64_any x _ (by omega) (by omega)).mono ?_
      rintro e w' ⟨rfl, rfl⟩
      go_wp2_with fail
      go_roundw
      case rel => exact ⟨j + 1, by omega, by go_num, HN, HNB⟩
      case measure => simp [intOf]; omega
    · obtain rfl : j = l.length := by omega
      have hltB := HRj.out.lt
      have hcells : ∀ (i : Nat) x, (l.map (fun x => St (Tx.numT x)))[i]? = some x → wr.cell? ⟨B, 0 + i, none⟩ = some (.string x) := fun i x hx => by
        rw [List.getElem?_map, Option.map_eq_some_iff] at hx
        obtain ⟨y, hy, rfl⟩ := hx
        have hil : i < l.length := (List.getElem?_eq_some_iff.1 hy).1
        rw [Nat.zero_add, HRj.out.cell hil, wordAt_lt hil]
        rw [getElem?_nth l i hil] at hy
        simp only [Option.some.injEq] at hy
        rw [hy]
      have hjoin : Lib.join ((l.map (fun x => St (Tx.numT x))).map (·.data.toList)) (St [32]).data.toList = Tx.jn (l.map Tx.numT) := by
        rw [List.map_map, St_list, ← lib_join]
        congr 1
      have hjl : (Tx.jn (l.map Tx.numT)).length ≤ 230000 := by have := jnum_len l; omega
      have hll : (l.map (fun x => St (Tx.numT x))).length = l.length := List.length_map ..
      have hcall := Try.strings_Join B 0 l.length (l.map (fun x => St (Tx.numT x))) (St [32]) wr hcells hltB (by rw [hll]; omega) (by rw [hll]; omega) (by rw [hjoin]; omega)
      rw [hll, hjoin] at hcall
      have HC := Lib.hid hcall
      have HBl := Lib.hid (show B ≤ wr.heap.size by omega)
      clear hcall hjoin hcells hll hltB
      generalize hJ : Tx.jn (l.map Tx.numT) = J at *
      have HJ := Lib.hid hJ; clear hJ
      go_wp2_with fail
      refine HC.out.mono ?_
      rintro e w1 ⟨rfl, hb⟩
      have HB1 := Lib.hid (HBj.out.trans (hb.mono HBl.out)); clear hb
      go_wp2_with fail
      go_ret
      refine ⟨ret_str ?_, ?_⟩
      · unfold Tx.listT; rw [HJ.out]
      · unfold Ext; rw [HBe.out]; exact HB1.out

set_option maxHeartbeats 1000000 in
theorem list_int_any (l : List Int) (a : Option Addr) (c : Nat) (w : World) (hi : IsInts .i64 w a l) (hg : ∀ x ∈ l, Tx.i64 x) (hl : l.length ≤ 10000) :
    Calls Try.prog 22 #[.slice a l.length c] w fun e w' => e = .returned (.string (St (Tx.listT l))) ∧ Ext w w' := by
  have hmk := fun (n : Nat) (hn : n ≤ 10000) (w : World) => run_make_row' (P := Try.prog) 58 9 (.string (St [])) 16 Try.underlying58 info_str rfl .i64 .i64 n (by omega) (by omega) w
  have hmk := hmk l.length hl
  have HI := Lib.hid hi
  have HG := Lib.hid hg
  clear hi hg
  go_enter Try.func22, Try.ntmps22
  go_wp2_with fail
  have HB : Hid (Below w.heap.size w (w.alloc (.cells (madeCells #[.string (St [])] l.length) 9))) := Lib.hid ((Below.refl _ _).alloc (Nat.le_refl _) _)
  have HR : Hid ((w.alloc (.cells (madeCells #[.string (St [])] l.length) 9)).rowIs w.heap.size 9 l.length (wordAt l 0)) := Lib.hid ((World.rowIs_made w (.string (St [])) l.length 9).congr (fun i hi => by unfold wordAt; rw [if_neg (by omega)]))
  clear hmk
  generalize w.alloc (.cells (madeCells #[.string (St [])] l.length) 9) = W0 at *
  generalize hB : w.heap.size = B at *
  have HBe := Lib.hid hB; clear hB
  simp only [lit_St]
  go_loopw [11] (fun k wr => ∃ j : Nat, j ≤ l.length ∧ k = .int .i64 j ∧ Hid (wr.rowIs B 9 l.length (wordAt l j)) ∧ Hid (Below B w wr)) (fun k _ => l.length - (intOf k).toNat)
  case atStart => exact ⟨0, Nat.zero_le _, rfl, HR, HB⟩
  case round =>
    obtain ⟨j, hj, rfl, HRj, HBj⟩ := hrel
    by_cases hlt : j < l.length
    · have hbel := HBj.out
      have hx := HI.out.ext (w' := wr) (by unfold Ext; rw [HBe.out]; exact hbel)
      obtain ⟨b, off, rfl, hc⟩ := hx.at hlt
      have hgx := HG.out _ (nth_mem l j hlt)
      unfold Tx.i64 at hgx
      have HW := Lib.hid (HRj.out.cell hlt)
      have hcB := HRj.out.cell hlt
      have hfB := HRj.out.frozen j
      have hltB := HRj.out.lt
      clear hx hbel
      have HN : Hid ((wr.setCell ⟨B, j, none⟩ (.string (St (Tx.numT (nth l j))))).rowIs B 9 l.length (wordAt l (j + 1))) := Lib.hid ((HRj.out.set j _).congr (fun i hi => by
        unfold wordAt
        by_cases e : i = j
        · subst e; rw [if_pos rfl, if_pos (by omega)]
        · rw [if_neg e]
          by_cases h2 : i < j
          · rw [if_pos h2, if_pos (by omega)]
          · rw [if_neg h2, if_neg (by omega)]))
      have HNB : Hid (Below B w (wr.setCell ⟨B, j, none⟩ (.string (St (Tx.numT (nth l j)))))) := Lib.hid (HBj.out.setCell (Nat.le_refl _) _)
      generalize nth l j = x at *
      go_wp2_with fail
      refine (num_int_any x _ (by omega) (by omega)).mono ?_
      rintro e w' ⟨rfl, rfl⟩
      go_wp2_with fail
      go_roundw
      case rel => exact ⟨j + 1, by omega, by go_num, HN, HNB⟩
      case measure => simp [intOf]; omega
    · obtain rfl : j = l.length := by omega
      have hltB := HRj.out.lt
      have hcells : ∀ (i : Nat) x, (l.map (fun x => St (Tx.numT x)))[i]? = some x → wr.cell? ⟨B, 0 + i, none⟩ = some (.string x) := fun i x hx => by
        rw [List.getElem?_map, Option.map_eq_some_iff] at hx
        obtain ⟨y, hy, rfl⟩ := hx
        have hil : i < l.length := (List.getElem?_eq_some_iff.1 hy).1
        rw [Nat.zero_add, HRj.out.cell hil, wordAt_lt hil]
        rw [getElem?_nth l i hil] at hy
        simp only [Option.some.injEq] at hy
        rw [hy]
      have hjoin : Lib.join ((l.map (fun x => St (Tx.numT x))).map (·.data.toList)) (St [32]).data.toList = Tx.jn (l.map Tx.numT) := by
        rw [List.map_map, St_list, ← lib_join]
        congr 1
      have hjl : (Tx.jn (l.map Tx.numT)).length ≤ 230000 := by have := jnum_len l; omega
      have hll : (l.map (fun x => St (Tx.numT x))).length = l.length := List.length_map ..
      have hcall := Try.strings_Join B 0 l.length (l.map (fun x => St (Tx.numT x))) (St [32]) wr hcells hltB (by rw [hll]; omega) (by rw [hll]; omega) (by rw [hjoin]; omega)
      rw [hll, hjoin] at hcall
      have HC := Lib.hid hcall
      have HBl := Lib.hid (show B ≤ wr.heap.size by omega)
      clear hcall hjoin hcells hll hltB
      generalize hJ : Tx.jn (l.map Tx.numT) = J at *
      have HJ := Lib.hid hJ; clear hJ
      go_wp2_with fail
      refine HC.out.mono ?_
      rintro e w1 ⟨rfl, hb⟩
      have HB1 := Lib.hid (HBj.out.trans (hb.mono HBl.out)); clear hb
      go_wp2_with fail
      go_ret
      refine ⟨ret_str ?_, ?_⟩
      · unfold Tx.listT; rw [HJ.out]
      · unfold Ext; rw [HBe.out]; exact HB1.out

set_option maxHeartbeats 1000000 in
theorem words_any (l : List Int) (a : Option Addr) (c : Nat) (w : World) (hi : IsInts .u64 w a l) (hg : ∀ x ∈ l, Tx.u64 x) (hl : l.length ≤ 10000) :
    Calls Try.prog 25 #[.slice a l.length c] w fun e w' => e = .returned (.string (St (Tx.listT l))) ∧ Ext w w' := by
  have HI := Lib.hid hi
  have HG := Lib.hid hg
  clear hi hg
  go_enter Try.func25, Try.ntmps25
  go_wp2_with fail
  simp only [lit_St]
  go_loopw [3, 7] (fun s k wr => ∃ (j : Nat) (t : List UInt8), j ≤ l.length ∧ k = .int .i64 j ∧ s = .string (St t) ∧ t.length ≤ 1 + 23 * j ∧ Hid (t = 91 :: Tx.jn ((l.take j).map Tx.numT)) ∧ Hid (Ext w wr)) (fun _ k _ => l.length - (intOf k).toNat)
  case atStart => exact ⟨0, [91], Nat.zero_le _, rfl, rfl, by simp, Lib.hid rfl, Lib.hid (Ext.refl w)⟩
  case round =>
    obtain ⟨j, t, hj, rfl, rfl, htl, HT, HX⟩ := hrel
    by_cases hlt : j < l.length
    · have hx := HI.out.ext HX.out
      obtain ⟨b, off, rfl, hc⟩ := hx.at hlt
      have hgx := HG.out _ (nth_mem l j hlt)
      unfold Tx.u64 at hgx
      clear hx
      have hnl := numT_len (nth l j)
      by_cases h0 : ¬ 0 < j
      · have HN : Hid (t ++ Tx.numT (nth l j) = 91 :: Tx.jn ((l.take (j + 1)).map Tx.numT)) := Lib.hid (by
          obtain rfl : j = 0 := by omega
          rw [HT.out, take_snoc l 0 hlt]; rfl)
        generalize nth l j = x at *
        generalize hy : Tx.numT x = y at *
        have HY := Lib.hid hy; clear hy
        go_wp2_with fail
        refine (rdigits_any x _ (by omega) (by omega)).mono ?_
        rintro e w1 ⟨rfl, hx⟩
        rw [show Tx.digs 20 x.toNat = y by rw [← HY.out, Tx.numT_pos (by omega)]]
        have HX1 := Lib.hid (HX.out.trans hx); clear hx
        go_wp2_with fail
        go_roundw
        case rel => exact ⟨j + 1, _, by omega, by go_num, rfl, by simp only [List.length_append]; omega, HN, HX1⟩
        case measure => simp [intOf]; omega
      · have hjp : 0 < j := by omega
        have HN : Hid (t ++ 32 :: Tx.numT (nth l j) = 91 :: Tx.jn ((l.take (j + 1)).map Tx.numT)) := Lib.hid (by
          rw [HT.out, jn_take_succ l j hlt hjp]; rfl)
        generalize nth l j = x at *
        generalize hy : Tx.numT x = y at *
        have HY := Lib.hid hy; clear hy
        go_wp2_with fail
        refine (rdigits_any x _ (by omega) (by omega)).mono ?_
        rintro e w1 ⟨rfl, hx⟩
        rw [show Tx.digs 20 x.toNat = y by rw [← HY.out, Tx.numT_pos (by omega)]]
        have HX1 := Lib.hid (HX.out.trans hx); clear hx
        go_wp2_with fail
        go_roundw
        case rel => exact ⟨j + 1, _, by omega, by go_num, rfl, by simp only [List.length_append, List.length_cons, List.length_nil]; omega, HN, HX1⟩
        case measure => simp [intOf]; omega
    · obtain rfl : j = l.length := by omega
      go_wp2_with fail
      go_ret
      refine ⟨ret_str ?_, HX.out⟩
      rw [HT.out, List.take_length]
      rfl

set_option maxHeartbeats 1000000 in
theorem ints_any (l : List Int) (a : Option Addr) (c : Nat) (w : World) (hi : IsInts .i64 w a l) (hg : ∀ x ∈ l, Tx.i64 x) (hl : l.length ≤ 10000) :
    Calls Try.prog 26 #[.slice a l.length c] w fun e w' => e = .returned (.string (St (Tx.listT l))) ∧ Ext w w' := by
  have HI := Lib.hid hi
  have HG := Lib.hid hg
  clear hi hg
  go_enter Try.func26, Try.ntmps26
  go_wp2_with fail
  simp only [lit_St]
  go_loopw [3, 7] (fun s k wr => ∃ (j : Nat) (t : List UInt8), j ≤ l.length ∧ k = .int .i64 j ∧ s = .string (St t) ∧ t.length ≤ 1 + 23 * j ∧ Hid (t = 91 :: Tx.jn ((l.take j).map Tx.numT)) ∧ Hid (Ext w wr)) (fun _ k _ => l.length - (intOf k).toNat)
  case atStart => exact ⟨0, [91], Nat.zero_le _, rfl, rfl, by simp, Lib.hid rfl, Lib.hid (Ext.refl w)⟩
  case round =>
    obtain ⟨j, t, hj, rfl, rfl, htl, HT, HX⟩ := hrel
    by_cases hlt : j < l.length
    · have hx := HI.out.ext HX.out
      obtain ⟨b, off, rfl, hc⟩ := hx.at hlt
      have hgx := HG.out _ (nth_mem l j hlt)
      unfold Tx.i64 at hgx
      clear hx
      have hnl := numT_len (nth l j)
      by_cases h0 : ¬ 0 < j
      · have HN : Hid (t ++ Tx.numT (nth l j) = 91 :: Tx.jn ((l.take (j + 1)).map Tx.numT)) := Lib.hid (by
          obtain rfl : j = 0 := by omega
          rw [HT.out, take_snoc l 0 hlt]; rfl)
        generalize nth l j = x at *
        generalize hy : Tx.numT x = y at *
        have HY := Lib.hid hy; clear hy
        go_wp2_with fail
        refine (rint_any x _ (by omega) (by omega)).mono ?_
        rintro e w1 ⟨rfl, hx⟩
        rw [HY.out]
        have HX1 := Lib.hid (HX.out.trans hx); clear hx
        go_wp2_with fail
        go_roundw
        case rel => exact ⟨j + 1, _, by omega, by go_num, rfl, by simp only [List.length_append]; omega, HN, HX1⟩
        case measure => simp [intOf]; omega
      · have hjp : 0 < j := by omega
        have HN : Hid (t ++ 32 :: Tx.numT (nth l j) = 91 :: Tx.jn ((l.take (j + 1)).map Tx.numT)) := Lib.hid (by
          rw [HT.out, jn_take_succ l j hlt hjp]; rfl)
        generalize nth l j = x at *
        generalize hy : Tx.numT x = y at *
        have HY := Lib.hid hy; clear hy
        go_wp2_with fail
        refine (rint_any x _ (by omega) (by omega)).mono ?_
        rintro e w1 ⟨rfl, hx⟩
        rw [HY.out]
        have HX1 := Lib.hid (HX.out.trans hx); clear hx
        go_wp2_with fail
        go_roundw
        case rel => exact ⟨j + 1, _, by omega, by go_num, rfl, by simp only [List.length_append, List.length_cons, List.length_nil]; omega, HN, HX1⟩
        case measure => simp [intOf]; omega
    · obtain rfl : j = l.length := by omega
      go_wp2_with fail
      go_ret
      refine ⟨ret_str ?_, HX.out⟩
      rw [HT.out, List.take_length]
      rfl

end Go.Proofs.Ytkhagpnnkfglbaa
