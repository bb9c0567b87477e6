/-
  plan.form, walked.
-/
import Derived.Test.YtcfbcffmlinlaaaDoorPlNum
import Derived.Test.YtcfbcffmlinlaaaDoorPlCut
import Derived.Test.YtcfbcffmlinlaaaDoorScrDec
namespace Go.Proofs.YtcfbcffmlinlaaaDoor
open Go.RowKit

theorem Tryd.infoU64 : (Tryd.prog.info? 47).map (fun i => (i.zero, i.size, i.bytes)) = some (some (.int .u64 0), 1, 8) := by kernel_rfl

/-- Words' numbers read on, or not. -/
def preN (a : List Int) : Option (List Int) → Option (List Int)
  | some l => some (a ++ l)
  | none => none
theorem preN_nil (x : Option (List Int)) : preN [] x = x := by cases x <;> rfl
theorem preN_preN (a b : List Int) (x : Option (List Int)) : preN a (preN b x) = preN (a ++ b) x := by
  cases x <;> simp [preN]
theorem numsP_none {w : List UInt8} {r : List (List UInt8)} (h : Pl.numP w = none) : Pl.numsP (w :: r) = none := by
  unfold Pl.numsP; rw [h]
theorem numsP_some {w : List UInt8} {r : List (List UInt8)} {x : Nat} (h : Pl.numP w = some x) : Pl.numsP (w :: r) = preN [(x : Int)] (Pl.numsP r) := by
  show (match Pl.numP w with | none => none | some x => match Pl.numsP r with | none => none | some l => some ((x : Int) :: l)) = _
  rw [h]
  cases Pl.numsP r <;> rfl

/-- What form hands back. -/
def retForm (B : Nat) (wd : List UInt8) (l : List Int) (e : Ending) (w' : World) : Prop :=
  ∃ a c, e = .returned (.tuple #[.string (St wd), .slice a l.length c]) ∧ IsInts .u64 w' a l ∧ (∀ p, a = some p → B ≤ p.block) ∧ ∀ x ∈ l, 0 ≤ x ∧ x ≤ 18446744073709551615
def FormPost (w : World) (wd : List UInt8) (x : Option (List Int)) (e : Ending) (w' : World) : Prop :=
  Ext w w' ∧ ((x = none ∧ Gave 5 e) ∨ ∃ l, x = some l ∧ retForm w.heap.size wd l e w')

theorem numP_le {w : List UInt8} {v : Nat} (h : Pl.numP w = some v) : v ≤ 18446744073709551615 := (Pl.numP_back h).2

set_option maxRecDepth 100000 in
set_option maxHeartbeats 2000000 in
theorem form_any (l : List UInt8) (w : World) (hl : l.length ≤ 1000000) (hm : MaxAt w) (wd : List UInt8) (ws : List (List UInt8)) (hw : Pl.words l = wd :: ws) :
    Calls Tryd.prog 41 #[.string (St l)] w (FormPost w wd (Pl.numsP ws)) := by
  obtain ⟨hw1, hw2⟩ := Pl.words_size l
  have HSP := split_any l w hl hm
  rw [hw] at HSP hw1 hw2
  have HS := Lib.hid HSP; clear HSP
  have HLW := Lib.hid (fun x (hx : x ∈ ws) => Nat.le_trans (hw2 x (List.mem_cons_of_mem _ hx)) hl)
  have HW := Lib.hid hw
  have hwl : ws.length ≤ 1000000 := by simp at hw1; omega
  clear hw hw1 hw2 hm
  go_enter Tryd.func41, Tryd.ntmps41
  go_wp2_with fail
  refine HS.out.mono ?_
  rintro e w1 ⟨rfl, rfl⟩
  clear HS
  have hb0 := Blk.new w ((wd :: ws).map (fun x => Value.string (St x))).toArray 9
  have hx0 := (Ext.refl w).alloc (.cells ((wd :: ws).map (fun x => Value.string (St x))).toArray 9)
  have hz0 : w.heap.size < (w.alloc (.cells ((wd :: ws).map (fun x => Value.string (St x))).toArray 9)).heap.size := by simp
  generalize w.alloc (.cells ((wd :: ws).map (fun x => Value.string (St x))).toArray 9) = W1 at *
  have hc0 : W1.cell? ⟨w.heap.size, 0, none⟩ = some (.string (St wd)) := hb0.cell 0 rfl
  have HB := Lib.hid hb0
  have HX0 := Lib.hid hx0
  have HC0 := Lib.hid hc0
  clear hb0 hx0 hc0
  cases ws with
  | nil =>
    go_wp2_with fail
    go_loop [5, 15] (fun u v => u = .slice none 0 0 ∧ v = .int .i64 0) (fun _ _ => 0)
    case atStart => exact ⟨rfl, rfl⟩
    case round =>
      obtain ⟨rfl, rfl⟩ := hrel
      have hc0 := HC0.out
      go_wp2_with fail
      go_ret2
      exact ⟨HX0.out, .inr ⟨[], rfl, none, 0, rfl, .inl rfl, (fun p h => by cases h), (fun x h => by cases h)⟩⟩
  | cons w1 ws =>
    go_wp2_with fail
    have hcw : ∀ i, i < ws.length + 1 → W1.cell? ⟨w.heap.size, 1 + i, none⟩ = some (.string (St (nthD [] (w1 :: ws) i))) := fun i hi => by
      refine HB.out.cell (1 + i) ?_
      rw [List.getElem?_toArray, List.getElem?_map, Nat.add_comm 1, List.getElem?_cons_succ, getElem?_nthD [] (w1 :: ws) i (by simpa using hi)]; rfl
    have hcl : ∀ i, i < ws.length + 1 → (nthD [] (w1 :: ws) i).length ≤ 1000000 := fun i hi => HLW.out _ (nthD_mem [] _ i (by simpa using hi))
    have hcs : ∀ i, i < ws.length + 1 → (w1 :: ws).drop i = nthD [] (w1 :: ws) i :: (w1 :: ws).drop (i + 1) := fun i hi => dropD_cons [] _ i (by simpa using hi)
    have hce : Hid ((w1 :: ws).drop (ws.length + 1) = []) := Lib.hid (by simp)
    have HCW := Lib.hid hcw
    have HCL := Lib.hid hcl
    have HCS := Lib.hid hcs
    have hwl2 : ws.length ≤ 1000000 := by simp at hwl; omega
    have hwN : Hid (ws.length + 1 = (w1 :: ws).length) := Lib.hid (by simp)
    clear hcw hcl hcs HLW hwl HW
    generalize w1 :: ws = vs at *
    generalize ws.length = N at *
    have hz0' : w.heap.size ≤ W1.heap.size := by omega
    go_loopw [5, 15] (fun u v wr => ∃ (i : Nat) (acc : List Int), i ≤ N + 1 ∧ v = .int .i64 (i : Int) ∧ acc.length = i ∧ Hid (Pl.numsP vs = preN acc (Pl.numsP (vs.drop i))) ∧ Hid (∀ x ∈ acc, 0 ≤ x ∧ x ≤ 18446744073709551615) ∧ Ext W1 wr ∧ wr.ownsRow W1.heap.size 47 1 u acc.length (acc.map (Value.int .u64))) (fun _ v _ => N + 1 - (intOf v).toNat)
    case atStart => exact ⟨0, [], Nat.zero_le _, rfl, rfl, Lib.hid (preN_nil _).symm, Lib.hid (fun x h => by cases h), Ext.refl _, World.ownsRow_nil _ _ _ _⟩
    case round =>
      obtain ⟨i, acc, hi, rfl, hai, HP, HG, hx, ho⟩ := hrel
      obtain ⟨va, vc, rfl, -⟩ := own_slice ho
      have HO := Lib.hid ho
      have HX := Lib.hid hx
      have HAI := Lib.hid hai
      have hal : acc.length ≤ 2000000 := by omega
      have hxs := hx.size
      have hc0 := hx.cell HC0.out
      clear ho hx hai
      by_cases hlt : i < N + 1
      · have hc := HX.out.cell (HCW.out i hlt)
        have hcl := HCL.out i hlt
        have HS := Lib.hid (HCS.out i hlt)
        generalize nthD [] vs i = x at *
        go_wp2_with fail
        refine (pnumber_any x _ hcl).mono ?_
        rintro e w2 ⟨rfl, hx2⟩
        have HX2 := Lib.hid (HX.out.trans hx2)
        have HO2 := Lib.hid (own_ext HO.out hx2)
        have hxs2 := hx2.size
        clear HO hc0 hc hx2
        cases hn : Pl.numP x with
        | none =>
          have HN := Lib.hid hn; clear hn
          unfold numV
          go_wp2_with fail
          refine (give_no 5 _).mono ?_
          rintro e w3 ⟨hg, rfl⟩
          unfold Gave at hg
          subst hg
          refine ⟨rfl, HX0.out.trans HX2.out, .inl ⟨?_, rfl⟩⟩
          rw [HP.out, HS.out, numsP_none HN.out]; rfl
        | some v =>
          have hv := numP_le hn
          have HN := Lib.hid hn; clear hn
          have hv2 : (v : Int) ≤ 18446744073709551615 := by omega
          clear hv
          unfold numV
          go_wp2_with fail
          refine (give_ok 5 _).mono ?_
          rintro e w3 ⟨rfl, rfl⟩
          go_wp2_with (at_builtin; refine wpList_app1 rfl (.tmp 26) (.tmp 28) 60 rfl W1.heap.size 47 _ 8 Tryd.underlying60 Tryd.infoU64 rfl _ _ _ (.int .u64 v) _ rfl (own_ext HO2.out ((Ext.refl _).alloc _)) rfl ?_ rfl ?_ ?_ ?_ ?_; rotate_right; intro v' w3 ho3 hg3 hb3)
          any_goals (first | (rw [World.cell?_alloc_at _ _ _ _ (by simp)]; rfl) | (unfold maxLen; have := HAI.out; omega) | (have := HAI.out; omega) | (have := HX2.out.size; simp; omega))
          go_roundw
          case rel =>
            have hai := HAI.out
            refine ⟨i + 1, acc ++ [(v : Int)], by omega, by go_num, by simp; omega, Lib.hid ?_, Lib.hid ?_, Below.trans (HX2.out.alloc _) hb3, ?_⟩
            · rw [HP.out, HS.out, numsP_some HN.out, preN_preN]
            · intro y hy
              rcases List.mem_append.1 hy with h | h
              · exact HG.out y h
              · simp only [List.mem_singleton] at h; omega
            · rw [List.length_append, List.map_append]; exact ho3
          case measure => simp [intOf]; omega
      · obtain rfl : i = N + 1 := by omega
        go_wp2_with fail
        go_ret2
        obtain ⟨a, cap, hv, -, -, hin, -⟩ := IsInts.ownK HO.out
        obtain ⟨rfl, rfl⟩ : va = a ∧ vc = cap := by simpa using hv
        refine ⟨HX0.out.trans HX.out, .inr ⟨acc, ?_, va, vc, rfl, hin, fun p hp => ?_, HG.out⟩⟩
        · rw [HP.out, hce.out]; simp [Pl.numsP, preN]
        · subst hp; have := (HO.out.lt _ rfl).1; omega
end Go.Proofs.YtcfbcffmlinlaaaDoor
