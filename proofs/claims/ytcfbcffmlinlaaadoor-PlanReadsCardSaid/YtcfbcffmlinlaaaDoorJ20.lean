/-
  The reference's Lines, and the reading of them in turn.
  The reference's Read.
  The reference's Read: the walk.
-/
import Derived.Test.YtcfbcffmlinlaaaDoorJ19
import Derived.Test.YtcfbcffmlinlaaaDoorJ02
import Derived.Test.YtcfbcffmlinlaaaDoorJ16
import Derived.Test.YtcfbcffmlinlaaaDoorJ17
import Derived.Test.YtcfbcffmlinlaaaDoorJ12
set_option linter.unusedVariables false
namespace Go.Proofs.YtcfbcffmlinlaaaDoor
open Go.RowKit
namespace Pl

/-- The whole lines, and what stands behind the last one. -/
def lns : List UInt8 → List (List UInt8) × List UInt8
  | [] => ([], [])
  | c :: t => if c = 10 then ([] :: (lns t).1, (lns t).2) else match (lns t).1 with
    | [] => ([], c :: (lns t).2)
    | a :: x => ((c :: a) :: x, (lns t).2)
theorem lns_none : ∀ t : List UInt8, cutL t = none → lns t = ([], t)
  | [], _ => rfl
  | c :: t, h => by
    unfold cutL at h
    split at h
    · cases h
    rename_i hc
    cases hx : cutL t with
    | none =>
      have := lns_none t hx
      unfold lns
      rw [if_neg hc, this]
    | some p => rw [hx] at h; cases h
theorem lns_some : ∀ (t a b : List UInt8), cutL t = some (a, b) → lns t = (a :: (lns b).1, (lns b).2)
  | [], _, _, h => by cases h
  | c :: t, a, b, h => by
    unfold cutL at h
    split at h
    · rename_i hc
      simp only [Option.some.injEq, Prod.mk.injEq] at h
      obtain ⟨rfl, rfl⟩ := h
      rw [lns, if_pos hc]
    rename_i hc
    cases hx : cutL t with
    | none => rw [hx] at h; cases h
    | some p =>
      obtain ⟨a', b'⟩ := p
      rw [hx] at h
      simp only [Option.some.injEq, Prod.mk.injEq] at h
      obtain ⟨rfl, rfl⟩ := h
      have := lns_some t a' b' hx
      rw [lns, if_neg hc, this]

/-- The lines as the reference has them. -/
def linesOf (t : List UInt8) : List (List UInt8) × Bool :=
  if (lns t).2 = [] ∧ t ≠ [] then ((lns t).1, true) else ((lns t).1 ++ [(lns t).2], false)
/-- The lines read in turn. -/
def runA : St → Int → List (List UInt8) → Bool → Int × Int × St
  | r, _, [], _ => (0, 0, r)
  | r, k, a :: x, wh => if x = [] ∧ wh = false then (k, 4, r) else if (stepL r a).1 = 0 then runA (stepL r a).2 (k + 1) x wh else (k, (stepL r a).1, r)

theorem runA_cons (r : St) (k : Int) (a : List UInt8) (x : List (List UInt8)) (wh : Bool) : runA r k (a :: x) wh = if x = [] ∧ wh = false then (k, 4, r) else if (stepL r a).1 = 0 then runA (stepL r a).2 (k + 1) x wh else (k, (stepL r a).1, r) := rfl

theorem linesOf_ne {b : List UInt8} (hb : b ≠ []) : (linesOf b).1 ≠ [] := by
  unfold linesOf
  split
  · rename_i h
    cases hx : cutL b with
    | none => rw [lns_none b hx] at h; exact absurd h.1 hb
    | some p => rw [lns_some b p.1 p.2 hx]; simp
  · simp
theorem linesOf_cons {t a b : List UInt8} (h : cutL t = some (a, b)) (hb : b ≠ []) : linesOf t = (a :: (linesOf b).1, (linesOf b).2) := by
  have ht : t ≠ [] := by intro e; rw [e] at h; cases h
  have e := lns_some t a b h
  unfold linesOf
  rw [e]
  by_cases hr : (lns b).2 = []
  · rw [if_pos ⟨hr, ht⟩, if_pos ⟨hr, hb⟩]
  · rw [if_neg (fun g => hr g.1), if_neg (fun g => hr g.1)]; rfl
theorem runL_runA : ∀ (f : Nat) (t : List UInt8) (r : St) (k : Int), t.length < f → runL f r k t = runA r k (linesOf t).1 (linesOf t).2 := by
  intro f
  induction f with
  | zero => intro t r k h; omega
  | succ f ih =>
    intro t r k h
    unfold runL
    cases hx : cutL t with
    | none =>
      have e : linesOf t = ([t], false) := by
        unfold linesOf
        rw [lns_none t hx]
        rw [if_neg (fun g => g.2 g.1)]; rfl
      rw [e]
      show _ = if _ then _ else _
      rw [if_pos ⟨rfl, rfl⟩]
    | some p =>
      obtain ⟨a, b⟩ := p
      have hlt := cutL_lt hx
      simp only
      by_cases hb : b = []
      · subst hb
        have ht : t ≠ [] := by intro e; rw [e] at hx; cases hx
        have e : linesOf t = ([a], true) := by
          unfold linesOf
          rw [lns_some t a [] hx]
          rw [if_pos ⟨rfl, ht⟩]; rfl
        rw [e, runA_cons]
        simp [runA]
      · have h1 : ¬ ((linesOf b).1 = [] ∧ (linesOf b).2 = false) := fun g => linesOf_ne hb g.1
        rw [linesOf_cons hx hb, runA_cons]
        rw [if_neg h1, if_neg hb, ih b _ _ (by omega)]
theorem readP_runA (t : List UInt8) : readP t = runA st0 1 (linesOf t).1 (linesOf t).2 := runL_runA _ t st0 1 (Nat.lt_succ_self _)

theorem cut_at {l : List UInt8} {f i : Nat} (hf : f ≤ i) (hi : i < l.length) (hc : l[i] = 10) (hn : (10 : UInt8) ∉ (l.drop f).take (i - f)) : cutL (l.drop f) = some ((l.drop f).take (i - f), l.drop (i + 1)) := by
  have e : l.drop f = (l.drop f).take (i - f) ++ 10 :: l.drop (i + 1) := by
    have h1 := (List.take_append_drop (i - f) (l.drop f)).symm
    rw [List.drop_drop, show f + (i - f) = i by omega, List.drop_eq_getElem_cons hi, hc] at h1
    exact h1
  have h2 := cutL_app ((l.drop f).take (i - f)) (l.drop (i + 1)) hn
  rw [← e] at h2
  exact h2
theorem cut_no {l : List UInt8} {f : Nat} (hn : (10 : UInt8) ∉ (l.drop f).take (l.length - f)) : cutL (l.drop f) = none := by
  rw [List.take_of_length_le (by rw [List.length_drop]; exact Nat.le_refl _)] at hn
  cases hx : cutL (l.drop f) with
  | none => rfl
  | some p =>
    have := (cutL_back _ p.1 p.2 hx).1
    exact absurd (by rw [this]; simp) hn
theorem take_no3 {l : List UInt8} {f i : Nat} (hf : f ≤ i) (hi : i < l.length) (hc : l[i] ≠ 10) (hn : (10 : UInt8) ∉ (l.drop f).take (i - f)) : (10 : UInt8) ∉ (l.drop f).take (i + 1 - f) := by
  have := take_no hn (by rw [List.length_drop]; omega) (by
    rw [List.getElem_drop]
    have e : f + (i - f) = i := by omega
    simpa [e] using hc)
  rwa [show i + 1 - f = i - f + 1 by omega]
end Pl

theorem Tryd.infoStr : (Tryd.prog.info? 9).map (fun i => (i.zero, i.size, i.bytes)) = some (some (.string ⟨#[]⟩), 1, 16) := by kernel_rfl

def strs (L : List (List UInt8)) : List Value := L.map fun l => .string (St l)

set_option maxRecDepth 100000 in
set_option maxHeartbeats 4000000 in
theorem lines_any (t : List UInt8) (w : World) (ht : t.length ≤ 1000000) :
    Calls Tryd.prog 27 #[.string (St t)] w (fun e w' => Ext w w' ∧ ∃ a c, e = .returned (.tuple #[.slice a (Pl.linesOf t).1.length c, .bool (Pl.linesOf t).2]) ∧
      w'.ownsRow w.heap.size 9 1 (.slice a (Pl.linesOf t).1.length c) (Pl.linesOf t).1.length (strs (Pl.linesOf t).1)) := by
  go_enter Tryd.func27, Tryd.ntmps27
  go_wp2_with fail
  go_loopw [4, 5, 9] (fun u f v wr => ∃ (i fr : Nat) (D : List (List UInt8)), fr ≤ i ∧ i ≤ t.length ∧ D.length ≤ i ∧ v = .int .i64 (i : Int) ∧ f = .int .i64 (fr : Int) ∧ Hid (Pl.lns t = (D ++ (Pl.lns (t.drop fr)).1, (Pl.lns (t.drop fr)).2)) ∧ Hid ((10 : UInt8) ∉ (t.drop fr).take (i - fr)) ∧
    Hid (Ext w wr) ∧ Hid (wr.ownsRow w.heap.size 9 1 u D.length (strs D))) (fun _ _ v _ => t.length - (intOf v).toNat)
  case atStart => exact ⟨0, 0, [], Nat.le_refl _, Nat.zero_le _, Nat.zero_le _, rfl, rfl, Lib.hid rfl, Lib.hid (by simp), Lib.hid (Ext.refl _), Lib.hid (World.ownsRow_nil _ _ _ _)⟩
  case round =>
    obtain ⟨i, fr, D, hfi, hi, hD, rfl, rfl, HL, HN, HX, HO⟩ := hrel
    obtain ⟨va, vc, rfl, -⟩ := own_slice HO.out
    have hws := HX.out.size
    by_cases hlt : i < t.length
    · by_cases hc : t[i] = 10
      · have hd : ((t[i].toNat : Int) == 10) = true := by rw [hc]; rfl
        have HCUT := Lib.hid (Pl.cut_at hfi hlt hc HN.out)
        have HEX := Lib.hid (extract_St t fr i)
        clear hc
        go_wp2_with (at_builtin; refine wpList_app1 rfl (.tmp 16) (.tmp 21) 73 rfl w.heap.size 9 _ 16 Tryd.underlying73 Tryd.infoStr rfl _ _ _ (.string ((St t).extract fr i)) _ rfl (own_ext HO.out ((Ext.refl _).alloc _)) rfl ?_ rfl ?_ ?_ ?_ ?_; rotate_right; intro v' w3 ho3 hg3 hb3)
        any_goals (first | (rw [World.cell?_alloc_at _ _ _ _ (by simp)]; rfl) | (unfold maxLen; omega) | omega | (have := HX.out.size; simp; omega))
        go_roundw
        case rel =>
          refine ⟨i + 1, i + 1, D ++ [(t.drop fr).take (i - fr)], Nat.le_refl _, by omega, by simp; omega, by go_num, by go_num, Lib.hid ?_, Lib.hid (by simp), Lib.hid (Below.trans (HX.out.alloc _) hb3), Lib.hid ?_⟩
          · rw [HL.out, Pl.lns_some _ _ _ HCUT.out]; simp
          · rw [HEX.out] at ho3
            rw [List.length_append, strs, List.map_append]; exact ho3
        case measure => simp [intOf]; omega
      · have hd : ((t[i].toNat : Int) == 10) = false := beq_eq_false_iff_ne.2 (fun h => hc (UInt8.toNat_inj.1 (by have : (10 : UInt8).toNat = 10 := rfl; omega)))
        have HN2 := Lib.hid (Pl.take_no3 hfi hlt hc HN.out)
        clear hc
        go_wp2_with fail
        go_roundw
        case rel => exact ⟨i + 1, fr, D, by omega, by omega, by omega, by go_num, rfl, HL, HN2, HX, HO⟩
        case measure => simp [intOf]; omega
    · obtain rfl : i = t.length := by omega
      have hno := Pl.cut_no HN.out
      have hl := HL.out
      rw [Pl.lns_none _ hno, List.append_nil] at hl
      have HLL := Lib.hid hl
      clear hno hl HL
      by_cases hw : fr = t.length ∧ t ≠ []
      · have hne : t.length ≠ 0 := fun e => hw.2 (List.length_eq_zero_iff.1 e)
        have d1 : decide ((fr : Int) < (t.length : Int)) = false := decide_eq_false (by omega)
        have d1n : decide (fr < t.length) = false := decide_eq_false (by omega)
        have d2 : ((t.length : Int) == 0) = false := beq_eq_false_iff_ne.2 (by omega)
        have HLO : Hid (Pl.linesOf t = (D, true)) := Lib.hid (by
          unfold Pl.linesOf
          rw [HLL.out]
          rw [if_pos ⟨List.drop_of_length_le (by omega), hw.2⟩])
        clear hw
        go_wp2_with fail
        refine bodyPost_ret (v := .tuple #[.slice va D.length vc, .bool true]) (by simp [results, Tryd.results27, go_sem]) rfl ?_
        rw [HLO.out]
        exact ⟨HX.out, va, vc, rfl, HO.out⟩
      · have HLO : Hid (Pl.linesOf t = (D ++ [t.drop fr], false)) := Lib.hid (by
          unfold Pl.linesOf
          rw [HLL.out]
          rw [if_neg (fun g => hw ⟨by have := congrArg List.length g.1; rw [List.length_drop] at this; simp at this; omega, g.2⟩)])
        have HEX := Lib.hid (extract_St t fr t.length)
        have htk : (t.drop fr).take (t.length - fr) = t.drop fr := List.take_of_length_le (by rw [List.length_drop]; exact Nat.le_refl _)
        rw [htk] at HEX
        have HE := Lib.hid HEX.out
        clear htk HEX
        have fin : ∀ (v' : Value) (w3 : World), w3.ownsRow w.heap.size 9 1 v' (D.length + 1) (strs D ++ [.string ((St t).extract fr t.length)]) → Ext w w3 →
            ∃ a c, v' = .slice a (D ++ [t.drop fr]).length c ∧ w3.ownsRow w.heap.size 9 1 (.slice a (D ++ [t.drop fr]).length c) (D ++ [t.drop fr]).length (strs (D ++ [t.drop fr])) := by
          intro v' w3 ho _
          obtain ⟨a, c, rfl, -⟩ := own_slice ho
          rw [HE.out] at ho
          have e : (D ++ [t.drop fr]).length = D.length + 1 := by simp
          rw [e]
          refine ⟨a, c, rfl, ?_⟩
          rw [strs, List.map_append]; exact ho
        by_cases hfr : fr < t.length
        · have d1 : decide ((fr : Int) < (t.length : Int)) = true := decide_eq_true (by omega)
          have d1n : decide (fr < t.length) = true := decide_eq_true (by omega)
          clear hw
          go_wp2_with (at_builtin; refine wpList_app1 rfl (.tmp 35) (.tmp 39) 73 rfl w.heap.size 9 _ 16 Tryd.underlying73 Tryd.infoStr rfl _ _ _ (.string ((St t).extract fr t.length)) _ rfl (own_ext HO.out ((Ext.refl _).alloc _)) rfl ?_ rfl ?_ ?_ ?_ ?_; rotate_right; intro v' w3 ho3 hg3 hb3)
          any_goals (first | (rw [World.cell?_alloc_at _ _ _ _ (by simp)]; rfl) | (unfold maxLen; omega) | omega | (have := HX.out.size; simp; omega))
          have hx3 : Ext w w3 := Below.trans (HX.out.alloc _) hb3
          obtain ⟨a, c, rfl, ho⟩ := fin v' w3 ho3 hx3
          refine bodyPost_ret (v := .tuple #[.slice a (D ++ [t.drop fr]).length c, .bool false]) (by simp [results, Tryd.results27, go_sem]) rfl ?_
          rw [HLO.out]
          exact ⟨hx3, a, c, rfl, ho⟩
        · have ht0 : t = [] := by
            by_cases h0 : t = []
            · exact h0
            · exact absurd ⟨by omega, h0⟩ hw
          have hl0 : t.length = 0 := by rw [ht0]; rfl
          have d1 : decide ((fr : Int) < (t.length : Int)) = false := decide_eq_false (by omega)
          have d1n : decide (fr < t.length) = false := decide_eq_false (by omega)
          have d2 : ((t.length : Int) == 0) = true := beq_iff_eq.2 (by omega)
          have HT0 := Lib.hid hl0
          clear hw ht0 hl0
          go_wp2_with (at_builtin; refine wpList_app1 rfl (.tmp 35) (.tmp 39) 73 rfl w.heap.size 9 _ 16 Tryd.underlying73 Tryd.infoStr rfl _ _ _ (.string ((St t).extract fr t.length)) _ rfl (own_ext HO.out ((Ext.refl _).alloc _)) rfl ?_ rfl ?_ ?_ ?_ ?_; rotate_right; intro v' w3 ho3 hg3 hb3)
          any_goals (first | (rw [World.cell?_alloc_at _ _ _ _ (by simp)]; rfl) | (unfold maxLen; omega) | omega | (have := HX.out.size; simp; omega))
          have hx3 : Ext w w3 := Below.trans (HX.out.alloc _) hb3
          obtain ⟨a, c, rfl, ho⟩ := fin v' w3 ho3 hx3
          refine bodyPost_ret (v := .tuple #[.slice a (D ++ [t.drop fr]).length c, .bool false]) (by simp [results, Tryd.results27, go_sem]) rfl ?_
          rw [HLO.out]
          exact ⟨hx3, a, c, rfl, ho⟩

end Go.Proofs.YtcfbcffmlinlaaaDoor

namespace Go.Proofs.YtcfbcffmlinlaaaDoor
open Go.RowKit

/-- What the reference's Read answers. -/
def RRdPost (x : Int × Int × Pl.St) (w : World) (e : Ending) (w' : World) : Prop :=
  Ext w w' ∧ ((x.1 ≠ 0 ∧ x.2.1 ≠ 0 ∧ e = .returned (.agg #[.int .i64 0, .slice none 0 0, .slice none 0 0, .slice none 0 0, .int .i64 0, .bool false, .int .i64 x.1, .int .i64 x.2.1])) ∨
    (x.1 = 0 ∧ x.2.1 = 0 ∧ ∃ (m : Lies) (p : Int) (f : Bool), e = .returned (.agg #[.int .i64 x.2.2.s.n, .slice m.sa x.2.2.s.specs.length m.sc, .slice m.ca x.2.2.s.calls.length m.cc, .slice m.pa x.2.2.s.picks.length m.pc, .int .i64 p, .bool f, .int .i64 0, .int .i64 0]) ∧ LiesAt x.2.2.s m w'))

theorem BB.cell {B R : Nat} {w w' : World} (h : BB B R w w') {b i : Nat} {v : Value} (hb : b < B) (hne : b ≠ R) (hc : w.cell? ⟨b, i, none⟩ = some v) : w'.cell? ⟨b, i, none⟩ = some v := by
  have e := h.2.2.2.2 b hb hne
  unfold World.cell? at hc ⊢
  simp only [e]
  exact hc
theorem BB.blk {B R k : Nat} {w w' : World} {cs : Array Value} {E : TypeId} (h : BB B R w w') (hb : k < B) (hne : k ≠ R) (hc : Blk w k cs E) : Blk w' k cs E := (h.2.2.2.2 k hb hne).trans hc

theorem strs_flat (L : List (List UInt8)) : strs L = L.flatMap fun l => [.string (St l)] := by
  unfold strs
  rw [List.map_eq_flatMap]
theorem str_at {w : World} {B n : Nat} {v : Value} {L : List (List UInt8)} (h : w.ownsRow B 9 1 v n (strs L)) {i : Nat} (hi : i < L.length) :
    ∃ b off c, v = .slice (some ⟨b, off, none⟩) n c ∧ B ≤ b ∧ w.cell? ⟨b, off + i, none⟩ = some (.string (St (nthD [] L i))) := by
  rw [strs_flat] at h
  obtain ⟨a, c, rfl, -, -, hs, hblk, -⟩ := IsSeq.own (d := ([] : List UInt8)) (f := fun l => [Value.string (St l)]) (fun _ => rfl) (by decide) h
  obtain ⟨b, off, rfl, hc⟩ := hs.at hi
  exact ⟨b, off, c, rfl, hblk _ rfl, by have := hc 0 (by decide); simpa using this⟩

theorem lns_le : ∀ (t : List UInt8), (∀ a ∈ (Pl.lns t).1, a.length ≤ t.length) ∧ (Pl.lns t).2.length ≤ t.length
  | [] => ⟨fun a h => (by cases h), Nat.le_refl _⟩
  | c :: t => by
    obtain ⟨h1, h2⟩ := lns_le t
    unfold Pl.lns
    split
    · refine ⟨fun a h => ?_, by simp; omega⟩
      rcases List.mem_cons.1 h with rfl | h
      · simp
      · have := h1 a h; simp; omega
    · split
      · exact ⟨fun a h => (by cases h), by simp; omega⟩
      · rename_i b x hx
        rw [hx] at h1
        refine ⟨fun a h => ?_, by simp; omega⟩
        rcases List.mem_cons.1 h with rfl | h
        · have := h1 b List.mem_cons_self; simp; omega
        · have := h1 a (List.mem_cons_of_mem _ h); simp; omega
theorem linesOf_le (t : List UInt8) : ∀ a ∈ (Pl.linesOf t).1, a.length ≤ t.length := by
  obtain ⟨h1, h2⟩ := lns_le t
  unfold Pl.linesOf
  split
  · exact h1
  · intro a h
    rcases List.mem_append.1 h with h | h
    · exact h1 a h
    · simp only [List.mem_singleton] at h; rw [h]; exact h2
theorem lns_cnt : ∀ (t : List UInt8), (Pl.lns t).1.length ≤ t.length
  | [] => Nat.le_refl _
  | c :: t => by
    have h := lns_cnt t
    unfold Pl.lns
    split
    · simp; omega
    · split
      · simp
      · rename_i b x hx; rw [hx] at h; simp at h ⊢; omega
theorem linesOf_cnt (t : List UInt8) : (Pl.linesOf t).1.length ≤ t.length + 1 := by
  have := lns_cnt t
  unfold Pl.linesOf
  split
  · simp only; omega
  · simp only [List.length_append, List.length_singleton]; omega
theorem linesOf_pos (t : List UInt8) : 0 < (Pl.linesOf t).1.length := by
  by_cases ht : t = []
  · subst ht; decide
  · exact List.length_pos_iff.2 (Pl.linesOf_ne ht)

theorem stepL_none {r : Pl.St} {a wd : List UInt8} {ws : List (List UInt8)} (hw : Pl.words a = wd :: ws) (hn : Pl.numsP ws = none) : Pl.stepL r a = (5, r) := by unfold Pl.stepL; rw [hw]; simp only [hn]
theorem stepL_some {r : Pl.St} {a wd : List UInt8} {ws : List (List UInt8)} {l : List Int} (hw : Pl.words a = wd :: ws) (hn : Pl.numsP ws = some l) : Pl.stepL r a = Pl.takeL r wd l := by unfold Pl.stepL; rw [hw]; simp only [hn]

theorem IsRPl.start {w : World} {B R : Nat} (h : Blk w R #[.int .i64 0, .slice none 0 0, .slice none 0 0, .slice none 0 0, .int .i64 0, .bool false, .int .i64 0, .int .i64 0] 40) : IsRPl w B R Pl.st0 :=
  ⟨_, _, _, h, World.ownsRow_nil _ _ _ _, World.ownsRow_nil _ _ _ _, World.ownsRow_nil _ _ _ _⟩

end Go.Proofs.YtcfbcffmlinlaaaDoor

namespace Go.Proofs.YtcfbcffmlinlaaaDoor
open Go.RowKit

theorem BB.out {B R : Nat} {w W w' : World} (hx : Ext w W) (h : BB B R W w') (h1 : w.heap.size ≤ R) (h2 : w.heap.size ≤ B) : Ext w w' :=
  Below.trans hx ⟨h.1, h.2.1, h.2.2.1, h.2.2.2.1, fun k hk => h.2.2.2.2 k (by omega) (by omega)⟩

/-- The end by an error. -/
def RErr (k E : Int) (w : World) (e : Ending) (w' : World) : Prop :=
  Ext w w' ∧ e = .returned (.agg #[.int .i64 0, .slice none 0 0, .slice none 0 0, .slice none 0 0, .int .i64 0, .bool false, .int .i64 k, .int .i64 E])
theorem RErr.post {k E : Int} {w w' : World} {e : Ending} {X : Int × Int × Pl.St} {r : Pl.St} (h : RErr k E w e w') (hx : X = (k, E, r)) (hk : k ≠ 0) (hE : E ≠ 0) : RRdPost X w e w' := by
  subst hx
  exact ⟨h.1, .inl ⟨hk, hE, h.2⟩⟩

theorem set8 {w0 w : World} {S : Nat} {E : TypeId} {c0 c1 c2 c3 c4 c5 c6 c7 : Value} (v0 v1 v2 v3 v4 v5 v6 v7 : Value) (h : Blk w S #[c0, c1, c2, c3, c4, c5, c6, c7] E) (hS : w0.heap.size ≤ S) :
    Blk ((((((((w.setCell ⟨S, 0, none⟩ (v0)).setCell ⟨S, 1, none⟩ (v1)).setCell ⟨S, 2, none⟩ (v2)).setCell ⟨S, 3, none⟩ (v3)).setCell ⟨S, 4, none⟩ (v4)).setCell ⟨S, 5, none⟩ (v5)).setCell ⟨S, 6, none⟩ (v6)).setCell ⟨S, 7, none⟩ (v7)) S #[v0, v1, v2, v3, v4, v5, v6, v7] E ∧ Below w0.heap.size w ((((((((w.setCell ⟨S, 0, none⟩ (v0)).setCell ⟨S, 1, none⟩ (v1)).setCell ⟨S, 2, none⟩ (v2)).setCell ⟨S, 3, none⟩ (v3)).setCell ⟨S, 4, none⟩ (v4)).setCell ⟨S, 5, none⟩ (v5)).setCell ⟨S, 6, none⟩ (v6)).setCell ⟨S, 7, none⟩ (v7)) := by
  have h1 : Blk (w.setCell ⟨S, 0, none⟩ (v0)) S #[v0, c1, c2, c3, c4, c5, c6, c7] E := h.set 0 v0
  have b1 : Below w0.heap.size w (w.setCell ⟨S, 0, none⟩ (v0)) := below_set _ _ hS _
  have h2 : Blk ((w.setCell ⟨S, 0, none⟩ (v0)).setCell ⟨S, 1, none⟩ (v1)) S #[v0, v1, c2, c3, c4, c5, c6, c7] E := h1.set 1 v1
  have b2 : Below w0.heap.size (w.setCell ⟨S, 0, none⟩ (v0)) ((w.setCell ⟨S, 0, none⟩ (v0)).setCell ⟨S, 1, none⟩ (v1)) := below_set _ _ hS _
  have h3 : Blk (((w.setCell ⟨S, 0, none⟩ (v0)).setCell ⟨S, 1, none⟩ (v1)).setCell ⟨S, 2, none⟩ (v2)) S #[v0, v1, v2, c3, c4, c5, c6, c7] E := h2.set 2 v2
  have b3 : Below w0.heap.size ((w.setCell ⟨S, 0, none⟩ (v0)).setCell ⟨S, 1, none⟩ (v1)) (((w.setCell ⟨S, 0, none⟩ (v0)).setCell ⟨S, 1, none⟩ (v1)).setCell ⟨S, 2, none⟩ (v2)) := below_set _ _ hS _
  have h4 : Blk ((((w.setCell ⟨S, 0, none⟩ (v0)).setCell ⟨S, 1, none⟩ (v1)).setCell ⟨S, 2, none⟩ (v2)).setCell ⟨S, 3, none⟩ (v3)) S #[v0, v1, v2, v3, c4, c5, c6, c7] E := h3.set 3 v3
  have b4 : Below w0.heap.size (((w.setCell ⟨S, 0, none⟩ (v0)).setCell ⟨S, 1, none⟩ (v1)).setCell ⟨S, 2, none⟩ (v2)) ((((w.setCell ⟨S, 0, none⟩ (v0)).setCell ⟨S, 1, none⟩ (v1)).setCell ⟨S, 2, none⟩ (v2)).setCell ⟨S, 3, none⟩ (v3)) := below_set _ _ hS _
  have h5 : Blk (((((w.setCell ⟨S, 0, none⟩ (v0)).setCell ⟨S, 1, none⟩ (v1)).setCell ⟨S, 2, none⟩ (v2)).setCell ⟨S, 3, none⟩ (v3)).setCell ⟨S, 4, none⟩ (v4)) S #[v0, v1, v2, v3, v4, c5, c6, c7] E := h4.set 4 v4
  have b5 : Below w0.heap.size ((((w.setCell ⟨S, 0, none⟩ (v0)).setCell ⟨S, 1, none⟩ (v1)).setCell ⟨S, 2, none⟩ (v2)).setCell ⟨S, 3, none⟩ (v3)) (((((w.setCell ⟨S, 0, none⟩ (v0)).setCell ⟨S, 1, none⟩ (v1)).setCell ⟨S, 2, none⟩ (v2)).setCell ⟨S, 3, none⟩ (v3)).setCell ⟨S, 4, none⟩ (v4)) := below_set _ _ hS _
  have h6 : Blk ((((((w.setCell ⟨S, 0, none⟩ (v0)).setCell ⟨S, 1, none⟩ (v1)).setCell ⟨S, 2, none⟩ (v2)).setCell ⟨S, 3, none⟩ (v3)).setCell ⟨S, 4, none⟩ (v4)).setCell ⟨S, 5, none⟩ (v5)) S #[v0, v1, v2, v3, v4, v5, c6, c7] E := h5.set 5 v5
  have b6 : Below w0.heap.size (((((w.setCell ⟨S, 0, none⟩ (v0)).setCell ⟨S, 1, none⟩ (v1)).setCell ⟨S, 2, none⟩ (v2)).setCell ⟨S, 3, none⟩ (v3)).setCell ⟨S, 4, none⟩ (v4)) ((((((w.setCell ⟨S, 0, none⟩ (v0)).setCell ⟨S, 1, none⟩ (v1)).setCell ⟨S, 2, none⟩ (v2)).setCell ⟨S, 3, none⟩ (v3)).setCell ⟨S, 4, none⟩ (v4)).setCell ⟨S, 5, none⟩ (v5)) := below_set _ _ hS _
  have h7 : Blk (((((((w.setCell ⟨S, 0, none⟩ (v0)).setCell ⟨S, 1, none⟩ (v1)).setCell ⟨S, 2, none⟩ (v2)).setCell ⟨S, 3, none⟩ (v3)).setCell ⟨S, 4, none⟩ (v4)).setCell ⟨S, 5, none⟩ (v5)).setCell ⟨S, 6, none⟩ (v6)) S #[v0, v1, v2, v3, v4, v5, v6, c7] E := h6.set 6 v6
  have b7 : Below w0.heap.size ((((((w.setCell ⟨S, 0, none⟩ (v0)).setCell ⟨S, 1, none⟩ (v1)).setCell ⟨S, 2, none⟩ (v2)).setCell ⟨S, 3, none⟩ (v3)).setCell ⟨S, 4, none⟩ (v4)).setCell ⟨S, 5, none⟩ (v5)) (((((((w.setCell ⟨S, 0, none⟩ (v0)).setCell ⟨S, 1, none⟩ (v1)).setCell ⟨S, 2, none⟩ (v2)).setCell ⟨S, 3, none⟩ (v3)).setCell ⟨S, 4, none⟩ (v4)).setCell ⟨S, 5, none⟩ (v5)).setCell ⟨S, 6, none⟩ (v6)) := below_set _ _ hS _
  have h8 : Blk ((((((((w.setCell ⟨S, 0, none⟩ (v0)).setCell ⟨S, 1, none⟩ (v1)).setCell ⟨S, 2, none⟩ (v2)).setCell ⟨S, 3, none⟩ (v3)).setCell ⟨S, 4, none⟩ (v4)).setCell ⟨S, 5, none⟩ (v5)).setCell ⟨S, 6, none⟩ (v6)).setCell ⟨S, 7, none⟩ (v7)) S #[v0, v1, v2, v3, v4, v5, v6, v7] E := h7.set 7 v7
  have b8 : Below w0.heap.size (((((((w.setCell ⟨S, 0, none⟩ (v0)).setCell ⟨S, 1, none⟩ (v1)).setCell ⟨S, 2, none⟩ (v2)).setCell ⟨S, 3, none⟩ (v3)).setCell ⟨S, 4, none⟩ (v4)).setCell ⟨S, 5, none⟩ (v5)).setCell ⟨S, 6, none⟩ (v6)) ((((((((w.setCell ⟨S, 0, none⟩ (v0)).setCell ⟨S, 1, none⟩ (v1)).setCell ⟨S, 2, none⟩ (v2)).setCell ⟨S, 3, none⟩ (v3)).setCell ⟨S, 4, none⟩ (v4)).setCell ⟨S, 5, none⟩ (v5)).setCell ⟨S, 6, none⟩ (v6)).setCell ⟨S, 7, none⟩ (v7)) := below_set _ _ hS _
  exact ⟨h8, Below.trans b1 (Below.trans b2 (Below.trans b3 (Below.trans b4 (Below.trans b5 (Below.trans b6 (Below.trans b7 b8))))))⟩
theorem set8_own {w : World} {B S : Nat} {E : TypeId} {size n : Nat} {v : Value} {xs : List Value} (v0 v1 v2 v3 v4 v5 v6 v7 : Value) (h : w.ownsRow B E size v n xs) (hS : S < B) : ((((((((w.setCell ⟨S, 0, none⟩ (v0)).setCell ⟨S, 1, none⟩ (v1)).setCell ⟨S, 2, none⟩ (v2)).setCell ⟨S, 3, none⟩ (v3)).setCell ⟨S, 4, none⟩ (v4)).setCell ⟨S, 5, none⟩ (v5)).setCell ⟨S, 6, none⟩ (v6)).setCell ⟨S, 7, none⟩ (v7)).ownsRow B E size v n xs := by
  have h1 : (w.setCell ⟨S, 0, none⟩ (v0)).ownsRow B E size v n xs := own_set h hS _
  have h2 : ((w.setCell ⟨S, 0, none⟩ (v0)).setCell ⟨S, 1, none⟩ (v1)).ownsRow B E size v n xs := own_set h1 hS _
  have h3 : (((w.setCell ⟨S, 0, none⟩ (v0)).setCell ⟨S, 1, none⟩ (v1)).setCell ⟨S, 2, none⟩ (v2)).ownsRow B E size v n xs := own_set h2 hS _
  have h4 : ((((w.setCell ⟨S, 0, none⟩ (v0)).setCell ⟨S, 1, none⟩ (v1)).setCell ⟨S, 2, none⟩ (v2)).setCell ⟨S, 3, none⟩ (v3)).ownsRow B E size v n xs := own_set h3 hS _
  have h5 : (((((w.setCell ⟨S, 0, none⟩ (v0)).setCell ⟨S, 1, none⟩ (v1)).setCell ⟨S, 2, none⟩ (v2)).setCell ⟨S, 3, none⟩ (v3)).setCell ⟨S, 4, none⟩ (v4)).ownsRow B E size v n xs := own_set h4 hS _
  have h6 : ((((((w.setCell ⟨S, 0, none⟩ (v0)).setCell ⟨S, 1, none⟩ (v1)).setCell ⟨S, 2, none⟩ (v2)).setCell ⟨S, 3, none⟩ (v3)).setCell ⟨S, 4, none⟩ (v4)).setCell ⟨S, 5, none⟩ (v5)).ownsRow B E size v n xs := own_set h5 hS _
  have h7 : (((((((w.setCell ⟨S, 0, none⟩ (v0)).setCell ⟨S, 1, none⟩ (v1)).setCell ⟨S, 2, none⟩ (v2)).setCell ⟨S, 3, none⟩ (v3)).setCell ⟨S, 4, none⟩ (v4)).setCell ⟨S, 5, none⟩ (v5)).setCell ⟨S, 6, none⟩ (v6)).ownsRow B E size v n xs := own_set h6 hS _
  have h8 : ((((((((w.setCell ⟨S, 0, none⟩ (v0)).setCell ⟨S, 1, none⟩ (v1)).setCell ⟨S, 2, none⟩ (v2)).setCell ⟨S, 3, none⟩ (v3)).setCell ⟨S, 4, none⟩ (v4)).setCell ⟨S, 5, none⟩ (v5)).setCell ⟨S, 6, none⟩ (v6)).setCell ⟨S, 7, none⟩ (v7)).ownsRow B E size v n xs := own_set h7 hS _
  exact h8
theorem ints_own {k : IntKind} {w : World} {B : Nat} {E : TypeId} {a : Option Addr} {c n : Nat} {l : List Int} (ho : w.ownsRow B E 1 (.slice a n c) n (l.map (Value.int k))) : IsInts k w a l := by
  obtain ⟨a', c', e1, -, -, hin, -⟩ := IsInts.ownK ho
  simp only [Value.slice.injEq] at e1
  obtain ⟨rfl, -, rfl⟩ := e1
  exact hin

set_option maxRecDepth 100000 in
set_option maxHeartbeats 8000000 in
theorem rread_any (t : List UInt8) (w : World) (ht : t.length ≤ 100000) : Calls Tryd.prog 14 #[.string (St t)] w (RRdPost (Pl.readP t) w) := by
  have HLE := Lib.hid (linesOf_le t)
  have HCN := Lib.hid (linesOf_cnt t)
  have HPO := Lib.hid (linesOf_pos t)
  have HXX := Lib.hid (Pl.readP_runA t)
  have HLI := Lib.hid (lines_any t (w.alloc (.cells #[.int .i64 0, .slice none 0 0, .slice none 0 0, .slice none 0 0, .int .i64 0, .bool false, .int .i64 0, .int .i64 0] 40)) (by omega))
  have hx0 := (Ext.refl w).alloc (.cells #[.int .i64 0, .slice none 0 0, .slice none 0 0, .slice none 0 0, .int .i64 0, .bool false, .int .i64 0, .int .i64 0] 40)
  have hs := Blk.new w #[.int .i64 0, .slice none 0 0, .slice none 0 0, .slice none 0 0, .int .i64 0, .bool false, .int .i64 0, .int .i64 0] 40
  generalize Pl.readP t = X at *
  generalize Pl.linesOf t = LL at *
  obtain ⟨L, wh⟩ := LL
  simp only at HLE HCN HPO HXX HLI
  go_enter Tryd.func14, Tryd.ntmps14
  go_wp2_with fail
  refine HLI.out.mono ?_
  rintro e w1 ⟨hx1, a, c, rfl, ho⟩
  obtain ⟨b, off, c', e1, hbB, -⟩ := str_at ho HPO.out
  simp only [Value.slice.injEq] at e1
  obtain ⟨rfl, -, -⟩ := e1
  have hcell : ∀ i, i < L.length → w1.cell? ⟨b, off + i, none⟩ = some (.string (St (nthD [] L i))) := fun i hi => by
    obtain ⟨b', off', c'', e1, -, h⟩ := str_at ho hi
    simp only [Value.slice.injEq, Option.some.injEq, Addr.mk.injEq, and_true] at e1
    obtain ⟨⟨rfl, rfl⟩, -⟩ := e1
    exact h
  have hbl : b < w1.heap.size := World.block_lt_of_cell? _ _ (hcell 0 HPO.out)
  have hSl : w.heap.size < w1.heap.size := Nat.lt_of_lt_of_le hs.lt hx1.size
  have hp := Blk.new w1 #[.int .i64 0, .slice none 0 0, .slice none 0 0, .slice none 0 0, .int .i64 0, .bool false, .int .i64 0, .int .i64 0] 40
  have hx2 := (Ext.refl w1).alloc (.cells #[.int .i64 0, .slice none 0 0, .slice none 0 0, .slice none 0 0, .int .i64 0, .bool false, .int .i64 0, .int .i64 0] 40)
  have HW2 := Lib.hid (hx0.trans (hx1.trans hx2))
  have HS2 := Lib.hid ((hs.ext hx1).ext hx2)
  have HC2 := Lib.hid (fun i (hi : i < L.length) => hx2.cell (hcell i hi))
  have HR2 := Lib.hid (IsRPl.start (B := w1.heap.size + 1) hp)
  have hsz : w1.heap.size + 1 ≤ (w1.alloc (.cells #[.int .i64 0, .slice none 0 0, .slice none 0 0, .slice none 0 0, .int .i64 0, .bool false, .int .i64 0, .int .i64 0] 40)).heap.size := hp.lt
  clear hx0 hx1 hs ho hcell hp hx2 HLI
  go_wp2_with fail
  generalize w1.alloc (.cells #[.int .i64 0, .slice none 0 0, .slice none 0 0, .slice none 0 0, .int .i64 0, .bool false, .int .i64 0, .int .i64 0] 40) = W2 at *
  generalize w1.heap.size = R at *
  go_loopw [18] (fun u wr => ∃ (i : Nat) (r : Pl.St), i ≤ L.length ∧ u = .int .i64 (i : Int) ∧ Hid (BB (R + 1) R W2 wr) ∧ Hid (IsRPl wr (R + 1) R r) ∧ Hid (Rok r) ∧ Hid (Rlast r) ∧ Hid (X = Pl.runA r (i + 1) (L.drop i) wh)) (fun u _ => L.length - (intOf u).toNat)
  case atStart => exact ⟨0, Pl.st0, Nat.zero_le _, rfl, Lib.hid (BB.ext (Ext.refl _) hsz), HR2, Lib.hid Rok.start, Lib.hid Rlast.start, HXX⟩
  case round =>
    obtain ⟨i, r, hil, rfl, HB1, HR1, HK, HLA, HX1⟩ := hrel
    clear HXX HR2
    have hszr : R + 1 ≤ wr.heap.size := Nat.le_trans hsz HB1.out.2.2.2.1
    have hcl := HCN.out
    by_cases hlt : i < L.length
    · have k1 := HB1.out.cell (by omega) (by omega) (HC2.out i hlt)
      have HAL := Lib.hid (HLE.out _ (nthD_mem [] L i hlt))
      have hX1 := HX1.out
      rw [dropD_cons [] L i hlt, Pl.runA_cons] at hX1
      have HXR := Lib.hid hX1
      clear hX1 HX1
      generalize nthD [] L i = ln at *
      cases hw : Pl.words ln with
      | nil => exact absurd hw (plwords_ne ln)
      | cons wd ws =>
        have HPAR := Lib.hid (parse_any ln wr (by have := HAL.out; omega) wd ws hw)
        have hszL : w.heap.size < R := hSl
        have hk0 : ((i : Int) + 1) ≠ 0 := by omega
        go_wp2_with fail
        refine HPAR.out.mono ?_
        rintro e w2 ⟨hx2, a2, n2, c2, hcase⟩
        clear HPAR k1
        cases hn : Pl.numsP ws with
        | none =>
          rw [hn] at hcase
          obtain ⟨-, rfl⟩ := hcase
          have HST := Lib.hid (stepL_none (r := r) hw hn)
          have HL3 := Lib.hid (Blk.new w2 #[.string (St wd), .slice a2 n2 c2, .bool false] 78)
          have hx3 := hx2.alloc (.cells #[.string (St wd), .slice a2 n2 c2, .bool false] 78)
          have HWR := Lib.hid (rwrong_no _ (R + 1) R r wd a2 n2 c2 (HR1.out.ext hx3))
          have HX3 := Lib.hid hx3
          clear hx2 hx3
          go_upto_region 7 with (fail)
          generalize w2.alloc (.cells #[.string (St wd), .slice a2 n2 c2, .bool false] 78) = W3 at *
          generalize w2.heap.size = T at *
          have q0 := HL3.out.cell 0 (v := .string (St wd)) rfl
          have q1 := HL3.out.cell 1 (v := .slice a2 n2 c2) rfl
          have q2 := HL3.out.cell 2 (v := .bool false) rfl
          go_wp2_with fail
          refine HWR.out.mono ?_
          rintro e w4 ⟨rfl, hx4⟩
          have HB4 := Lib.hid (HB1.out.trans (BB.ext (HX3.out.trans hx4) hszr))
          have HX4 := Lib.hid (HX3.out.trans hx4)
          have HL4 := Lib.hid (HL3.out.ext hx4)
          clear hx4 HWR q0 q1 q2 HL3 HX3
          have hu := HB4.out.blk (by omega) (by omega) HS2.out
          cases wh with
          | true =>
            have hX : X = ((i : Int) + 1, 5, r) := by rw [HXR.out, if_neg (fun g => by have hl := congrArg List.length g.1; rw [List.length_drop, List.length_nil] at hl; first | (cases g.2; done) | omega), HST.out, if_neg (by show ¬ (5 : Int) = 0; decide)]
            have u0 := hu.cell 0 (v := .int .i64 0) rfl
            have f0 := hu.fz 0
            have u1 := hu.cell 1 (v := .slice none 0 0) rfl
            have f1 := hu.fz 1
            have u2 := hu.cell 2 (v := .slice none 0 0) rfl
            have f2 := hu.fz 2
            have u3 := hu.cell 3 (v := .slice none 0 0) rfl
            have f3 := hu.fz 3
            have u4 := hu.cell 4 (v := .int .i64 0) rfl
            have f4 := hu.fz 4
            have u5 := hu.cell 5 (v := .bool false) rfl
            have f5 := hu.fz 5
            have u6 := hu.cell 6 (v := .int .i64 0) rfl
            have f6 := hu.fz 6
            have u7 := hu.cell 7 (v := .int .i64 0) rfl
            have f7 := hu.fz 7
            have ul := hu.lt
            go_wp2_with fail
            obtain ⟨hF, hBl⟩ := set8 (w0 := w) (.int .i64 0) (.slice none 0 0) (.slice none 0 0) (.slice none 0 0) (.int .i64 0) (.bool false) (.int .i64 ((i : Int) + 1)) (.int .i64 5) hu (Nat.le_refl _)
            clear u0 f0 u1 f1 u2 f2 u3 f3 u4 f4 u5 f5 u6 f6 u7 f7 ul
            generalize ((((((((w4.setCell ⟨w.heap.size, 0, none⟩ (.int .i64 0)).setCell ⟨w.heap.size, 1, none⟩ (.slice none 0 0)).setCell ⟨w.heap.size, 2, none⟩ (.slice none 0 0)).setCell ⟨w.heap.size, 3, none⟩ (.slice none 0 0)).setCell ⟨w.heap.size, 4, none⟩ (.int .i64 0)).setCell ⟨w.heap.size, 5, none⟩ (.bool false)).setCell ⟨w.heap.size, 6, none⟩ (.int .i64 ((i : Int) + 1))).setCell ⟨w.heap.size, 7, none⟩ (.int .i64 5)) = WF at *
            have u0 := hF.cell 0 (v := .int .i64 0) rfl
            have u1 := hF.cell 1 (v := .slice none 0 0) rfl
            have u2 := hF.cell 2 (v := .slice none 0 0) rfl
            have u3 := hF.cell 3 (v := .slice none 0 0) rfl
            have u4 := hF.cell 4 (v := .int .i64 0) rfl
            have u5 := hF.cell 5 (v := .bool false) rfl
            have u6 := hF.cell 6 (v := .int .i64 ((i : Int) + 1)) rfl
            have u7 := hF.cell 7 (v := .int .i64 5) rfl
            refine bodyPost_ret (v := .agg #[.int .i64 0, .slice none 0 0, .slice none 0 0, .slice none 0 0, .int .i64 0, .bool false, .int .i64 ((i : Int) + 1), .int .i64 5]) (by simp [results, Tryd.results14, go_sem, u0, u1, u2, u3, u4, u5, u6, u7]) rfl ?_
            exact RErr.post ⟨Below.trans (HB4.out.out HW2.out (by omega) (by omega)) hBl, rfl⟩ hX hk0 (by decide)
          | false =>
            by_cases hla : i + 1 = L.length
            · have hll : ((i : Int) + 1 == (L.length : Int)) = true := beq_iff_eq.2 (by omega)
              have hX : X = ((i : Int) + 1, 4, r) := by rw [HXR.out, if_pos ⟨List.drop_of_length_le (by omega), rfl⟩]
              have u0 := hu.cell 0 (v := .int .i64 0) rfl
              have f0 := hu.fz 0
              have u1 := hu.cell 1 (v := .slice none 0 0) rfl
              have f1 := hu.fz 1
              have u2 := hu.cell 2 (v := .slice none 0 0) rfl
              have f2 := hu.fz 2
              have u3 := hu.cell 3 (v := .slice none 0 0) rfl
              have f3 := hu.fz 3
              have u4 := hu.cell 4 (v := .int .i64 0) rfl
              have f4 := hu.fz 4
              have u5 := hu.cell 5 (v := .bool false) rfl
              have f5 := hu.fz 5
              have u6 := hu.cell 6 (v := .int .i64 0) rfl
              have f6 := hu.fz 6
              have u7 := hu.cell 7 (v := .int .i64 0) rfl
              have f7 := hu.fz 7
              have ul := hu.lt
              go_wp2_with fail
              obtain ⟨hF, hBl⟩ := set8 (w0 := w) (.int .i64 0) (.slice none 0 0) (.slice none 0 0) (.slice none 0 0) (.int .i64 0) (.bool false) (.int .i64 ((i : Int) + 1)) (.int .i64 4) hu (Nat.le_refl _)
              clear u0 f0 u1 f1 u2 f2 u3 f3 u4 f4 u5 f5 u6 f6 u7 f7 ul
              generalize ((((((((w4.setCell ⟨w.heap.size, 0, none⟩ (.int .i64 0)).setCell ⟨w.heap.size, 1, none⟩ (.slice none 0 0)).setCell ⟨w.heap.size, 2, none⟩ (.slice none 0 0)).setCell ⟨w.heap.size, 3, none⟩ (.slice none 0 0)).setCell ⟨w.heap.size, 4, none⟩ (.int .i64 0)).setCell ⟨w.heap.size, 5, none⟩ (.bool false)).setCell ⟨w.heap.size, 6, none⟩ (.int .i64 ((i : Int) + 1))).setCell ⟨w.heap.size, 7, none⟩ (.int .i64 4)) = WF at *
              have u0 := hF.cell 0 (v := .int .i64 0) rfl
              have u1 := hF.cell 1 (v := .slice none 0 0) rfl
              have u2 := hF.cell 2 (v := .slice none 0 0) rfl
              have u3 := hF.cell 3 (v := .slice none 0 0) rfl
              have u4 := hF.cell 4 (v := .int .i64 0) rfl
              have u5 := hF.cell 5 (v := .bool false) rfl
              have u6 := hF.cell 6 (v := .int .i64 ((i : Int) + 1)) rfl
              have u7 := hF.cell 7 (v := .int .i64 4) rfl
              refine bodyPost_ret (v := .agg #[.int .i64 0, .slice none 0 0, .slice none 0 0, .slice none 0 0, .int .i64 0, .bool false, .int .i64 ((i : Int) + 1), .int .i64 4]) (by simp [results, Tryd.results14, go_sem, u0, u1, u2, u3, u4, u5, u6, u7]) rfl ?_
              exact RErr.post ⟨Below.trans (HB4.out.out HW2.out (by omega) (by omega)) hBl, rfl⟩ hX hk0 (by decide)
            · have hll : ((i : Int) + 1 == (L.length : Int)) = false := beq_eq_false_iff_ne.2 (by omega)
              have hX : X = ((i : Int) + 1, 5, r) := by rw [HXR.out, if_neg (fun g => by have hl := congrArg List.length g.1; rw [List.length_drop, List.length_nil] at hl; first | (cases g.2; done) | omega), HST.out, if_neg (by show ¬ (5 : Int) = 0; decide)]
              have u0 := hu.cell 0 (v := .int .i64 0) rfl
              have f0 := hu.fz 0
              have u1 := hu.cell 1 (v := .slice none 0 0) rfl
              have f1 := hu.fz 1
              have u2 := hu.cell 2 (v := .slice none 0 0) rfl
              have f2 := hu.fz 2
              have u3 := hu.cell 3 (v := .slice none 0 0) rfl
              have f3 := hu.fz 3
              have u4 := hu.cell 4 (v := .int .i64 0) rfl
              have f4 := hu.fz 4
              have u5 := hu.cell 5 (v := .bool false) rfl
              have f5 := hu.fz 5
              have u6 := hu.cell 6 (v := .int .i64 0) rfl
              have f6 := hu.fz 6
              have u7 := hu.cell 7 (v := .int .i64 0) rfl
              have f7 := hu.fz 7
              have ul := hu.lt
              go_wp2_with fail
              obtain ⟨hF, hBl⟩ := set8 (w0 := w) (.int .i64 0) (.slice none 0 0) (.slice none 0 0) (.slice none 0 0) (.int .i64 0) (.bool false) (.int .i64 ((i : Int) + 1)) (.int .i64 5) hu (Nat.le_refl _)
              clear u0 f0 u1 f1 u2 f2 u3 f3 u4 f4 u5 f5 u6 f6 u7 f7 ul
              generalize ((((((((w4.setCell ⟨w.heap.size, 0, none⟩ (.int .i64 0)).setCell ⟨w.heap.size, 1, none⟩ (.slice none 0 0)).setCell ⟨w.heap.size, 2, none⟩ (.slice none 0 0)).setCell ⟨w.heap.size, 3, none⟩ (.slice none 0 0)).setCell ⟨w.heap.size, 4, none⟩ (.int .i64 0)).setCell ⟨w.heap.size, 5, none⟩ (.bool false)).setCell ⟨w.heap.size, 6, none⟩ (.int .i64 ((i : Int) + 1))).setCell ⟨w.heap.size, 7, none⟩ (.int .i64 5)) = WF at *
              have u0 := hF.cell 0 (v := .int .i64 0) rfl
              have u1 := hF.cell 1 (v := .slice none 0 0) rfl
              have u2 := hF.cell 2 (v := .slice none 0 0) rfl
              have u3 := hF.cell 3 (v := .slice none 0 0) rfl
              have u4 := hF.cell 4 (v := .int .i64 0) rfl
              have u5 := hF.cell 5 (v := .bool false) rfl
              have u6 := hF.cell 6 (v := .int .i64 ((i : Int) + 1)) rfl
              have u7 := hF.cell 7 (v := .int .i64 5) rfl
              refine bodyPost_ret (v := .agg #[.int .i64 0, .slice none 0 0, .slice none 0 0, .slice none 0 0, .int .i64 0, .bool false, .int .i64 ((i : Int) + 1), .int .i64 5]) (by simp [results, Tryd.results14, go_sem, u0, u1, u2, u3, u4, u5, u6, u7]) rfl ?_
              exact RErr.post ⟨Below.trans (HB4.out.out HW2.out (by omega) (by omega)) hBl, rfl⟩ hX hk0 (by decide)
        | some l =>
          rw [hn] at hcase
          obtain ⟨rfl, rfl, ⟨B', ho⟩, hg⟩ := hcase
          have HST := Lib.hid (stepL_some (r := r) hw hn)
          have HG := Lib.hid hg
          have HO := Lib.hid (own_ext ho (Ext.refl _))
          have HL3 := Lib.hid (Blk.new w2 #[.string (St wd), .slice a2 l.length c2, .bool true] 78)
          have hx3 := hx2.alloc (.cells #[.string (St wd), .slice a2 l.length c2, .bool true] 78)
          have HWR := Lib.hid (rwrong_any _ (R + 1) R r wd a2 c2 l (HR1.out.ext hx3) HK.out HLA.out ((ints_own ho).ext (((Ext.refl w2).alloc _))) HG.out)
          have HX3 := Lib.hid hx3
          have HX23 := Lib.hid ((Ext.refl w2).alloc (.cells #[.string (St wd), .slice a2 l.length c2, .bool true] 78))
          clear hx2 hx3
          go_upto_region 7 with (fail)
          generalize w2.alloc (.cells #[.string (St wd), .slice a2 l.length c2, .bool true] 78) = W3 at *
          generalize w2.heap.size = T at *
          have q0 := HL3.out.cell 0 (v := .string (St wd)) rfl
          have q1 := HL3.out.cell 1 (v := .slice a2 l.length c2) rfl
          have q2 := HL3.out.cell 2 (v := .bool true) rfl
          go_wp2_with fail
          refine HWR.out.mono ?_
          rintro e w4 ⟨rfl, hx4⟩
          have HB4 := Lib.hid (HB1.out.trans (BB.ext (HX3.out.trans hx4) hszr))
          have HX4 := Lib.hid (HX3.out.trans hx4)
          have HX24 := Lib.hid (HX23.out.trans hx4)
          have HL4 := Lib.hid (HL3.out.ext hx4)
          clear hx4 HWR q0 q1 q2 HL3 HX3
          have hu := HB4.out.blk (by omega) (by omega) HS2.out
          clear ho
          generalize hEE : (Pl.takeL r wd l).1 = E at *
          cases wh with
          | true =>
            by_cases hE0 : E = 0
            · subst hE0
              have HX2 : Hid (X = Pl.runA (Pl.takeL r wd l).2 ((i : Int) + 1 + 1) (L.drop (i + 1)) true) := Lib.hid (by rw [HXR.out, if_neg (fun g => by have hl := congrArg List.length g.1; rw [List.length_drop, List.length_nil] at hl; first | (cases g.2; done) | omega), HST.out, if_pos hEE])
              have HTK := Lib.hid (rtake_any w4 (R + 1) R r wd a2 c2 l B' (HR1.out.ext HX4.out) HK.out HLA.out (by have := HX4.out.size; omega) (own_ext HO.out HX24.out) HG.out hEE)
              have q0 := HL4.out.cell 0 (v := .string (St wd)) rfl
              have q1 := HL4.out.cell 1 (v := .slice a2 l.length c2) rfl
              have q2 := HL4.out.cell 2 (v := .bool true) rfl
              go_wp2_with fail
              refine HTK.out.mono ?_
              rintro e w5 ⟨rfl, hb5, hr5⟩
              have HB5 := Lib.hid (HB4.out.trans hb5)
              have HR5 := Lib.hid hr5
              clear hb5 hr5 q0 q1 q2 HTK
              go_wp2_with fail
              go_roundw
              case rel => exact ⟨i + 1, (Pl.takeL r wd l).2, by omega, by go_num, HB5, HR5, Lib.hid (HK.out.take wd l), Lib.hid (HLA.out.take wd l), Lib.hid (by rw [HX2.out]; rw [show ((i + 1 : Nat) : Int) + 1 = (i : Int) + 1 + 1 by omega])⟩
              case measure => simp [intOf]; omega
            · have hX : X = ((i : Int) + 1, E, r) := by rw [HXR.out, if_neg (fun g => by have hl := congrArg List.length g.1; rw [List.length_drop, List.length_nil] at hl; first | (cases g.2; done) | omega), HST.out, if_neg (by rw [hEE]; exact hE0), hEE]
              have hEn : (E != 0) = true := by simpa using hE0
              have u0 := hu.cell 0 (v := .int .i64 0) rfl
              have f0 := hu.fz 0
              have u1 := hu.cell 1 (v := .slice none 0 0) rfl
              have f1 := hu.fz 1
              have u2 := hu.cell 2 (v := .slice none 0 0) rfl
              have f2 := hu.fz 2
              have u3 := hu.cell 3 (v := .slice none 0 0) rfl
              have f3 := hu.fz 3
              have u4 := hu.cell 4 (v := .int .i64 0) rfl
              have f4 := hu.fz 4
              have u5 := hu.cell 5 (v := .bool false) rfl
              have f5 := hu.fz 5
              have u6 := hu.cell 6 (v := .int .i64 0) rfl
              have f6 := hu.fz 6
              have u7 := hu.cell 7 (v := .int .i64 0) rfl
              have f7 := hu.fz 7
              have ul := hu.lt
              go_wp2_with fail
              obtain ⟨hF, hBl⟩ := set8 (w0 := w) (.int .i64 0) (.slice none 0 0) (.slice none 0 0) (.slice none 0 0) (.int .i64 0) (.bool false) (.int .i64 ((i : Int) + 1)) (.int .i64 E) hu (Nat.le_refl _)
              clear u0 f0 u1 f1 u2 f2 u3 f3 u4 f4 u5 f5 u6 f6 u7 f7 ul
              generalize ((((((((w4.setCell ⟨w.heap.size, 0, none⟩ (.int .i64 0)).setCell ⟨w.heap.size, 1, none⟩ (.slice none 0 0)).setCell ⟨w.heap.size, 2, none⟩ (.slice none 0 0)).setCell ⟨w.heap.size, 3, none⟩ (.slice none 0 0)).setCell ⟨w.heap.size, 4, none⟩ (.int .i64 0)).setCell ⟨w.heap.size, 5, none⟩ (.bool false)).setCell ⟨w.heap.size, 6, none⟩ (.int .i64 ((i : Int) + 1))).setCell ⟨w.heap.size, 7, none⟩ (.int .i64 E)) = WF at *
              have u0 := hF.cell 0 (v := .int .i64 0) rfl
              have u1 := hF.cell 1 (v := .slice none 0 0) rfl
              have u2 := hF.cell 2 (v := .slice none 0 0) rfl
              have u3 := hF.cell 3 (v := .slice none 0 0) rfl
              have u4 := hF.cell 4 (v := .int .i64 0) rfl
              have u5 := hF.cell 5 (v := .bool false) rfl
              have u6 := hF.cell 6 (v := .int .i64 ((i : Int) + 1)) rfl
              have u7 := hF.cell 7 (v := .int .i64 E) rfl
              refine bodyPost_ret (v := .agg #[.int .i64 0, .slice none 0 0, .slice none 0 0, .slice none 0 0, .int .i64 0, .bool false, .int .i64 ((i : Int) + 1), .int .i64 E]) (by simp [results, Tryd.results14, go_sem, u0, u1, u2, u3, u4, u5, u6, u7]) rfl ?_
              exact RErr.post ⟨Below.trans (HB4.out.out HW2.out (by omega) (by omega)) hBl, rfl⟩ hX hk0 hE0
          | false =>
            by_cases hla : i + 1 = L.length
            · have hll : ((i : Int) + 1 == (L.length : Int)) = true := beq_iff_eq.2 (by omega)
              have hX : X = ((i : Int) + 1, 4, r) := by rw [HXR.out, if_pos ⟨List.drop_of_length_le (by omega), rfl⟩]
              have u0 := hu.cell 0 (v := .int .i64 0) rfl
              have f0 := hu.fz 0
              have u1 := hu.cell 1 (v := .slice none 0 0) rfl
              have f1 := hu.fz 1
              have u2 := hu.cell 2 (v := .slice none 0 0) rfl
              have f2 := hu.fz 2
              have u3 := hu.cell 3 (v := .slice none 0 0) rfl
              have f3 := hu.fz 3
              have u4 := hu.cell 4 (v := .int .i64 0) rfl
              have f4 := hu.fz 4
              have u5 := hu.cell 5 (v := .bool false) rfl
              have f5 := hu.fz 5
              have u6 := hu.cell 6 (v := .int .i64 0) rfl
              have f6 := hu.fz 6
              have u7 := hu.cell 7 (v := .int .i64 0) rfl
              have f7 := hu.fz 7
              have ul := hu.lt
              go_wp2_with fail
              obtain ⟨hF, hBl⟩ := set8 (w0 := w) (.int .i64 0) (.slice none 0 0) (.slice none 0 0) (.slice none 0 0) (.int .i64 0) (.bool false) (.int .i64 ((i : Int) + 1)) (.int .i64 4) hu (Nat.le_refl _)
              clear u0 f0 u1 f1 u2 f2 u3 f3 u4 f4 u5 f5 u6 f6 u7 f7 ul
              generalize ((((((((w4.setCell ⟨w.heap.size, 0, none⟩ (.int .i64 0)).setCell ⟨w.heap.size, 1, none⟩ (.slice none 0 0)).setCell ⟨w.heap.size, 2, none⟩ (.slice none 0 0)).setCell ⟨w.heap.size, 3, none⟩ (.slice none 0 0)).setCell ⟨w.heap.size, 4, none⟩ (.int .i64 0)).setCell ⟨w.heap.size, 5, none⟩ (.bool false)).setCell ⟨w.heap.size, 6, none⟩ (.int .i64 ((i : Int) + 1))).setCell ⟨w.heap.size, 7, none⟩ (.int .i64 4)) = WF at *
              have u0 := hF.cell 0 (v := .int .i64 0) rfl
              have u1 := hF.cell 1 (v := .slice none 0 0) rfl
              have u2 := hF.cell 2 (v := .slice none 0 0) rfl
              have u3 := hF.cell 3 (v := .slice none 0 0) rfl
              have u4 := hF.cell 4 (v := .int .i64 0) rfl
              have u5 := hF.cell 5 (v := .bool false) rfl
              have u6 := hF.cell 6 (v := .int .i64 ((i : Int) + 1)) rfl
              have u7 := hF.cell 7 (v := .int .i64 4) rfl
              refine bodyPost_ret (v := .agg #[.int .i64 0, .slice none 0 0, .slice none 0 0, .slice none 0 0, .int .i64 0, .bool false, .int .i64 ((i : Int) + 1), .int .i64 4]) (by simp [results, Tryd.results14, go_sem, u0, u1, u2, u3, u4, u5, u6, u7]) rfl ?_
              exact RErr.post ⟨Below.trans (HB4.out.out HW2.out (by omega) (by omega)) hBl, rfl⟩ hX hk0 (by decide)
            · have hll : ((i : Int) + 1 == (L.length : Int)) = false := beq_eq_false_iff_ne.2 (by omega)
              by_cases hE0 : E = 0
              · subst hE0
                have HX2 : Hid (X = Pl.runA (Pl.takeL r wd l).2 ((i : Int) + 1 + 1) (L.drop (i + 1)) false) := Lib.hid (by rw [HXR.out, if_neg (fun g => by have hl := congrArg List.length g.1; rw [List.length_drop, List.length_nil] at hl; first | (cases g.2; done) | omega), HST.out, if_pos hEE])
                have HTK := Lib.hid (rtake_any w4 (R + 1) R r wd a2 c2 l B' (HR1.out.ext HX4.out) HK.out HLA.out (by have := HX4.out.size; omega) (own_ext HO.out HX24.out) HG.out hEE)
                have q0 := HL4.out.cell 0 (v := .string (St wd)) rfl
                have q1 := HL4.out.cell 1 (v := .slice a2 l.length c2) rfl
                have q2 := HL4.out.cell 2 (v := .bool true) rfl
                go_wp2_with fail
                refine HTK.out.mono ?_
                rintro e w5 ⟨rfl, hb5, hr5⟩
                have HB5 := Lib.hid (HB4.out.trans hb5)
                have HR5 := Lib.hid hr5
                clear hb5 hr5 q0 q1 q2 HTK
                go_wp2_with fail
                go_roundw
                case rel => exact ⟨i + 1, (Pl.takeL r wd l).2, by omega, by go_num, HB5, HR5, Lib.hid (HK.out.take wd l), Lib.hid (HLA.out.take wd l), Lib.hid (by rw [HX2.out]; rw [show ((i + 1 : Nat) : Int) + 1 = (i : Int) + 1 + 1 by omega])⟩
                case measure => simp [intOf]; omega
              · have hX : X = ((i : Int) + 1, E, r) := by rw [HXR.out, if_neg (fun g => by have hl := congrArg List.length g.1; rw [List.length_drop, List.length_nil] at hl; first | (cases g.2; done) | omega), HST.out, if_neg (by rw [hEE]; exact hE0), hEE]
                have hEn : (E != 0) = true := by simpa using hE0
                have u0 := hu.cell 0 (v := .int .i64 0) rfl
                have f0 := hu.fz 0
                have u1 := hu.cell 1 (v := .slice none 0 0) rfl
                have f1 := hu.fz 1
                have u2 := hu.cell 2 (v := .slice none 0 0) rfl
                have f2 := hu.fz 2
                have u3 := hu.cell 3 (v := .slice none 0 0) rfl
                have f3 := hu.fz 3
                have u4 := hu.cell 4 (v := .int .i64 0) rfl
                have f4 := hu.fz 4
                have u5 := hu.cell 5 (v := .bool false) rfl
                have f5 := hu.fz 5
                have u6 := hu.cell 6 (v := .int .i64 0) rfl
                have f6 := hu.fz 6
                have u7 := hu.cell 7 (v := .int .i64 0) rfl
                have f7 := hu.fz 7
                have ul := hu.lt
                go_wp2_with fail
                obtain ⟨hF, hBl⟩ := set8 (w0 := w) (.int .i64 0) (.slice none 0 0) (.slice none 0 0) (.slice none 0 0) (.int .i64 0) (.bool false) (.int .i64 ((i : Int) + 1)) (.int .i64 E) hu (Nat.le_refl _)
                clear u0 f0 u1 f1 u2 f2 u3 f3 u4 f4 u5 f5 u6 f6 u7 f7 ul
                generalize ((((((((w4.setCell ⟨w.heap.size, 0, none⟩ (.int .i64 0)).setCell ⟨w.heap.size, 1, none⟩ (.slice none 0 0)).setCell ⟨w.heap.size, 2, none⟩ (.slice none 0 0)).setCell ⟨w.heap.size, 3, none⟩ (.slice none 0 0)).setCell ⟨w.heap.size, 4, none⟩ (.int .i64 0)).setCell ⟨w.heap.size, 5, none⟩ (.bool false)).setCell ⟨w.heap.size, 6, none⟩ (.int .i64 ((i : Int) + 1))).setCell ⟨w.heap.size, 7, none⟩ (.int .i64 E)) = WF at *
                have u0 := hF.cell 0 (v := .int .i64 0) rfl
                have u1 := hF.cell 1 (v := .slice none 0 0) rfl
                have u2 := hF.cell 2 (v := .slice none 0 0) rfl
                have u3 := hF.cell 3 (v := .slice none 0 0) rfl
                have u4 := hF.cell 4 (v := .int .i64 0) rfl
                have u5 := hF.cell 5 (v := .bool false) rfl
                have u6 := hF.cell 6 (v := .int .i64 ((i : Int) + 1)) rfl
                have u7 := hF.cell 7 (v := .int .i64 E) rfl
                refine bodyPost_ret (v := .agg #[.int .i64 0, .slice none 0 0, .slice none 0 0, .slice none 0 0, .int .i64 0, .bool false, .int .i64 ((i : Int) + 1), .int .i64 E]) (by simp [results, Tryd.results14, go_sem, u0, u1, u2, u3, u4, u5, u6, u7]) rfl ?_
                exact RErr.post ⟨Below.trans (HB4.out.out HW2.out (by omega) (by omega)) hBl, rfl⟩ hX hk0 hE0
    · obtain rfl : i = L.length := by omega
      have hX1 := HX1.out
      rw [List.drop_length] at hX1
      obtain ⟨sa, ca, pa, hr⟩ := HR1.out
      have hu := HB1.out.blk (by omega) (by omega) HS2.out
      obtain ⟨va, vc, rfl, -⟩ := own_slice hr.specs
      obtain ⟨ya, yc, rfl, -⟩ := own_slice hr.calls
      obtain ⟨za, zc, rfl, -⟩ := own_slice hr.picks
      have HRR := Lib.hid hr
      have u0 := hu.cell 0 (v := .int .i64 0) rfl
      have f0 := hu.fz 0
      have u1 := hu.cell 1 (v := .slice none 0 0) rfl
      have f1 := hu.fz 1
      have u2 := hu.cell 2 (v := .slice none 0 0) rfl
      have f2 := hu.fz 2
      have u3 := hu.cell 3 (v := .slice none 0 0) rfl
      have f3 := hu.fz 3
      have u4 := hu.cell 4 (v := .int .i64 0) rfl
      have f4 := hu.fz 4
      have u5 := hu.cell 5 (v := .bool false) rfl
      have f5 := hu.fz 5
      have u6 := hu.cell 6 (v := .int .i64 0) rfl
      have f6 := hu.fz 6
      have u7 := hu.cell 7 (v := .int .i64 0) rfl
      have f7 := hu.fz 7
      have ul := hu.lt
      have p0 := hr.here.cell 0 (v := .int .i64 r.s.n) rfl
      have p1 := hr.here.cell 1 (v := .slice va r.s.specs.length vc) rfl
      have p2 := hr.here.cell 2 (v := .slice ya r.s.calls.length yc) rfl
      have p3 := hr.here.cell 3 (v := .slice za r.s.picks.length zc) rfl
      have p4 := hr.here.cell 4 (v := .int .i64 r.part) rfl
      have p5 := hr.here.cell 5 (v := .bool (fullOf r)) rfl
      have p6 := hr.here.cell 6 (v := .int .i64 0) rfl
      have p7 := hr.here.cell 7 (v := .int .i64 0) rfl
      have pl := hr.here.lt
      clear hr
      go_wp2_with fail
      clear p0 p1 p2 p3 p4 p5 p6 p7 pl
      obtain ⟨hF, hBl⟩ := set8 (w0 := w) (.int .i64 r.s.n) (.slice va r.s.specs.length vc) (.slice ya r.s.calls.length yc) (.slice za r.s.picks.length zc) (.int .i64 r.part) (.bool (fullOf r)) (.int .i64 0) (.int .i64 0) hu (Nat.le_refl _)
      have o1 := set8_own (S := w.heap.size) (.int .i64 r.s.n) (.slice va r.s.specs.length vc) (.slice ya r.s.calls.length yc) (.slice za r.s.picks.length zc) (.int .i64 r.part) (.bool (fullOf r)) (.int .i64 0) (.int .i64 0) HRR.out.specs (by omega)
      have o2 := set8_own (S := w.heap.size) (.int .i64 r.s.n) (.slice va r.s.specs.length vc) (.slice ya r.s.calls.length yc) (.slice za r.s.picks.length zc) (.int .i64 r.part) (.bool (fullOf r)) (.int .i64 0) (.int .i64 0) HRR.out.calls (by omega)
      have o3 := set8_own (S := w.heap.size) (.int .i64 r.s.n) (.slice va r.s.specs.length vc) (.slice ya r.s.calls.length yc) (.slice za r.s.picks.length zc) (.int .i64 r.part) (.bool (fullOf r)) (.int .i64 0) (.int .i64 0) HRR.out.picks (by omega)
      clear u0 f0 u1 f1 u2 f2 u3 f3 u4 f4 u5 f5 u6 f6 u7 f7 ul
      generalize ((((((((wr.setCell ⟨w.heap.size, 0, none⟩ (.int .i64 r.s.n)).setCell ⟨w.heap.size, 1, none⟩ (.slice va r.s.specs.length vc)).setCell ⟨w.heap.size, 2, none⟩ (.slice ya r.s.calls.length yc)).setCell ⟨w.heap.size, 3, none⟩ (.slice za r.s.picks.length zc)).setCell ⟨w.heap.size, 4, none⟩ (.int .i64 r.part)).setCell ⟨w.heap.size, 5, none⟩ (.bool (fullOf r))).setCell ⟨w.heap.size, 6, none⟩ (.int .i64 0)).setCell ⟨w.heap.size, 7, none⟩ (.int .i64 0)) = WF at *
      have u0 := hF.cell 0 (v := .int .i64 r.s.n) rfl
      have u1 := hF.cell 1 (v := .slice va r.s.specs.length vc) rfl
      have u2 := hF.cell 2 (v := .slice ya r.s.calls.length yc) rfl
      have u3 := hF.cell 3 (v := .slice za r.s.picks.length zc) rfl
      have u4 := hF.cell 4 (v := .int .i64 r.part) rfl
      have u5 := hF.cell 5 (v := .bool (fullOf r)) rfl
      have u6 := hF.cell 6 (v := .int .i64 0) rfl
      have u7 := hF.cell 7 (v := .int .i64 0) rfl
      refine bodyPost_ret (v := .agg #[.int .i64 r.s.n, .slice va r.s.specs.length vc, .slice ya r.s.calls.length yc, .slice za r.s.picks.length zc, .int .i64 r.part, .bool (fullOf r), .int .i64 0, .int .i64 0]) (by simp [results, Tryd.results14, go_sem, u0, u1, u2, u3, u4, u5, u6, u7]) rfl ?_
      refine ⟨Below.trans (HB1.out.out HW2.out (by omega) (by omega)) hBl, .inr ?_⟩
      have hXX : X = (0, 0, r) := hX1
      rw [hXX]
      refine ⟨rfl, rfl, ⟨va, vc, ya, yc, za, zc⟩, r.part, fullOf r, rfl, ?_, ?_, ?_⟩
      · obtain ⟨a', c', e1, -, -, h, -, -⟩ := IsSeq.own (d := spc0) spcCells_len (by decide) o1
        simp only [Value.slice.injEq] at e1
        obtain ⟨rfl, -, rfl⟩ := e1
        exact h
      · obtain ⟨a', c', e1, -, -, h, -, -⟩ := IsSeq.own (d := cll0) cllCells_len (by decide) o2
        simp only [Value.slice.injEq] at e1
        obtain ⟨rfl, -, rfl⟩ := e1
        exact h
      · exact ints_own o3

end Go.Proofs.YtcfbcffmlinlaaaDoor
