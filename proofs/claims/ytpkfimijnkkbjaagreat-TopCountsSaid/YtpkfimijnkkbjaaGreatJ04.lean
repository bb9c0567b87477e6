/-
  What the reckoner's heap says of a memory, and how that goes on step by step.
-/
import Derived.Test.YtpkfimijnkkbjaaGreatJ02
import Derived.Laws.CopyRow
import Derived.Test.YtpkfimijnkkbjaaGreatJ03
set_option linter.unusedVariables false
namespace Go.Proofs.YtpkfimijnkkbjaaGreat
namespace Ev

structure Slot where
  blk : Nat
  slack : Nat
abbrev Phi := Nat → Slot

mutual
def conc (φ : Phi) : AV → Value
  | .int k n => .int k n
  | .sint k n => .int k n
  | .bool b => .bool b
  | .sbool b => .bool b
  | .ptr b off => .pointer (some ⟨(φ b).blk, off, none⟩)
  | .nilp => .pointer none
  | .slice b off len cap => .slice (some ⟨(φ b).blk, off, none⟩) len cap
  | .oslice b sz k j len tot => .slice (some ⟨(φ b).blk, if (φ b).slack = 0 ∧ k = tot then j * sz else k * sz, none⟩) len (tot - k + (φ b).slack)
  | .sslice b off len cap => .slice (some ⟨(φ b).blk, off, none⟩) len cap
  | .soslice b sz k j len tot => .slice (some ⟨(φ b).blk, if (φ b).slack = 0 ∧ k = tot then j * sz else k * sz, none⟩) len (tot - k + (φ b).slack)
  | .nils => .slice none 0 0
  | .mapv b => .map (some (φ b).blk)
  | .nilm => .map none
  | .func f a b => .func (.func f) (concL φ a).toArray (concL φ b).toArray
  | .nilf => .nilFunc
  | .iface t v => .iface t (conc φ v)
  | .nili => .nilIface
  | .agg l => .agg (concL φ l).toArray
  | .tup l => .tuple (concL φ l).toArray
  | .opq v => if v.oneCell' then v else .bool false
def concL (φ : Phi) : List AV → List Value
  | [] => []
  | v :: l => conc φ v :: concL φ l
end
mutual
/-- Do all names in a value meet something? -/
def AV.All (D : Nat → Prop) : AV → Prop
  | .ptr b _ => D b
  | .slice b _ _ _ => D b
  | .oslice b _ _ _ _ _ => D b
  | .sslice b _ _ _ => D b
  | .soslice b _ _ _ _ _ => D b
  | .mapv b => D b
  | .func _ a b => AllL D a ∧ AllL D b
  | .iface _ v => v.All D
  | .agg l => AllL D l
  | .tup l => AllL D l
  | _ => True
def AllL (D : Nat → Prop) : List AV → Prop
  | [] => True
  | v :: l => v.All D ∧ AllL D l
end
theorem concL_eq (φ : Phi) : ∀ l, concL φ l = l.map (conc φ)
  | [] => rfl
  | v :: l => by simp [concL, concL_eq φ l]
theorem allL_iff {D : Nat → Prop} : ∀ {l : List AV}, AllL D l ↔ ∀ v ∈ l, v.All D
  | [] => by simp [AllL]
  | v :: l => by simp [AllL, allL_iff (l := l)]
mutual
theorem AV.All.mono {D D' : Nat → Prop} (h : ∀ i, D i → D' i) : ∀ {v : AV}, v.All D → v.All D'
  | .ptr b _, hv => h b hv
  | .slice b _ _ _, hv => h b hv
  | .oslice b _ _ _ _ _, hv => h b hv
  | .sslice b _ _ _, hv => h b hv
  | .soslice b _ _ _ _ _, hv => h b hv
  | .mapv b, hv => h b hv
  | .func _ _ _, hv => ⟨AllL.mono h hv.1, AllL.mono h hv.2⟩
  | .iface _ v, hv => by unfold AV.All at hv ⊢; exact AV.All.mono h hv
  | .agg l, hv => by unfold AV.All at hv ⊢; exact AllL.mono h hv
  | .tup l, hv => by unfold AV.All at hv ⊢; exact AllL.mono h hv
  | .int _ _, _ => trivial
  | .sint _ _, _ => trivial
  | .bool _, _ => trivial
  | .sbool _, _ => trivial
  | .nilp, _ => trivial
  | .nils, _ => trivial
  | .nilm, _ => trivial
  | .nilf, _ => trivial
  | .nili, _ => trivial
  | .opq _, _ => trivial
theorem AllL.mono {D D' : Nat → Prop} (h : ∀ i, D i → D' i) : ∀ {l : List AV}, AllL D l → AllL D' l
  | [], _ => trivial
  | _ :: _, hl => ⟨AV.All.mono h hl.1, AllL.mono h hl.2⟩
end
mutual
theorem conc_congr {D : Nat → Prop} {φ φ' : Phi} (h : ∀ i, D i → φ' i = φ i) : ∀ {v : AV}, v.All D → conc φ' v = conc φ v
  | .ptr b _, hv => by unfold conc; rw [h b hv]
  | .slice b _ _ _, hv => by unfold conc; rw [h b hv]
  | .oslice b _ _ _ _ _, hv => by unfold conc; rw [h b hv]
  | .sslice b _ _ _, hv => by unfold conc; rw [h b hv]
  | .soslice b _ _ _ _ _, hv => by unfold conc; rw [h b hv]
  | .mapv b, hv => by unfold conc; rw [h b hv]
  | .func _ _ _, hv => by unfold conc; rw [concL_congr h hv.1, concL_congr h hv.2]
  | .iface _ v, hv => by unfold AV.All at hv; unfold conc; rw [conc_congr h hv]
  | .agg l, hv => by unfold AV.All at hv; unfold conc; rw [concL_congr h hv]
  | .tup l, hv => by unfold AV.All at hv; unfold conc; rw [concL_congr h hv]
  | .int _ _, _ => rfl
  | .sint _ _, _ => rfl
  | .bool _, _ => rfl
  | .sbool _, _ => rfl
  | .nilp, _ => rfl
  | .nils, _ => rfl
  | .nilm, _ => rfl
  | .nilf, _ => rfl
  | .nili, _ => rfl
  | .opq _, _ => rfl
theorem concL_congr {D : Nat → Prop} {φ φ' : Phi} (h : ∀ i, D i → φ' i = φ i) : ∀ {l : List AV}, AllL D l → concL φ' l = concL φ l
  | [], _ => rfl
  | _ :: _, hl => by unfold concL; rw [conc_congr h hl.1, concL_congr h hl.2]
end
theorem concL_append (φ : Phi) (l m : List AV) : concL φ (l ++ m) = concL φ l ++ concL φ m := by simp [concL_eq]
theorem concL_length (φ : Phi) (l : List AV) : (concL φ l).length = l.length := by simp [concL_eq]
theorem concL_get (φ : Phi) (l : List AV) (i : Nat) : (concL φ l)[i]? = (l[i]?).map (conc φ) := by simp [concL_eq]
theorem allL_append {D : Nat → Prop} {l m : List AV} : AllL D (l ++ m) ↔ AllL D l ∧ AllL D m := by
  simp only [allL_iff, List.mem_append]
  exact ⟨fun h => ⟨fun v hv => h v (.inl hv), fun v hv => h v (.inr hv)⟩, fun h v hv => hv.elim (h.1 v) (h.2 v)⟩

def AObj.All (D : Nat → Prop) : AObj → Prop
  | .row _ l _ _ => AllL D l
  | .map _ l => ∀ x ∈ l, x.2.All D
theorem AObj.All.mono {D D' : Nat → Prop} (h : ∀ i, D i → D' i) {o : AObj} (ho : o.All D) : o.All D' := by
  cases o with
  | row _ l _ _ => exact AllL.mono h ho
  | map _ l => exact fun x hx => (ho x hx).mono h

def pairOf (φ : Phi) (x : Int × AV) : Int × Value := (x.1, conc φ x.2)

/-- A block lies in a memory as it was reckoned. -/
def Holds (φ : Phi) (b : Nat) (o : AObj) (w : World) : Prop :=
  match o with
  | .row _ l t none => w.heap[(φ b).blk]? = some (.cells (concL φ l).toArray t (0, 0))
  | .row _ l t (some sz) => ∃ (rest : Array Value) (n : Nat), w.heap[(φ b).blk]? = some (.cells ((concL φ l).toArray ++ rest) t (0, 0)) ∧
      rest.size = (φ b).slack * sz ∧ l.length = n * sz ∧ n + (φ b).slack ≤ maxLen
  | .map _ l => IMap w (φ b).blk (l.map (pairOf φ))

theorem Holds.lt {φ : Phi} {b : Nat} {o : AObj} {w : World} (h : Holds φ b o w) : (φ b).blk < w.heap.size := by
  rcases o with ⟨_, l, t, _ | sz⟩ | ⟨_, l⟩
  · exact (Array.getElem?_eq_some_iff.1 h).1
  · obtain ⟨_, _, h, _⟩ := h; exact (Array.getElem?_eq_some_iff.1 h).1
  · obtain ⟨_, _, h, _⟩ := h; exact (Array.getElem?_eq_some_iff.1 h).1
theorem Holds.keep {D : Nat → Prop} {φ φ' : Phi} {b : Nat} {o : AObj} {w w' : World} (h : Holds φ b o w) (hD : ∀ i, D i → φ' i = φ i) (ho : o.All D) (hb : φ' b = φ b)
    (hw : w'.heap[(φ b).blk]? = w.heap[(φ b).blk]?) : Holds φ' b o w' := by
  rcases o with ⟨_, l, t, _ | sz⟩ | ⟨_, l⟩
  · unfold Holds at h ⊢; simp only at h ⊢; rw [hb, hw, h, concL_congr hD ho]
  · unfold Holds at h ⊢
    obtain ⟨rest, n, h1, h2⟩ := h
    exact ⟨rest, n, by rw [hb, hw, h1, concL_congr hD ho], by rw [hb]; exact h2⟩
  · unfold Holds at h ⊢
    obtain ⟨es, clock, h1, h2⟩ := h
    refine ⟨es, clock, by rw [hb, hw]; exact h1, h2.trans ?_⟩
    have : l.map (pairOf φ') = l.map (pairOf φ) := List.map_congr_left fun x hx => by
      unfold pairOf; rw [conc_congr hD (ho x hx)]
    rw [this]

/-- How a run goes from one state to another one, with the blocks that it read and those that it wrote or made. -/
structure Sp (s s' : St) (R W : Nat → Prop) : Prop where
  next : s.next ≤ s'.next
  same : ∀ b, ¬ W b → s'.get b = s.get b
  sub : ∀ b, W b → R b
  rd : ∀ b, R b → s'.rd.testBit b = true
  wr : ∀ b, W b → s'.wr.testBit b = true
  rdm : ∀ b, s.rd.testBit b = true → s'.rd.testBit b = true
  wrm : ∀ b, s.wr.testBit b = true → s'.wr.testBit b = true
  lt : ∀ b, W b → s.get b = none → b < s'.next
  made : ∀ b, s.next ≤ b → b < s'.next → W b
  born : ∀ b, s.get b = none → s'.get b ≠ none → s.next ≤ b
  pre : s'.pre → s.pre

/-- Names come from what was there, or are new. -/
def Ids (s s' : St) (R W : Nat → Prop) (ins out : (Nat → Prop) → Prop) : Prop :=
  ∀ D : Nat → Prop, s'.pre → (∀ i, s.next ≤ i → i < s'.next → D i) → ins D → (∀ b o, R b → s.get b = some o → o.All D) →
    out D ∧ ∀ b o, W b → s'.get b = some o → o.All D

/-- The blocks of a set lie in a memory, each in a place of its own. -/
structure Fits (s : St) (R : Nat → Prop) (φ : Phi) (w : World) : Prop where
  holds : ∀ b o, R b → s.get b = some o → Holds φ b o w
  inj : ∀ b c, R b → R c → s.get b ≠ none → s.get c ≠ none → (φ b).blk = (φ c).blk → b = c

/-- All names in the blocks of a set are old ones. -/
def Old (s : St) (R : Nat → Prop) : Prop := ∀ b o, R b → s.get b = some o → b < s.next ∧ o.All (· < s.next)

/-- A memory has grown, and nothing else has turned. -/
def Grew (w w' : World) : Prop := w.heap.size ≤ w'.heap.size ∧ w'.os = w.os ∧ w'.output = w.output
structure Moves (s s' : St) (W : Nat → Prop) (φ φ' : Phi) (w w' : World) : Prop where
  agree : ∀ i, ¬ (s.next ≤ i ∧ i < s'.next) → φ' i = φ i
  holds : ∀ b o, W b → s'.get b = some o → Holds φ' b o w'
  inj : ∀ b c, W b → W c → s'.get b ≠ none → s'.get c ≠ none → (φ' b).blk = (φ' c).blk → b = c
  source : ∀ b, W b → s'.get b ≠ none → w.heap.size ≤ (φ' b).blk ∨ ∃ c, W c ∧ s.get c ≠ none ∧ (φ' b).blk = (φ c).blk
  frame : ∀ r, r < w.heap.size → (∀ c, W c → s.get c ≠ none → (φ c).blk ≠ r) → w'.heap[r]? = w.heap[r]?
  size : w.heap.size ≤ w'.heap.size
  kept : w'.os = w.os ∧ w'.output = w.output

section
variable {s s1 s2 : St} {R R1 R2 W W1 W2 : Nat → Prop} {φ φ1 φ2 : Phi} {w w1 w2 : World}

theorem Fits.mono {R' : Nat → Prop} (h : Fits s R φ w) (hr : ∀ b, R' b → R b) : Fits s R' φ w :=
  ⟨fun b o hb => h.holds b o (hr b hb), fun b c hb hc => h.inj b c (hr b hb) (hr c hc)⟩
theorem Old.mono {R' : Nat → Prop} (h : Old s R) (hr : ∀ b, R' b → R b) : Old s R' := fun b o hb => h b o (hr b hb)

theorem some_of_ne {α : Type} {x : Option α} (h : x ≠ none) : ∃ y, x = some y := by cases x with | none => exact absurd rfl h | some y => exact ⟨y, rfl⟩

/-- A block that was not written lies as it lay. -/
theorem Fits.kept (hs : Sp s s1 R1 W1) (hm : Moves s s1 W1 φ φ1 w w1) (hf : Fits s R φ w) (ho : Old s R) (hr : ∀ b, R1 b → R b) {b : Nat} {o : AObj} (hb : R b) (hw : ¬ W1 b) (hg : s.get b = some o) :
    Holds φ1 b o w1 ∧ φ1 b = φ b := by
  have hlt := ho b o hb hg
  have hφ : φ1 b = φ b := hm.agree b (by omega)
  refine ⟨(hf.holds b o hb hg).keep (D := (· < s.next)) (fun i hi => hm.agree i (by omega)) hlt.2 hφ ?_, hφ⟩
  refine hm.frame _ (hf.holds b o hb hg).lt fun c hc hcl he => ?_
  have := hf.inj c b (hr c (hs.sub c hc)) hb hcl (by rw [hg]; simp) he
  subst this
  exact hw hc

theorem Fits.step (hs : Sp s s1 R1 W1) (hm : Moves s s1 W1 φ φ1 w w1) (hf : Fits s R φ w) (ho : Old s R) (hr : ∀ b, R1 b → R b) : Fits s1 R φ1 w1 := by
  constructor
  · intro b o hb hg
    by_cases hw : W1 b
    · exact hm.holds b o hw hg
    · rw [hs.same b hw] at hg
      exact (hf.kept hs hm ho hr hb hw hg).1
  · intro b c hb hc hgb hgc he
    by_cases hwb : W1 b <;> by_cases hwc : W1 c
    · exact hm.inj b c hwb hwc hgb hgc he
    · rw [hs.same c hwc] at hgc
      obtain ⟨o, hgo⟩ := some_of_ne hgc
      have hk := hf.kept hs hm ho hr hc hwc hgo
      rw [hk.2] at he
      rcases hm.source b hwb hgb with h | ⟨d, hd, hdl, h⟩
      · have := (hf.holds c o hc hgo).lt; omega
      · have := hf.inj d c (hr d (hs.sub d hd)) hc hdl hgc (by rw [← h, he])
        subst this; exact absurd hd hwc
    · rw [hs.same b hwb] at hgb
      obtain ⟨o, hgo⟩ := some_of_ne hgb
      have hk := hf.kept hs hm ho hr hb hwb hgo
      rw [hk.2] at he
      rcases hm.source c hwc hgc with h | ⟨d, hd, hdl, h⟩
      · have := (hf.holds b o hb hgo).lt; omega
      · have := hf.inj d b (hr d (hs.sub d hd)) hb hdl hgb (by rw [← h, ← he])
        subst this; exact absurd hd hwb
    · rw [hs.same b hwb] at hgb
      rw [hs.same c hwc] at hgc
      obtain ⟨o, hgo⟩ := some_of_ne hgb
      obtain ⟨o', hgo'⟩ := some_of_ne hgc
      rw [(hf.kept hs hm ho hr hb hwb hgo).2, (hf.kept hs hm ho hr hc hwc hgo').2] at he
      exact hf.inj b c hb hc hgb hgc he

theorem Old.step {ins out : (Nat → Prop) → Prop} (hs : Sp s s1 R1 W1) (hi : Ids s s1 R1 W1 ins out) (hp : s1.pre) (hins : ins (· < s1.next)) (ho : Old s R) (hr : ∀ b, R1 b → R b) : Old s1 R := by
  intro b o hb hg
  have h1 := hi (· < s1.next) hp (fun i _ h => h) hins (fun b o hb hg => (ho b o (hr b hb) hg).2.mono fun i hi => Nat.lt_of_lt_of_le hi hs.next)
  by_cases hw : W1 b
  · refine ⟨?_, h1.2 b o hw hg⟩
    cases hgs : s.get b with
    | none => exact hs.lt b hw hgs
    | some o' => exact Nat.lt_of_lt_of_le (ho b o' hb hgs).1 hs.next
  · rw [hs.same b hw] at hg
    have := ho b o hb hg
    exact ⟨Nat.lt_of_lt_of_le this.1 hs.next, this.2.mono fun i hi => Nat.lt_of_lt_of_le hi hs.next⟩

theorem Sp.trans (h1 : Sp s s1 R1 W1) (h2 : Sp s1 s2 R2 W2) : Sp s s2 (fun b => R1 b ∨ R2 b) (fun b => W1 b ∨ W2 b) where
  next := Nat.le_trans h1.next h2.next
  same b hb := by rw [h2.same b fun h => hb (.inr h), h1.same b fun h => hb (.inl h)]
  sub b hb := hb.imp (h1.sub b) (h2.sub b)
  rd b hb := hb.elim (fun h => h2.rdm b (h1.rd b h)) (h2.rd b)
  wr b hb := hb.elim (fun h => h2.wrm b (h1.wr b h)) (h2.wr b)
  rdm b hb := h2.rdm b (h1.rdm b hb)
  wrm b hb := h2.wrm b (h1.wrm b hb)
  lt b hb hn := by
    by_cases hw : W1 b
    · exact Nat.lt_of_lt_of_le (h1.lt b hw hn) h2.next
    · exact h2.lt b (hb.resolve_left hw) (by rw [h1.same b hw]; exact hn)
  made b hb hb' := by
    by_cases h : b < s1.next
    · exact .inl (h1.made b hb h)
    · exact .inr (h2.made b (by omega) hb')
  born b hb hb' := by
    by_cases h : s1.get b = none
    · exact Nat.le_trans h1.next (h2.born b h hb')
    · exact h1.born b hb h
  pre h := h1.pre (h2.pre h)

theorem Ids.trans {ins mid out : (Nat → Prop) → Prop} (hs1 : Sp s s1 R1 W1) (hs2 : Sp s1 s2 R2 W2) (h1 : Ids s s1 R1 W1 ins mid) (h2 : Ids s1 s2 R2 W2 mid out) :
    Ids s s2 (fun b => R1 b ∨ R2 b) (fun b => W1 b ∨ W2 b) ins out := by
  intro D hp hD hin hR
  obtain ⟨hm, hw1⟩ := h1 D (hs2.pre hp) (fun i h h' => hD i h (Nat.lt_of_lt_of_le h' hs2.next)) hin (fun b o hb hg => hR b o (.inl hb) hg)
  obtain ⟨hout, hw2⟩ := h2 D hp (fun i h h' => hD i (Nat.le_trans hs1.next h) h') hm (fun b o hb hg => by
    by_cases hw : W1 b
    · exact hw1 b o hw hg
    · rw [hs1.same b hw] at hg; exact hR b o (.inr hb) hg)
  refine ⟨hout, fun b o hb hg => ?_⟩
  by_cases hw : W2 b
  · exact hw2 b o hw hg
  · rw [hs2.same b hw] at hg
    exact hw1 b o (hb.resolve_right hw) hg

theorem Moves.trans (hs1 : Sp s s1 R1 W1) (hs2 : Sp s1 s2 R2 W2) (hm1 : Moves s s1 W1 φ φ1 w w1) (hm2 : Moves s1 s2 W2 φ1 φ2 w1 w2)
    (hf : Fits s R φ w) (ho : Old s R) (hf1 : Fits s1 R φ1 w1) (ho1 : Old s1 R) (hr1 : ∀ b, R1 b → R b) (hr2 : ∀ b, R2 b → R b) : Moves s s2 (fun b => W1 b ∨ W2 b) φ φ2 w w2 where
  agree i hi := by
    have a1 := hs1.next
    have a2 := hs2.next
    rw [hm2.agree i (by omega), hm1.agree i (by omega)]
  holds b o hb hg := by
    by_cases hw : W2 b
    · exact hm2.holds b o hw hg
    · rw [hs2.same b hw] at hg
      exact (hf1.kept hs2 hm2 ho1 hr2 (hr1 b (hs1.sub b (hb.resolve_right hw))) hw hg).1
  inj b c hb hc hgb hgc he := by
    have hf2 := hf1.step hs2 hm2 ho1 hr2
    have hR : ∀ b, W1 b ∨ W2 b → R b := fun b hb => hb.elim (fun h => hr1 b (hs1.sub b h)) (fun h => hr2 b (hs2.sub b h))
    exact hf2.inj b c (hR b hb) (hR c hc) hgb hgc he
  source b hb hgb := by
    by_cases hw : W2 b
    · rcases hm2.source b hw hgb with h | ⟨c, hc, hcl, h⟩
      · exact .inl (Nat.le_trans hm1.size h)
      · by_cases hw1 : W1 c
        · rcases hm1.source c hw1 hcl with h' | ⟨d, hd, hdl, h'⟩
          · exact .inl (by omega)
          · exact .inr ⟨d, .inl hd, hdl, by rw [h, h']⟩
        · rw [hs1.same c hw1] at hcl
          obtain ⟨o, hgo⟩ := some_of_ne hcl
          exact .inr ⟨c, .inr hc, hcl, by rw [h, (hf.kept hs1 hm1 ho hr1 (hr2 c (hs2.sub c hc)) hw1 hgo).2]⟩
    · rw [hs2.same b hw] at hgb
      have hb1 := hb.resolve_right hw
      obtain ⟨o, hgo⟩ := some_of_ne hgb
      rw [(hf1.kept hs2 hm2 ho1 hr2 (hr1 b (hs1.sub b hb1)) hw hgo).2]
      rcases hm1.source b hb1 hgb with h | ⟨d, hd, hdl, h⟩
      · exact .inl h
      · exact .inr ⟨d, .inl hd, hdl, h⟩
  frame r hr hc := by
    have h1 := hm1.frame r hr fun c hcw hcl => hc c (.inl hcw) hcl
    rw [hm2.frame r (Nat.lt_of_lt_of_le hr hm1.size) ?_, h1]
    intro c hcw hcl
    by_cases hw1 : W1 c
    · rcases hm1.source c hw1 hcl with h' | ⟨d, hd, hdl, h'⟩
      · omega
      · rw [h']; exact hc d (.inl hd) hdl
    · rw [hs1.same c hw1] at hcl
      obtain ⟨o, hgo⟩ := some_of_ne hcl
      rw [(hf.kept hs1 hm1 ho hr1 (hr2 c (hs2.sub c hcw)) hw1 hgo).2]
      exact hc c (.inr hcw) hcl
  size := Nat.le_trans hm1.size hm2.size
  kept := ⟨hm2.kept.1.trans hm1.kept.1, hm2.kept.2.trans hm1.kept.2⟩
end

/- Trees. -/
theorem look_put_ne : ∀ (f : Nat) (t : Tr) (b c : Nat) (x : Option AObj), b ≠ c → Tr.look f (Tr.put f t b x) c = Tr.look f t c := by
  intro f
  induction f with
  | zero => intro t b c x h; rfl
  | succ f ih =>
    intro t b c x h
    have key : ∀ (b c : Nat), b ≠ c → Nat.beq b 0 = false → Nat.beq c 0 = false → Nat.beq (Nat.mod b 2) 1 = Nat.beq (Nat.mod c 2) 1 →
        (Nat.beq (Nat.mod b 2) 1 = true → Nat.div b 2 ≠ Nat.div c 2) ∧ (Nat.beq (Nat.mod b 2) 1 = false → Nat.div (Nat.sub b 1) 2 ≠ Nat.div (Nat.sub c 1) 2) := by
      intro b c h hb hc he
      have hb' : b ≠ 0 := fun e => by subst e; simp at hb
      have hc' : c ≠ 0 := fun e => by subst e; simp at hc
      constructor
      · intro h1
        rw [h1] at he
        have e1 := Nat.eq_of_beq_eq_true h1
        have e2 := Nat.eq_of_beq_eq_true he.symm
        change b % 2 = 1 at e1
        change c % 2 = 1 at e2
        change b / 2 ≠ c / 2
        omega
      · intro h1
        rw [h1] at he
        have e1 := Nat.ne_of_beq_eq_false h1
        have e2 := Nat.ne_of_beq_eq_false he.symm
        change b % 2 ≠ 1 at e1
        change c % 2 ≠ 1 at e2
        change (b - 1) / 2 ≠ (c - 1) / 2
        omega
    have nil : ∀ (f c : Nat), Tr.look f .nil c = none := by intro f c; cases f <;> rfl
    cases t with
    | nil =>
      unfold Tr.put
      cases hb : Nat.beq b 0 with
      | true =>
        have : Nat.beq c 0 = false := by
          have := Nat.eq_of_beq_eq_true hb
          cases hc : Nat.beq c 0 with
          | false => rfl
          | true => exact absurd (this.trans (Nat.eq_of_beq_eq_true hc).symm) h
        simp only [Tr.look, this]
        split <;> exact nil f _
      | false =>
        simp only
        cases hp : Nat.beq (Nat.mod b 2) 1 with
        | true =>
          simp only [Tr.look]
          cases hc : Nat.beq c 0 with
          | true => rfl
          | false =>
            simp only
            cases hq : Nat.beq (Nat.mod c 2) 1 with
            | true =>
              simp only
              rw [ih .nil _ _ x ((key b c h hb hc (hp.trans hq.symm)).1 hp)]; exact nil f _
            | false => simp only; exact nil f _
        | false =>
          simp only [Tr.look]
          cases hc : Nat.beq c 0 with
          | true => rfl
          | false =>
            simp only
            cases hq : Nat.beq (Nat.mod c 2) 1 with
            | true => simp only; exact nil f _
            | false =>
              simp only
              rw [ih .nil _ _ x ((key b c h hb hc (hp.trans hq.symm)).2 hp)]; exact nil f _
    | node o l r =>
      unfold Tr.put
      cases hb : Nat.beq b 0 with
      | true =>
        have : Nat.beq c 0 = false := by
          have := Nat.eq_of_beq_eq_true hb
          cases hc : Nat.beq c 0 with
          | false => rfl
          | true => exact absurd (this.trans (Nat.eq_of_beq_eq_true hc).symm) h
        simp only [Tr.look, this]
      | false =>
        simp only
        cases hp : Nat.beq (Nat.mod b 2) 1 with
        | true =>
          simp only [Tr.look]
          cases hc : Nat.beq c 0 with
          | true => rfl
          | false =>
            simp only
            cases hq : Nat.beq (Nat.mod c 2) 1 with
            | true =>
              simp only
              exact ih _ _ _ x ((key b c h hb hc (hp.trans hq.symm)).1 hp)
            | false => rfl
        | false =>
          simp only [Tr.look]
          cases hc : Nat.beq c 0 with
          | true => rfl
          | false =>
            simp only
            cases hq : Nat.beq (Nat.mod c 2) 1 with
            | true => rfl
            | false =>
              simp only
              exact ih _ _ _ x ((key b c h hb hc (hp.trans hq.symm)).2 hp)
theorem look_put_eq : ∀ (f : Nat) (t : Tr) (b : Nat) (x : Option AObj) (y : AObj), Tr.look f (Tr.put f t b x) b = some y → x = some y := by
  intro f
  induction f with
  | zero => intro t b x y h; cases h
  | succ f ih =>
    intro t b x y h
    cases t with
    | nil =>
      unfold Tr.put at h
      cases hb : Nat.beq b 0 with
      | true => simp only [hb, Tr.look] at h; exact h
      | false =>
        simp only [hb] at h
        cases hp : Nat.beq (Nat.mod b 2) 1 with
        | true => simp only [hp, Tr.look, hb] at h; exact ih _ _ _ _ h
        | false => simp only [hp, Tr.look, hb] at h; exact ih _ _ _ _ h
    | node o l r =>
      unfold Tr.put at h
      cases hb : Nat.beq b 0 with
      | true => simp only [hb, Tr.look] at h; exact h
      | false =>
        simp only [hb] at h
        cases hp : Nat.beq (Nat.mod b 2) 1 with
        | true => simp only [hp, Tr.look, hb] at h; exact ih _ _ _ _ h
        | false => simp only [hp, Tr.look, hb] at h; exact ih _ _ _ _ h
theorem forceN_eq {α : Type} (n : Nat) (k : Nat → α) : forceN n k = k n := by cases n <;> rfl
theorem mark_self (r b : Nat) : (mark r b).testBit b = true := by
  unfold mark; change (r ||| 1 <<< b).testBit b = true
  simp [Nat.testBit_or, Nat.testBit_shiftLeft]
theorem mark_old (r b c : Nat) (h : r.testBit c = true) : (mark r b).testBit c = true := by
  unfold mark; change (r ||| 1 <<< b).testBit c = true
  simp [Nat.testBit_or, h]

/- Small steps. -/
def St.seen (s : St) (b : Nat) : St := ⟨s.heap, s.next, mark s.rd b, s.wr, s.pre, s.orc⟩
def St.wrote (s : St) (b : Nat) (x : AObj) : St := ⟨Tr.put deep s.heap b (some x), s.next, mark s.rd b, mark s.wr b, s.pre, s.orc⟩
def St.made (s : St) (x : AObj) : St := ⟨Tr.put deep s.heap s.next (some x), s.next + 1, mark s.rd s.next, mark s.wr s.next, s.pre, s.orc⟩
def St.killed (s : St) (b : Nat) : St := ⟨Tr.put deep s.heap b none, s.next, s.rd, mark s.wr b, s.pre, s.orc⟩

theorem rdBlk_ok {α : Type} {s s' : St} {b : Nat} {k : AObj → St → Res α} {a : α} (h : rdBlk s b k = .ok a s') : ∃ x, s.get b = some x ∧ k x (s.seen b) = .ok a s' := by
  unfold rdBlk at h
  obtain ⟨hp, n, r, w, p, o⟩ := s
  simp only [forceN_eq] at h
  cases hl : Tr.look deep hp b with
  | none => rw [hl] at h; cases h
  | some x => rw [hl] at h; exact ⟨x, hl, h⟩
theorem wrBlk_eq {α : Type} (s : St) (b : Nat) (x : AObj) (a : α) : wrBlk s b x a = .ok a (s.wrote b x) := by
  unfold wrBlk; obtain ⟨hp, n, r, w, p, o⟩ := s; simp only [forceN_eq]; rfl
theorem newBlk_eq {α : Type} (s : St) (x : AObj) (k : Nat → α) : newBlk s x k = .ok (k s.next) (s.made x) := by
  unfold newBlk; obtain ⟨hp, n, r, w, p, o⟩ := s; simp only [forceN_eq]; rfl
theorem ask_eq (s : St) (q : Prop) : ask s q = ⟨s.heap, s.next, s.rd, s.wr, s.pre ∧ q, s.orc⟩ := by obtain ⟨hp, n, r, w, p, o⟩ := s; rfl

/-- Nothing was written, or made. -/
structure Quiet (s s' : St) (R : Nat → Prop) : Prop where
  heap : s'.heap = s.heap
  next : s'.next = s.next
  rd : ∀ b, R b → s'.rd.testBit b = true
  rdm : ∀ b, s.rd.testBit b = true → s'.rd.testBit b = true
  wrm : ∀ b, s.wr.testBit b = true → s'.wr.testBit b = true
  pre : s'.pre → s.pre
theorem Quiet.get {s s' : St} {R : Nat → Prop} (h : Quiet s s' R) (b : Nat) : s'.get b = s.get b := by unfold St.get; rw [h.heap]
theorem Quiet.refl (s : St) : Quiet s s (fun _ => False) := ⟨rfl, rfl, fun _ h => h.elim, fun _ h => h, fun _ h => h, fun h => h⟩
theorem Quiet.of_ask (s : St) (q : Prop) : Quiet s (ask s q) (fun _ => False) := by
  rw [ask_eq]; exact ⟨rfl, rfl, fun _ h => h.elim, fun _ h => h, fun _ h => h, fun h => h.1⟩
theorem Quiet.seen (s : St) (b : Nat) : Quiet s (s.seen b) (fun c => c = b) :=
  ⟨rfl, rfl, fun c h => by subst h; exact mark_self _ _, fun c h => mark_old _ _ _ h, fun _ h => h, fun h => h⟩
theorem Quiet.trans {s s1 s2 : St} {R1 R2 : Nat → Prop} (h1 : Quiet s s1 R1) (h2 : Quiet s1 s2 R2) : Quiet s s2 (fun b => R1 b ∨ R2 b) :=
  ⟨h2.heap.trans h1.heap, h2.next.trans h1.next, fun b h => h.elim (fun h => h2.rdm b (h1.rd b h)) (h2.rd b), fun b h => h2.rdm b (h1.rdm b h), fun b h => h2.wrm b (h1.wrm b h), fun h => h1.pre (h2.pre h)⟩
theorem Quiet.sp {s s' : St} {R : Nat → Prop} (h : Quiet s s' R) : Sp s s' R (fun _ => False) where
  next := by rw [h.next]; exact Nat.le_refl _
  same b _ := h.get b
  sub _ h := h.elim
  rd := h.rd
  wr _ h := h.elim
  rdm := h.rdm
  wrm := h.wrm
  lt _ h := h.elim
  made b h1 h2 := by rw [h.next] at h2; omega
  born b h1 h2 := by rw [h.get] at h2; exact absurd h1 h2
  pre := h.pre
theorem Quiet.ids {s s' : St} {R : Nat → Prop} (_ : Quiet s s' R) {ins out : (Nat → Prop) → Prop} (ho : ∀ D : Nat → Prop, s'.pre → ins D → (∀ b o, R b → s.get b = some o → o.All D) → out D) : Ids s s' R (fun _ => False) ins out :=
  fun D hp _ hin hR => ⟨ho D hp hin hR, fun _ _ h => h.elim⟩
theorem Moves.refl (s s' : St) (φ : Phi) (w : World) : Moves s s' (fun _ => False) φ φ w w :=
  ⟨fun _ _ => rfl, fun _ _ h => h.elim, fun _ _ h => h.elim, fun _ h => h.elim, fun _ _ _ => rfl, Nat.le_refl _, rfl, rfl⟩
theorem get_wrote_ne {s : St} {b c : Nat} {x : AObj} (h : c ≠ b) : (s.wrote b x).get c = s.get c := look_put_ne _ _ _ _ _ (fun e => h e.symm)
theorem get_wrote {s : St} {b : Nat} {x y : AObj} (h : (s.wrote b x).get b = some y) : y = x := by
  have := look_put_eq _ _ _ _ _ h
  cases this; rfl
theorem get_made_ne {s : St} {c : Nat} {x : AObj} (h : c ≠ s.next) : (s.made x).get c = s.get c := look_put_ne _ _ _ _ _ (fun e => h e.symm)
theorem get_made {s : St} {x y : AObj} (h : (s.made x).get s.next = some y) : y = x := by
  have := look_put_eq _ _ _ _ _ h
  cases this; rfl

theorem Quiet.wrote_sp {s s1 : St} {R : Nat → Prop} (h : Quiet s s1 R) {b : Nat} {x old : AObj} (hb : R b) (hg : s.get b = some old) : Sp s (s1.wrote b x) R (fun c => c = b) where
  next := by show s.next ≤ s1.next; rw [h.next]; exact Nat.le_refl _
  same c hc := by rw [get_wrote_ne hc, h.get]
  sub c hc := by subst hc; exact hb
  rd c hc := mark_old _ _ _ (h.rd c hc)
  wr c hc := by subst hc; exact mark_self _ _
  rdm c hc := mark_old _ _ _ (h.rdm c hc)
  wrm c hc := mark_old _ _ _ (h.wrm c hc)
  lt c hc hn := by subst hc; rw [hg] at hn; cases hn
  made c h1 h2 := by change c < s1.next at h2; rw [h.next] at h2; omega
  born c h1 h2 := by
    by_cases hc : c = b
    · subst hc; rw [hg] at h1; cases h1
    · rw [get_wrote_ne hc, h.get] at h2; exact absurd h1 h2
  pre := h.pre
theorem Quiet.wrote_moves {s s1 : St} {R : Nat → Prop} (_ : Quiet s s1 R) {b : Nat} {x old : AObj} (hg : s.get b = some old) {φ : Phi} {w w' : World} (hh : Holds φ b x w')
    (hfr : ∀ r, r < w.heap.size → r ≠ (φ b).blk → w'.heap[r]? = w.heap[r]?) (hsz : Grew w w') : Moves s (s1.wrote b x) (fun c => c = b) φ φ w w' where
  agree _ _ := rfl
  holds c o hc ho := by subst hc; rw [get_wrote ho]; exact hh
  inj c d hc hd _ _ _ := by rw [hc, hd]
  source c hc _ := by subst hc; exact .inr ⟨c, rfl, by rw [hg]; simp, rfl⟩
  frame r hr hc := hfr r hr fun e => hc b rfl (by rw [hg]; simp) e.symm
  size := hsz.1
  kept := hsz.2
theorem Quiet.made_sp {s s1 : St} {R : Nat → Prop} (h : Quiet s s1 R) {x : AObj} : Sp s (s1.made x) (fun c => R c ∨ c = s.next) (fun c => c = s.next) where
  next := by show s.next ≤ s1.next + 1; rw [h.next]; omega
  same c hc := by rw [get_made_ne (by rw [h.next]; exact hc), h.get]
  sub c hc := .inr hc
  rd c hc := hc.elim (fun hc => mark_old _ _ _ (h.rd c hc)) (fun hc => by subst hc; rw [← h.next]; exact mark_self _ _)
  wr c hc := by subst hc; rw [← h.next]; exact mark_self _ _
  rdm c hc := mark_old _ _ _ (h.rdm c hc)
  wrm c hc := mark_old _ _ _ (h.wrm c hc)
  lt c hc _ := by subst hc; show s.next < s1.next + 1; rw [h.next]; omega
  made c h1 h2 := by change c < s1.next + 1 at h2; rw [h.next] at h2; omega
  born c h1 h2 := by
    by_cases hc : c = s.next
    · omega
    · rw [get_made_ne (by rw [h.next]; exact hc), h.get] at h2; exact absurd h1 h2
  pre := h.pre
def upd (φ : Phi) (n : Nat) (x : Slot) : Phi := fun i => if i = n then x else φ i
theorem upd_at (φ : Phi) (n : Nat) (x : Slot) : upd φ n x n = x := by simp [upd]
theorem upd_ne (φ : Phi) {n i : Nat} (x : Slot) (h : i ≠ n) : upd φ n x i = φ i := by simp [upd, h]
theorem Quiet.made_moves {s s1 : St} {R : Nat → Prop} (h : Quiet s s1 R) {x : AObj} {φ : Phi} {w w' : World} {y : Slot} (hh : Holds (upd φ s.next y) s.next x w')
    (hy : w.heap.size ≤ y.blk) (hfr : ∀ r, r < w.heap.size → w'.heap[r]? = w.heap[r]?) (hsz : Grew w w') : Moves s (s1.made x) (fun c => c = s.next) φ (upd φ s.next y) w w' where
  agree i hi := by
    change ¬ (s.next ≤ i ∧ i < s1.next + 1) at hi
    rw [h.next] at hi
    exact upd_ne _ _ (by omega)
  holds c o hc ho := by subst hc; rw [← h.next] at ho; rw [get_made ho]; exact hh
  inj c d hc hd _ _ _ := by rw [hc, hd]
  source c hc _ := by subst hc; left; rw [upd_at]; exact hy
  frame r hr _ := hfr r hr
  size := hsz.1
  kept := hsz.2
end Ev
end Go.Proofs.YtpkfimijnkkbjaaGreat
