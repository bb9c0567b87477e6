/-
  Each operation of the reckoner does in a memory what it reckons: loads, stores, new blocks.
  Each operation of the reckoner does in a memory what it reckons: parts laid together, slices, maps.
-/
import Derived.Test.YtpkfimijnkkbjaaGreatJ06
import Derived.Test.YtpkfimijnkkbjaaGreatJ03
set_option linter.unusedVariables false
namespace Go.Proofs.YtpkfimijnkkbjaaGreat
namespace Ev

variable {P : Program} {s s' : St} {env : Env} {o : Op} {v : AV}

/-- An operation that makes a block. -/
theorem opOk_made {s1 : St} (R : Nat → Prop) (hq : Quiet s s1 R) (x : AObj) (v : AV) (hv : ∀ D : Nat → Prop, D s.next → v.All D)
    (hx : ∀ D : Nat → Prop, s1.pre → insO env o D → (∀ b y, R b → s.get b = some y → y.All D) → x.All D)
    (hrun : ∀ (φ : Phi) (w : World) (ρ : Operand → Value) (r : Oper), r.op = o → s1.pre → Fits s R φ w → Old s R → insO env o (· < s.next) → RdO φ env ρ o →
      ∃ (y : Slot) (w' : World), (execOp ρ r).run P w = .ok (.value (conc (upd φ s.next y) v)) w' ∧ Holds (upd φ s.next y) s.next x w' ∧ w.heap.size ≤ y.blk ∧
        (∀ r, r < w.heap.size → w'.heap[r]? = w.heap[r]?) ∧ Grew w w') : OpOk P s (s1.made x) env o v := by
  refine ⟨_, _, hq.made_sp (x := x), ?_, ?_⟩
  · intro D hp hD hin hR
    have hD' : D s.next := hD s.next (Nat.le_refl _) (by show s.next < s1.next + 1; rw [hq.next]; omega)
    refine ⟨hv D hD', fun b y hb hg => ?_⟩
    subst hb
    rw [← hq.next] at hg
    rw [get_made hg]
    exact hx D hp hin (fun b y hb hg => hR b y (.inl hb) hg)
  · intro φ w ρ r hr hp hf ho hin hρ
    obtain ⟨y, w', h1, h2, h3, h4, h5⟩ := hrun φ w ρ r hr hp (hf.mono fun b hb => .inl hb) (ho.mono fun b hb => .inl hb) hin hρ
    exact ⟨_, w', _, h1, rfl, hq.made_moves h2 h3 h4 h5⟩

theorem not_mem_next {D : Nat → Prop} {n : Nat} (h : ∀ i, D i → i < n) (φ : Phi) (y : Slot) : ∀ i, D i → upd φ n y i = φ i := fun i hi => upd_ne _ _ (by have := h i hi; omega)

/-- A new row in a memory. -/
theorem holds_new {φ : Phi} {w : World} {n : Nat} {sy : Bool} {l : List AV} {t : TypeId} (hl : AllL (· < n) l) :
    Holds (upd φ n ⟨w.heap.size, 0⟩) n (.row sy l t none) (w.alloc (.cells (concL φ l).toArray t)) ∧
      (∀ r, r < w.heap.size → (w.alloc (.cells (concL φ l).toArray t)).heap[r]? = w.heap[r]?) ∧ Grew w (w.alloc (.cells (concL φ l).toArray t)) := by
  refine ⟨?_, fun r hr => heap_alloc_old w _ hr, by simp, rfl, rfl⟩
  unfold Holds
  simp only [upd_at]
  rw [concL_congr (D := (· < n)) (fun i hi => upd_ne _ _ (by omega)) hl]
  exact heap_alloc_new w _

theorem op_box {t : TypeId} {x : Operand} (h : evOp P env (.box t x) s = .ok v s') : OpOk P s s' env (.box t x) v := by
  have mx : x ∈ (Op.box t x).operands.toList := by simp [Op.operands]
  simp only [evOp] at h
  split at h
  · rename_i a hx
    rw [newBlk_eq] at h
    cases h
    refine opOk_made _ (Quiet.refl s) _ _ (fun D hD => hD) (fun D _ hi _ => cells_all (hi x mx _ hx)) (fun φ w ρ r hr _ _ _ hin hρ => ?_)
    have hx' := hρ x mx _ hx
    obtain ⟨h1, h2, h3⟩ := holds_new (φ := φ) (w := w) (n := s.next) (sy := false) (t := t) (cells_all (hin x mx _ hx))
    refine ⟨⟨w.heap.size, 0⟩, _, ?_, h1, Nat.le_refl _, h2, h3⟩
    obtain ⟨_, _, _, _, _, _⟩ := r
    cases hr
    simp [execOp, Instr.box, newVar, newRow, hx', conc_cells, conc, upd_at]
  · cases h

theorem zeroT_ok {t : TypeId} {z : AV} (h : zeroT P t = some z) (w : World) (φ : Phi) : (zeroValue t).run P w = .ok (conc φ z) w ∧ (∀ D, z.All D) ∧ ∃ i zz, P.info? t = some i ∧ i.zero = some zz ∧ conc φ z = zz := by
  unfold zeroT at h
  split at h
  · rename_i i hi
    split at h
    · rename_i zz hz
      obtain ⟨h1, h2⟩ := constA_ok h φ
      exact ⟨by simp [zeroValue, typeInfo, hi, hz, h1], h2, i, zz, hi, hz, h1⟩
    · cases h
  · cases h

theorem op_alloc {t : TypeId} (h : evOp P env (.alloc t) s = .ok v s') : OpOk P s s' env (.alloc t) v := by
  simp only [evOp] at h
  split at h
  · rename_i z hz
    rw [newBlk_eq] at h
    cases h
    have hall := (zeroT_ok hz default (fun _ => ⟨0, 0⟩)).2.1
    refine opOk_made _ (Quiet.refl s) _ _ (fun D hD => hD) (fun D _ hi _ => cells_all (hall D)) (fun φ w ρ r hr _ _ _ hin hρ => ?_)
    obtain ⟨h1, h2, h3⟩ := holds_new (φ := φ) (w := w) (n := s.next) (sy := false) (t := t) (cells_all (hall _))
    refine ⟨⟨w.heap.size, 0⟩, _, ?_, h1, Nat.le_refl _, h2, h3⟩
    have hzr := (zeroT_ok hz w φ).1
    obtain ⟨_, _, _, _, _, _⟩ := r
    cases hr
    simp [execOp, Instr.alloc, newVar, newRow, hzr, conc_cells, conc, upd_at]
  · cases h

theorem op_makeMap {t : TypeId} (h : evOp P env (.makeMap t none) s = .ok v s') : OpOk P s s' env (.makeMap t none) v := by
  simp only [evOp] at h
  rw [newBlk_eq] at h
  cases h
  refine opOk_made _ (Quiet.refl s) _ _ (fun D hD => hD) (fun D _ hi _ => by intro x hx; cases hx) (fun φ w ρ r hr _ _ _ hin hρ => ?_)
  refine ⟨⟨w.heap.size, 0⟩, w.alloc (.map #[] 0), ?_, ?_, Nat.le_refl _, fun r hr => heap_alloc_old w _ hr, by simp, rfl, rfl⟩
  · obtain ⟨_, _, _, _, _, _⟩ := r
    cases hr
    simp [execOp, Instr.makeMap, conc, upd_at]
  · unfold Holds
    simp only [upd_at]
    exact ⟨#[], 0, heap_alloc_new w _, rfl⟩

theorem op_load {t : TypeId} {x : Operand} (h : evOp P env (.load t x) s = .ok v s') : OpOk P s s' env (.load t x) v := by
  have mx : x ∈ (Op.load t x).operands.toList := by simp [Op.operands]
  simp only [evOp] at h
  split at h
  · rename_i b off hx
    unfold loadT at h
    split at h
    · rename_i ha
      obtain ⟨sy, l, t', q, vs, s1, hg, hq, hpre, h⟩ := loadN_ok h
      cases h
      refine opOk_quiet _ hq (fun D hp _ hR => ?_) (fun φ w ρ r hr hp hf hρ => ?_)
      · obtain ⟨h1, h2⟩ := hpre hp
        unfold AV.All
        exact allL_of_get (hR b _ rfl hg) (fun i hi => h2 i (by omega))
      · obtain ⟨h1, h2⟩ := hpre hp
        have hx' := hρ x mx _ hx
        have hl := run_loadN (P := P) (hf.holds b _ rfl hg) (off := off) (vs := vs) (fun i hi => h2 i (by omega))
        obtain ⟨h3, h4⟩ := aggT_ok ha w
        rw [h1] at hl
        obtain ⟨_, _, _, _, _, _⟩ := r
        cases hr
        simp only [execOp, Instr.loadAt]
        rw [hx']
        simp [conc, Instr.sureAddr, loadVar, h3, h4, hl]
    · rename_i ha
      obtain ⟨sy, l, t', q, vs, s1, hg, hq, hpre, h⟩ := loadN_ok h
      split at h
      · rename_i u
        cases h
        refine opOk_quiet _ hq (fun D hp _ hR => ?_) (fun φ w ρ r hr hp hf hρ => ?_)
        · obtain ⟨h1, h2⟩ := hpre hp
          have := h2 0 (by omega)
          simp at this
          exact allL_get (hR b _ rfl hg) this
        · obtain ⟨h1, h2⟩ := hpre hp
          have hx' := hρ x mx _ hx
          have := h2 0 (by omega)
          simp at this
          have hl := (hf.holds b _ rfl hg).cell this
          obtain ⟨h3, h4⟩ := aggT_ok ha w
          obtain ⟨_, _, _, _, _, _⟩ := r
          cases hr
          simp only [execOp, Instr.loadAt]
          rw [hx']
          simp only [conc, Instr.sureAddr, loadVar]
          simp [h3, hl]
      · cases h
    · cases h
  · cases h

/-- Cells stored into a block. -/
theorem opOk_wrote {s1 : St} {b : Nat} {x old : AObj} (R : Nat → Prop) (hq : Quiet s s1 R) (hb : R b) (hg : s.get b = some old) (v : AV) (hv : ∀ D, v.All D)
    (hx : ∀ D : Nat → Prop, s1.pre → insO env o D → (∀ b y, R b → s.get b = some y → y.All D) → x.All D)
    (hrun : ∀ (φ : Phi) (w : World) (ρ : Operand → Value) (r : Oper), r.op = o → s1.pre → Fits s R φ w → RdO φ env ρ o →
      ∃ (w' : World) (nx : Next), (execOp ρ r).run P w = .ok nx w' ∧ nextV nx = some (conc φ v) ∧ Holds φ b x w' ∧
        (∀ r, r < w.heap.size → r ≠ (φ b).blk → w'.heap[r]? = w.heap[r]?) ∧ Grew w w') : OpOk P s (s1.wrote b x) env o v := by
  refine ⟨_, _, hq.wrote_sp hb hg (x := x), ?_, ?_⟩
  · intro D hp hD hin hR
    refine ⟨hv D, fun c y hc hgc => ?_⟩
    subst hc
    rw [get_wrote hgc]
    exact hx D hp hin hR
  · intro φ w ρ r hr hp hf _ hin hρ
    obtain ⟨w', nx, h1, h2, h3, h4, h5⟩ := hrun φ w ρ r hr hp hf hρ
    exact ⟨φ, w', nx, h1, h2, hq.wrote_moves hg h3 h4 h5⟩

theorem allL_take {D : Nat → Prop} {l : List AV} (h : AllL D l) (n : Nat) : AllL D (l.take n) := allL_iff.2 fun v hv => allL_iff.1 h v (List.mem_of_mem_take hv)
theorem allL_drop {D : Nat → Prop} {l : List AV} (h : AllL D l) (n : Nat) : AllL D (l.drop n) := allL_iff.2 fun v hv => allL_iff.1 h v (List.mem_of_mem_drop hv)

theorem op_store {t : TypeId} {x y : Operand} (h : evOp P env (.store t x y) s = .ok v s') : OpOk P s s' env (.store t x y) v := by
  have mx : x ∈ (Op.store t x y).operands.toList := by simp [Op.operands]
  have my : y ∈ (Op.store t x y).operands.toList := by simp [Op.operands]
  simp only [evOp] at h
  split at h
  · rename_i b off u hx hy
    split at h
    · rename_i hsz h1
      have hsz' := Nat.eq_of_beq_eq_true hsz
      have h1' := Nat.le_of_ble_eq_true h1
      rw [lenL_eq] at hsz'
      obtain ⟨sy, l, t', q, s1, hg, hq, hfl, hlen, rfl, l', rfl, hl'⟩ := storeN_ok h (by intro e; rw [e] at hsz'; simp at hsz'; omega)
      refine opOk_wrote _ hq rfl hg _ (fun D => trivial) (fun D hp hin hR => ?_) (fun φ w ρ r hr hp hf hρ => ?_)
      · rw [hl' hp]
        have ho := hR b _ rfl hg
        exact allL_append.2 ⟨allL_append.2 ⟨allL_take ho _, cells_all (hin y my _ hy)⟩, allL_drop ho _⟩
      · rw [hl' hp]
        have hx' := hρ x mx _ hx
        have hy' := hρ y my _ hy
        obtain ⟨w', h2, h3, h4, h5⟩ := run_storeN (P := P) (hf.holds b _ rfl hg) hfl (hlen hp)
        refine ⟨w', .skip, ?_, rfl, h3, h4, Nat.le_of_eq h5.1.symm, h5.2⟩
        have hs := run_sizeT (P := P) (t := t) (by omega) w
        obtain ⟨_, _, _, _, _, _⟩ := r
        cases hr
        simp only [execOp, Instr.storeAt]
        rw [hx', hy']
        simp [conc, Instr.sureAddr, storeVar, hs, conc_cells, concL_length, hsz', h2]
    · cases h
  · cases h
end Ev
end Go.Proofs.YtpkfimijnkkbjaaGreat

namespace Go.Proofs.YtpkfimijnkkbjaaGreat
namespace Ev

variable {P : Program} {s s' : St} {env : Env} {o : Op} {v : AV}

theorem foldl_lay : ∀ (vs : List Value) (off k : Nat) (cells : Array Value), off + k + vs.length ≤ cells.size →
    (vs.zipIdx k).foldl (fun cs (p : Value × Nat) => cs.setIfInBounds (off + p.2) p.1) cells = (cells.toList.take (off + k) ++ vs ++ cells.toList.drop (off + k + vs.length)).toArray
  | [], off, k, cells, _ => by simp
  | v :: vs, off, k, cells, h => by
    simp only [List.zipIdx_cons, List.foldl_cons]
    have hlt : off + k < cells.size := by simp at h; omega
    rw [foldl_lay vs off (k + 1) _ (by simp at h ⊢; omega)]
    apply Array.ext'
    simp only [Array.toList_setIfInBounds]
    rw [List.set_eq_take_append_cons_drop, if_pos (by simpa using hlt)]
    have hl : (cells.toList.take (off + k)).length = off + k := by simp; omega
    rw [List.take_append, hl]
    rw [List.drop_append, hl]
    simp [show off + (k + 1) - (off + k) = 1 by omega, show off + (k + 1) + vs.length - (off + k) = vs.length + 1 by omega]
    rw [List.take_take, Nat.min_eq_right (by omega), List.drop_eq_nil_of_le (by simp; omega)]
    simp
    omega
theorem fillL_ok (φ : Phi) (place place' : Nat → Option (Nat × Nat)) (hp : ∀ i q, place i = some q → place' i = some q) : ∀ (ps : List (Nat × AV)) (c c' : List AV), fillL place c ps = some c' →
    Instr.fill place' (concL φ c).toArray (ps.map fun p => (p.1, conc φ p.2)) = some (concL φ c').toArray
  | [], c, c', h => by simp [fillL] at h; subst h; simp [Instr.fill]
  | (i, u) :: ps, c, c', h => by
    simp only [fillL] at h
    split at h
    · cases h
    · rename_i off size hpl
      split at h
      · cases h
      · cases h
      · rename_i hsz h1
        have hsz' := Nat.eq_of_beq_eq_true hsz
        have h1' := Nat.le_of_ble_eq_true h1
        rw [lenL_eq] at hsz'
        split at h
        · cases h
        · rename_i d hl
          have ih := fillL_ok φ place place' hp ps d c' h
          simp only [List.map_cons, Instr.fill]
          rw [hp i _ hpl]
          have hcs : (conc φ u).cells = (concL φ u.cells).toArray := conc_cells φ u
          obtain ⟨h2, h3⟩ := layL_ok _ _ _ _ hl (by intro e; rw [e] at hsz'; simp at hsz'; omega)
          subst h3
          have hf := foldl_lay (concL φ u.cells) off 0 (concL φ c).toArray (by simp [concL_length]; omega)
          have hcond : ((concL φ u.cells).length ≠ size || decide (off + (concL φ u.cells).length > (concL φ c).length)) = false := by
            simp [concL_length, hsz']; omega
          simp only [hcs, List.size_toArray, hcond]
          have hz : (concL φ u.cells).toArray.zipIdx.foldl (fun cs (x : Value × Nat) => cs.setIfInBounds (off + x.2) x.1) (concL φ c).toArray =
              ((concL φ u.cells).zipIdx 0).foldl (fun cs (p : Value × Nat) => cs.setIfInBounds (off + p.2) p.1) (concL φ c).toArray := by
            rw [← Array.foldl_toList]; simp
          have e : (concL φ (c.take off ++ u.cells ++ c.drop (off + u.cells.length))).toArray = ((concL φ c).toArray.toList.take (off + 0) ++ concL φ u.cells ++ (concL φ c).toArray.toList.drop (off + 0 + (concL φ u.cells).length)).toArray := by
            simp [concL_eq]
          rw [e] at ih
          rw [← hf, ← hz] at ih
          exact ih
theorem fillL_all {D : Nat → Prop} (place : Nat → Option (Nat × Nat)) : ∀ (ps : List (Nat × AV)) (c c' : List AV), fillL place c ps = some c' → AllL D c → (∀ p ∈ ps, p.2.All D) → AllL D c'
  | [], c, c', h, hc, _ => by simp [fillL] at h; subst h; exact hc
  | (i, u) :: ps, c, c', h, hc, hps => by
    simp only [fillL] at h
    split at h
    · cases h
    · rename_i off size hpl
      split at h
      · cases h
      · cases h
      · rename_i hsz h1
        have hsz' := Nat.eq_of_beq_eq_true hsz
        have h1' := Nat.le_of_ble_eq_true h1
        rw [lenL_eq] at hsz'
        split at h
        · cases h
        · rename_i d hl
          obtain ⟨h2, h3⟩ := layL_ok _ _ _ _ hl (by intro e; rw [e] at hsz'; simp at hsz'; omega)
          subst h3
          refine fillL_all place ps _ c' h ?_ (fun p hp => hps p (by simp [hp]))
          exact allL_append.2 ⟨allL_append.2 ⟨allL_take hc _, cells_all (hps (i, u) (by simp))⟩, allL_drop hc _⟩

theorem evParts_ok {φ : Phi} {ρ : Operand → Value} : ∀ {l : List (Nat × Operand)} {r : List (Nat × AV)}, evParts env l = some r → (∀ p ∈ l, ∀ a, evA env p.2 = some a → ρ p.2 = conc φ a) →
    l.map (fun p => (p.1, ρ p.2)) = r.map (fun p => (p.1, conc φ p.2))
  | [], r, h, _ => by cases h; rfl
  | (i, x) :: l, r, h, hρ => by
    simp only [evParts] at h
    cases hx : evA env x with
    | none => rw [hx] at h; cases h
    | some a =>
      rw [hx] at h
      cases hl : evParts env l with
      | none => rw [hl] at h; cases h
      | some q =>
        rw [hl] at h
        cases h
        simp only [List.map_cons, hρ (i, x) (by simp) a hx, evParts_ok hl (fun y hy => hρ y (by simp [hy]))]
theorem evParts_all {D : Nat → Prop} : ∀ {l : List (Nat × Operand)} {r : List (Nat × AV)}, evParts env l = some r → (∀ p ∈ l, ∀ a, evA env p.2 = some a → a.All D) → ∀ p ∈ r, p.2.All D
  | [], r, h, _ => by cases h; intro p hp; cases hp
  | (i, x) :: l, r, h, hρ => by
    simp only [evParts] at h
    cases hx : evA env x with
    | none => rw [hx] at h; cases h
    | some a =>
      rw [hx] at h
      cases hl : evParts env l with
      | none => rw [hl] at h; cases h
      | some q =>
        rw [hl] at h
        cases h
        intro p hp
        rcases List.mem_cons.1 hp with rfl | hp
        · exact hρ (i, x) (by simp) a hx
        · exact evParts_all hl (fun y hy => hρ y (by simp [hy])) p hp

theorem info_size {t : TypeId} (h : (P.info? t).isSome = true) : (P.info? t).map (fun i => i.size) = some (sizeT P t) := by
  unfold sizeT
  cases hi : P.info? t with
  | none => rw [hi] at h; cases h
  | some i => rfl
theorem op_build {t : TypeId} {parts : Array (Nat × Operand)} (h : evOp P env (.build t parts) s = .ok v s') : OpOk P s s' env (.build t parts) v := by
  have mp : ∀ p ∈ parts.toList, p.2 ∈ (Op.build t parts).operands.toList := by
    intro p hp; simp [Op.operands]; exact ⟨p.1, by simpa using hp⟩
  simp only [evOp] at h
  split at h
  · rename_i z ps hz hps
    have hall := (zeroT_ok hz default (fun _ => ⟨0, 0⟩)).2.1
    have run : ∀ (c : List AV) (φ : Phi) (w : World) (ρ : Operand → Value) (r : Oper), r.op = .build t parts → RdO φ env ρ (.build t parts) → P.built t (ps.map fun p => (p.1, conc φ p.2)) = some (concL φ c).toArray →
        (execOp ρ r).run P w = .ok (.value (conc φ (.agg c))) w := by
      intro c φ w ρ r hr hρ hb
      have he := evParts_ok hps (fun p hp => hρ p.2 (mp p hp))
      obtain ⟨_, _, _, _, _, _⟩ := r
      cases hr
      simp only [execOp]
      have hrun := run_build (P := P) w t (parts.map fun (i, x) => (i, ρ x)) (concL φ c).toArray (by
        rw [← hb, ← he]; simp)
      simp [hrun, conc]
    split at h
    · rename_i fs hu
      split at h
      · rename_i c hi hf
        cases h
        refine opOk_pure (fun D hin => ?_) (fun φ w ρ r hr hρ => run c φ w ρ r hr hρ ?_)
        · unfold AV.All
          exact fillL_all _ _ _ _ hf (cells_all (hall D)) (evParts_all hps fun p hp => hin p.2 (mp p hp))
        · obtain ⟨_, _, i, zz, hi', hzz, hcz⟩ := zeroT_ok hz w φ
          have hm : fs.toList.mapM (fun f => (P.info? f.type).map fun i => (f.offset, i.size)) = some (fs.toList.map fun f => (f.offset, sizeT P f.type)) := by
            have : ∀ (l : List Field), l.all (fun f => (P.info? f.type).isSome) = true → l.mapM (fun f => (P.info? f.type).map fun i => (f.offset, i.size)) = some (l.map fun f => (f.offset, sizeT P f.type)) := by
              intro l
              induction l with
              | nil => intro _; simp
              | cons f l ih =>
                intro hl
                simp only [List.all_cons, Bool.and_eq_true] at hl
                obtain ⟨j, hj⟩ := Option.isSome_iff_exists.1 hl.1
                have := ih hl.2
                simp [this, hj, sizeT]
            exact this _ hi
          simp only [Program.built, hi', hu, hzz, hm]
          have := fillL_ok φ _ ((fs.toList.map fun f => (f.offset, sizeT P f.type)).toArray[·]?) (fun i q hq => by
            split at hq
            · rename_i f hfi
              cases hq
              simp [hfi]
            · cases hq) ps z.cells c hf
          rw [← hcz, conc_cells]
          exact this
      · cases h
    · rename_i n e hu
      split at h
      · rename_i c hi hf
        cases h
        refine opOk_pure (fun D hin => ?_) (fun φ w ρ r hr hρ => run c φ w ρ r hr hρ ?_)
        · unfold AV.All
          exact fillL_all _ _ _ _ hf (cells_all (hall D)) (evParts_all hps fun p hp => hin p.2 (mp p hp))
        · obtain ⟨_, _, i, zz, hi', hzz, hcz⟩ := zeroT_ok hz w φ
          have h1 := Nat.le_of_ble_eq_true hi
          obtain ⟨ie, hie, hse⟩ := sizeT_ok (P := P) (t := e) (by omega)
          simp only [Program.built, hi', hu, hzz, hie]
          have := fillL_ok φ _ (fun i => some (i * ie.size, ie.size)) (fun i q hq => by rw [hse]; exact hq) ps z.cells c hf
          rw [← hcz, conc_cells]
          exact this
      · cases h
    · cases h
  · cases h
end Ev
end Go.Proofs.YtpkfimijnkkbjaaGreat
