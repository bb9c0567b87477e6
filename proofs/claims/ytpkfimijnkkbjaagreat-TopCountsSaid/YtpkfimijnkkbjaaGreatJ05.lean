/-
  Loads and stores of the reckoner, in a memory.
  Each operation of the reckoner does in a memory what it reckons: those that leave the memory alone.
-/
import Derived.Test.YtpkfimijnkkbjaaGreatJ04
import Derived.Laws.Tables
import Derived.Laws.Cells
import Derived.Laws.Entries
import Derived.Laws.IdiomElems
import Derived.WalkKit
set_option linter.unusedVariables false
namespace Go.Proofs.YtpkfimijnkkbjaaGreat
namespace Ev

theorem getL_eq : ∀ (l : List AV) (n : Nat), getL l n = l[n]?
  | [], _ => by simp [getL]
  | _ :: _, 0 => by simp [getL]
  | _ :: l, n + 1 => by simp [getL, getL_eq l n]
theorem lenL_eq : ∀ l : List AV, lenL l = l.length
  | [] => rfl
  | _ :: l => by simp [lenL, lenL_eq l]
theorem cutL_ok : ∀ (l : List AV) (o n : Nat) (vs : List AV), cutL l o n = some vs → vs.length = n ∧ ∀ i, i < n → l[o + i]? = vs[i]?
  | l, o, 0, vs, h => by
    have : vs = [] := by cases l <;> cases o <;> simp [cutL] at h <;> first | exact h | exact h.symm
    subst this; exact ⟨rfl, fun i hi => absurd hi (by omega)⟩
  | [], o, n + 1, vs, h => by cases o <;> simp [cutL] at h
  | a :: l, 0, n + 1, vs, h => by
    simp only [cutL] at h
    cases hc : cutL l 0 n with
    | none => rw [hc] at h; cases h
    | some r =>
      rw [hc] at h
      cases h
      obtain ⟨h1, h2⟩ := cutL_ok l 0 n r hc
      refine ⟨by simp [h1], fun i hi => ?_⟩
      cases i with
      | zero => simp
      | succ i => have := h2 i (by omega); simp at this ⊢; exact this
  | _ :: l, o + 1, n + 1, vs, h => by
    simp only [cutL] at h
    obtain ⟨h1, h2⟩ := cutL_ok l o (n + 1) vs h
    refine ⟨h1, fun i hi => ?_⟩
    have := h2 i hi
    rw [show o + 1 + i = (o + i) + 1 by omega]
    simpa using this
theorem layL_ok : ∀ (l : List AV) (o : Nat) (vs l' : List AV), layL l o vs = some l' → vs ≠ [] → o + vs.length ≤ l.length ∧ l' = l.take o ++ vs ++ l.drop (o + vs.length)
  | l, o, [], l', _, h0 => absurd rfl h0
  | [], o, v :: vs, l', h, _ => by cases o <;> simp [layL] at h
  | a :: l, 0, v :: vs, l', h, _ => by
    simp only [layL] at h
    cases hc : layL l 0 vs with
    | none => rw [hc] at h; cases h
    | some r =>
      rw [hc] at h
      cases h
      by_cases hv : vs = []
      · subst hv
        have : r = l := by cases l <;> simp [layL] at hc <;> simp [hc]
        subst this; simp
      · obtain ⟨h1, h2⟩ := layL_ok l 0 vs r hc hv
        subst h2
        simp at h1 ⊢; omega
  | a :: l, o + 1, v :: vs, l', h, _ => by
    simp only [layL] at h
    cases hc : layL l o (v :: vs) with
    | none => rw [hc] at h; cases h
    | some r =>
      rw [hc] at h
      cases h
      obtain ⟨h1, h2⟩ := layL_ok l o (v :: vs) r hc (by simp)
      subst h2
      refine ⟨by simp at h1 ⊢; omega, ?_⟩
      rw [show o + 1 + (v :: vs).length = (o + (v :: vs).length) + 1 by omega]
      simp
theorem layL_nil (l : List AV) (o : Nat) (l' : List AV) (h : layL l o [] = some l') : l' = l := by
  cases l <;> cases o <;> simp [layL] at h <;> first | exact h | exact h.symm
theorem allL_get {D : Nat → Prop} {l : List AV} (h : AllL D l) {i : Nat} {v : AV} (hv : l[i]? = some v) : v.All D := allL_iff.1 h v (List.mem_of_getElem? hv)
theorem allL_of_get {D : Nat → Prop} {l vs : List AV} {o : Nat} (h : AllL D l) (hv : ∀ i, i < vs.length → l[o + i]? = vs[i]?) : AllL D vs := by
  refine allL_iff.2 fun v hm => ?_
  obtain ⟨i, hi⟩ := List.mem_iff_getElem?.1 hm
  have hlt := (List.getElem?_eq_some_iff.1 hi).1
  exact allL_get h ((hv i hlt).trans hi)

theorem flatL_ok : ∀ {l : List AV}, flatL l = true → ∀ v ∈ l, v.flat = true
  | [], _, _, h => by cases h
  | v :: l, h, u, hu => by
    simp only [flatL] at h
    cases hv : v.flat with
    | false => rw [hv] at h; cases h
    | true =>
      rw [hv] at h
      rcases List.mem_cons.1 hu with rfl | hu
      · exact hv
      · exact flatL_ok h u hu
theorem flat_one {φ : Phi} {v : AV} (h : v.flat = true) : (conc φ v).oneCell' = true := by
  cases v with
  | opq u => unfold conc; split <;> first | assumption | rfl
  | _ => first | rfl | cases h
theorem flat_cells {v : AV} (h : v.flat = true) : v.cells = [v] := by cases v <;> first | rfl | cases h
theorem flatL_one {φ : Phi} {l : List AV} (h : flatL l = true) : ∀ u ∈ concL φ l, u.oneCell' = true := by
  intro u hu
  rw [concL_eq] at hu
  obtain ⟨v, hv, rfl⟩ := List.mem_map.1 hu
  exact flat_one (flatL_ok h v hv)
theorem conc_cells (φ : Phi) (v : AV) : (conc φ v).cells = (concL φ v.cells).toArray := by
  cases v with
  | opq u =>
    have : (conc φ (.opq u)).oneCell' = true := flat_one rfl
    simp only [AV.cells, concL]
    generalize conc φ (.opq u) = x at *
    cases x <;> first | rfl | cases this
  | _ => simp [conc, AV.cells, Value.cells, concL]
theorem cells_all {D : Nat → Prop} {v : AV} (h : v.All D) : AllL D v.cells := by
  cases v <;> first | exact h | exact ⟨h, trivial⟩

theorem constS_ok {v : Value} {a : AV} (h : constS v = some a) (φ : Phi) : conc φ a = v ∧ ∀ D, a.All D := by
  unfold constS at h
  split at h <;> first | (cases h; exact ⟨rfl, fun D => trivial⟩) | cases h
theorem constL_ok : ∀ {l : List Value} {r : List AV}, constL l = some r → ∀ φ, concL φ r = l ∧ ∀ D, AllL D r
  | [], r, h, φ => by cases h; exact ⟨rfl, fun D => trivial⟩
  | v :: l, r, h, φ => by
    simp only [constL] at h
    cases hv : constS v with
    | none => rw [hv] at h; cases h
    | some a =>
      rw [hv] at h
      cases hl : constL l with
      | none => rw [hl] at h; cases h
      | some q =>
        rw [hl] at h
        cases h
        have h1 := constS_ok hv φ
        have h2 := constL_ok hl φ
        exact ⟨by unfold concL; rw [h1.1, h2.1], fun D => ⟨h1.2 D, h2.2 D⟩⟩
theorem constA_ok {v : Value} {a : AV} (h : constA v = some a) (φ : Phi) : conc φ a = v ∧ ∀ D, a.All D := by
  unfold constA at h
  split at h
  · rename_i cs
    cases hl : constL cs.toList with
    | none => rw [hl] at h; cases h
    | some l =>
      rw [hl] at h
      cases h
      have := constL_ok hl φ
      exact ⟨by unfold conc; rw [this.1], fun D => this.2 D⟩
  · exact constS_ok h φ

section
variable {φ : Phi} {w : World} {b : Nat} {sy : Bool} {l : List AV} {t : TypeId} {q : Option Nat}

theorem Holds.row (h : Holds φ b (.row sy l t q) w) : ∃ rest : Array Value, w.heap[(φ b).blk]? = some (.cells ((concL φ l).toArray ++ rest) t (0, 0)) ∧ (q = none → rest = #[]) := by
  cases q with
  | none => exact ⟨#[], by simpa [Holds] using h, fun _ => rfl⟩
  | some sz => obtain ⟨rest, n, h1, _⟩ := h; exact ⟨rest, h1, fun e => by cases e⟩
theorem Holds.cell (h : Holds φ b (.row sy l t q) w) {i : Nat} {v : AV} (hv : l[i]? = some v) : w.cell? ⟨(φ b).blk, i, none⟩ = some (conc φ v) := by
  obtain ⟨rest, hr, _⟩ := h.row
  have hlt := (List.getElem?_eq_some_iff.1 hv).1
  have h2 : ((concL φ l).toArray ++ rest)[i]? = some (conc φ v) := by
    rw [Array.getElem?_append_left (by simpa [concL_length] using hlt)]
    simp [concL_get, hv]
  simp only [World.cell?, hr]
  simpa using h2
theorem Holds.cells (h : Holds φ b (.row sy l t q) w) {off : Nat} {vs : List AV} (hv : ∀ i, i < vs.length → l[off + i]? = vs[i]?) :
    ∀ j u, (concL φ vs)[j]? = some u → w.cell? ((⟨(φ b).blk, off, none⟩ : Addr).add j) = some u := by
  intro j u hu
  rw [concL_get] at hu
  cases hj : vs[j]? with
  | none => rw [hj] at hu; cases hu
  | some v =>
    rw [hj] at hu
    cases hu
    have hlt := (List.getElem?_eq_some_iff.1 hj).1
    have := h.cell ((hv j hlt).trans hj)
    rw [show (⟨(φ b).blk, off, none⟩ : Addr).add j = ⟨(φ b).blk, off + j, none⟩ by unfold Addr.add; split <;> simp_all]
    exact this

theorem run_loadN {P : Program} (h : Holds φ b (.row sy l t q) w) {off : Nat} {vs : List AV} (hv : ∀ i, i < vs.length → l[off + i]? = vs[i]?) :
    (loadCells ⟨(φ b).blk, off, none⟩ vs.length).run P w = .ok (concL φ vs).toArray w := by
  have := run_loadCells_list (P := P) w ⟨(φ b).blk, off, none⟩ (concL φ vs) (h.cells hv)
  rwa [concL_length] at this
theorem run_load1 {P : Program} (h : Holds φ b (.row sy l t q) w) {off : Nat} {v : AV} (hv : l[off]? = some v) :
    (load ⟨(φ b).blk, off, none⟩).run P w = .ok (conc φ v) w := by
  have hc := h.cell hv
  simp [load, Sem.run, hc]
/-- Cells stored: what the memory is then. -/
theorem run_storeN {P : Program} (h : Holds φ b (.row sy l t q) w) {off : Nat} {vs : List AV} (hf : flatL vs = true) (hlen : off + vs.length ≤ l.length) :
    ∃ w', (storeCells ⟨(φ b).blk, off, none⟩ (concL φ vs)).run P w = .ok () w' ∧ Holds φ b (.row sy (l.take off ++ vs ++ l.drop (off + vs.length)) t q) w' ∧
      (∀ r, r < w.heap.size → r ≠ (φ b).blk → w'.heap[r]? = w.heap[r]?) ∧ (w'.heap.size = w.heap.size ∧ w'.os = w.os ∧ w'.output = w.output) := by
  obtain ⟨rest, hr, hq⟩ := h.row
  have h1 := run_storeCells_at P (φ b).blk off t (concL φ vs) 0 ((concL φ l).toArray ++ rest) w hr (by simp [concL_length]; omega) (flatL_one hf)
  simp only [Nat.add_zero] at h1
  have e : ((((concL φ l).toArray ++ rest).toList.take off ++ concL φ vs ++ ((concL φ l).toArray ++ rest).toList.drop (off + (concL φ vs).length)).toArray) =
      (concL φ (l.take off ++ vs ++ l.drop (off + vs.length))).toArray ++ rest := by
    apply Array.ext'
    simp only [Array.toList_append, concL_append, concL_length]
    rw [List.take_append_of_le_length (by simp [concL_length]; omega), List.drop_append_of_le_length (by simp [concL_length]; omega)]
    simp [concL_eq]
  rw [e] at h1
  refine ⟨_, h1, ?_, ?_, ?_⟩
  · have hs := setRow_heap w (φ b).blk _ ((concL φ (l.take off ++ vs ++ l.drop (off + vs.length))).toArray ++ rest) t (0, 0) hr
    cases q with
    | none =>
      have := hq rfl
      subst this
      unfold Holds
      simpa using hs
    | some sz =>
      obtain ⟨rest', n, hr', h2, h3, h4⟩ := h
      rw [hr] at hr'
      have he : (concL φ l).toArray ++ rest = (concL φ l).toArray ++ rest' := by injection hr' with e; injection e
      have he2 : rest = rest' := by
        have := congrArg (fun a : Array Value => a.toList.drop (concL φ l).length) he
        simp at this
        exact this
      subst he2
      refine ⟨rest, n, hs, h2, ?_, h4⟩
      rw [← h3]
      simp
      omega
  · intro r _ hne
    unfold World.setRow
    simp [Array.getElem?_modify, Ne.symm hne]
  · unfold World.setRow; simp
end

/-- What a load comes to. -/
theorem loadN_ok {α : Type} {s s' : St} {b off n : Nat} {k : List AV → St → Res α} {a : α} (h : loadN s b off n k = .ok a s') :
    ∃ sy l t q vs s1, s.get b = some (.row sy l t q) ∧ Quiet s s1 (fun c => c = b) ∧ (s1.pre → vs.length = n ∧ ∀ i, i < n → l[off + i]? = vs[i]?) ∧ k vs s1 = .ok a s' := by
  unfold loadN at h
  obtain ⟨hp, nx, r, w, p, o⟩ := s
  obtain ⟨x, hg, h2⟩ := rdBlk_ok h
  clear h
  rcases x with ⟨_ | _, l, t, q⟩ | ⟨_, l⟩
  · simp only at h2
    cases hc : cutL l off n with
    | none => rw [hc] at h2; cases h2
    | some vs =>
      rw [hc] at h2
      exact ⟨_, _, _, _, vs, _, hg, Quiet.seen _ b, fun _ => cutL_ok l off n vs hc, h2⟩
  · simp only [St.seen] at h2
    split at h2
    · rename_i hp nx r w p vs o he
      injection he with e1 e2 e3 e4 e5 e6
      subst e1 e2 e3 e4 e5 e6
      refine ⟨_, _, _, _, vs, _, hg, ?_, ?_, h2⟩
      · exact ⟨rfl, rfl, fun c hc => by subst hc; exact mark_self _ _, fun c hc => mark_old _ _ _ hc, fun _ hc => hc, fun hc => hc.1⟩
      · exact fun hc => hc.2
    · cases h2
  · cases h2
theorem storeN_ok {α : Type} {s s' : St} {b off : Nat} {vs : List AV} {a a' : α} (h : storeN s b off vs a = .ok a' s') (h0 : vs ≠ []) :
    ∃ sy l t q s1, s.get b = some (.row sy l t q) ∧ Quiet s s1 (fun c => c = b) ∧ flatL vs = true ∧ (s1.pre → off + vs.length ≤ l.length) ∧ a' = a ∧
      ∃ l', s' = s1.wrote b (.row sy l' t q) ∧ (s1.pre → l' = l.take off ++ vs ++ l.drop (off + vs.length)) := by
  unfold storeN at h
  obtain ⟨x, hg, h⟩ := rdBlk_ok h
  rcases x with ⟨_ | _, l, t, q⟩ | ⟨_, l⟩
  · simp only at h
    split at h
    · rename_i l' hf hl
      rw [wrBlk_eq] at h
      cases h
      obtain ⟨h1, h2⟩ := layL_ok l off vs l' hl h0
      subst h2
      exact ⟨_, _, _, _, s.seen b, hg, Quiet.seen s b, hf, fun _ => h1, rfl, _, rfl, fun _ => rfl⟩
    · cases h
  · simp only at h
    split at h
    · rename_i v hf
      rw [wrBlk_eq] at h
      cases h
      refine ⟨_, _, _, _, ask (s.seen b) (off < l.length), hg, ?_, hf, ?_, rfl, _, rfl, ?_⟩
      · rw [ask_eq]; exact ⟨rfl, rfl, fun c hc => by subst hc; exact mark_self _ _, fun c hc => mark_old _ _ _ hc, fun _ hc => hc, fun hc => hc.1⟩
      · rw [ask_eq]; intro hc; have := hc.2; simp; omega
      · rw [ask_eq]; intro hc
        have hl : off < l.length := hc.2
        rw [List.set_eq_take_append_cons_drop, if_pos hl]
        simp
    · rw [wrBlk_eq] at h
      cases h
      refine ⟨_, _, _, _, _, hg, ?_, (by assumption), ?_, rfl, _, rfl, ?_⟩
      · rw [ask_eq]; exact ⟨rfl, rfl, fun c hc => by subst hc; exact mark_self _ _, fun c hc => mark_old _ _ _ hc, fun _ hc => hc, fun hc => hc.1⟩
      · rw [ask_eq]; intro hc; exact hc.2
      · intro _; rfl
    · cases h
  · cases h
end Ev
end Go.Proofs.YtpkfimijnkkbjaaGreat

namespace Go.Proofs.YtpkfimijnkkbjaaGreat
namespace Ev

def insO (env : Env) (o : Op) (D : Nat → Prop) : Prop := ∀ x ∈ o.operands.toList, ∀ a, evA env x = some a → a.All D
def RdO (φ : Phi) (env : Env) (ρ : Operand → Value) (o : Op) : Prop := ∀ x ∈ o.operands.toList, ∀ a, evA env x = some a → ρ x = conc φ a
def nextV : Next → Option Value
  | .value v => some v
  | .skip => some undef
  | _ => none

/-- What an operation reckons, it does. -/
def OpOk (P : Program) (s s' : St) (env : Env) (o : Op) (v : AV) : Prop :=
  ∃ R W : Nat → Prop, Sp s s' R W ∧ Ids s s' R W (insO env o) (fun D => v.All D) ∧
    ∀ (φ : Phi) (w : World) (ρ : Operand → Value) (r : Oper), r.op = o → s'.pre → Fits s R φ w → Old s R → insO env o (· < s.next) → RdO φ env ρ o →
      ∃ φ' w' nx, (execOp ρ r).run P w = .ok nx w' ∧ nextV nx = some (conc φ' v) ∧ Moves s s' W φ φ' w w'

variable {P : Program} {s s' : St} {env : Env} {o : Op} {v : AV}

theorem opOk_quiet (R : Nat → Prop) (hq : Quiet s s' R) (hid : ∀ D : Nat → Prop, s'.pre → insO env o D → (∀ b x, R b → s.get b = some x → x.All D) → v.All D)
    (hrun : ∀ (φ : Phi) (w : World) (ρ : Operand → Value) (r : Oper), r.op = o → s'.pre → Fits s R φ w → RdO φ env ρ o → (execOp ρ r).run P w = .ok (.value (conc φ v)) w) : OpOk P s s' env o v :=
  ⟨R, _, hq.sp, hq.ids hid, fun φ w ρ r hr hp hf _ _ hρ => ⟨φ, w, _, hrun φ w ρ r hr hp hf hρ, rfl, Moves.refl _ _ _ _⟩⟩
theorem opOk_pure (hid : ∀ D : Nat → Prop, insO env o D → v.All D)
    (hrun : ∀ (φ : Phi) (w : World) (ρ : Operand → Value) (r : Oper), r.op = o → RdO φ env ρ o → (execOp ρ r).run P w = .ok (.value (conc φ v)) w) : OpOk P s s env o v :=
  opOk_quiet _ (Quiet.refl s) (fun D _ hi _ => hid D hi) (fun φ w ρ r hr _ _ hρ => hrun φ w ρ r hr hρ)

theorem op_move {x : Operand} (h : evOp P env (.move x) s = .ok v s') : OpOk P s s' env (.move x) v := by
  simp only [evOp] at h
  cases hx : evA env x with
  | none => rw [hx] at h; cases h
  | some a =>
    rw [hx] at h
    cases h
    refine opOk_pure (fun D hi => hi x (by simp [Op.operands]) _ hx) (fun φ w ρ r hr hρ => ?_)
    have := hρ x (by simp [Op.operands]) _ hx
    obtain ⟨_, _, _, _, _, _⟩ := r
    cases hr
    simp [execOp, this]
theorem op_assign {x : Operand} (h : evOp P env (.assign x) s = .ok v s') : OpOk P s s' env (.assign x) v := by
  simp only [evOp] at h
  cases hx : evA env x with
  | none => rw [hx] at h; cases h
  | some a =>
    rw [hx] at h
    cases h
    refine opOk_pure (fun D hi => hi x (by simp [Op.operands]) _ hx) (fun φ w ρ r hr hρ => ?_)
    have := hρ x (by simp [Op.operands]) _ hx
    obtain ⟨_, _, _, _, _, _⟩ := r
    cases hr
    simp [execOp, this]

theorem op_pick {c x y : Operand} (h : evOp P env (.pick c x y) s = .ok v s') : OpOk P s s' env (.pick c x y) v := by
  have mc : c ∈ (Op.pick c x y).operands.toList := by simp [Op.operands]
  have mx : x ∈ (Op.pick c x y).operands.toList := by simp [Op.operands]
  have my : y ∈ (Op.pick c x y).operands.toList := by simp [Op.operands]
  have run : ∀ (ρ : Operand → Value) (r : Oper) (b : Bool) (w : World), r.op = .pick c x y → ρ c = .bool b → (execOp ρ r).run P w = .ok (.value (if b then ρ x else ρ y)) w := by
    intro ρ r b w hr hc
    obtain ⟨_, _, _, _, _, _⟩ := r
    cases hr
    cases b <;> simp [execOp, hc, asBool]
  simp only [evOp] at h
  split at h
  · rename_i hc
    split at h
    · rename_i a ha
      cases h
      refine opOk_pure (fun D hi => hi x mx _ ha) (fun φ w ρ r hr hρ => (run ρ r true w hr (hρ c mc _ hc)).trans ?_)
      simp [hρ x mx _ ha]
    · cases h
  · rename_i hc
    split at h
    · rename_i a ha
      cases h
      refine opOk_pure (fun D hi => hi y my _ ha) (fun φ w ρ r hr hρ => (run ρ r false w hr (hρ c mc _ hc)).trans ?_)
      simp [hρ y my _ ha]
    · cases h
  · rename_i q hc
    obtain ⟨hp, n, rd, wr, p, oo⟩ := s
    rcases oo with _ | ⟨_ | _, oo⟩
    · cases h
    · rename_i b
      cases b
      · simp only at h
        split at h
        · rename_i a ha
          cases h
          refine opOk_quiet (fun _ => False) ⟨rfl, rfl, fun _ h => h.elim, fun _ h => h, fun _ h => h, fun h => h.1⟩ (fun D _ hi _ => hi y my _ ha) (fun φ w ρ r hr hpre _ hρ => (run ρ r q w hr (hρ c mc _ hc)).trans ?_)
          have : q = false := hpre.2
          subst this
          simp [hρ y my _ ha]
        · cases h
      · simp only at h
        split at h
        · rename_i a ha
          cases h
          refine opOk_quiet (fun _ => False) ⟨rfl, rfl, fun _ h => h.elim, fun _ h => h, fun _ h => h, fun h => h.1⟩ (fun D _ hi _ => hi x mx _ ha) (fun φ w ρ r hr hpre _ hρ => (run ρ r q w hr (hρ c mc _ hc)).trans ?_)
          have : q = true := hpre.2
          subst this
          simp [hρ x mx _ ha]
        · cases h
    · cases h
  · cases h

theorem op_nilCheck {x : Operand} (h : evOp P env (.nilCheck x) s = .ok v s') : OpOk P s s' env (.nilCheck x) v := by
  have mx : x ∈ (Op.nilCheck x).operands.toList := by simp [Op.operands]
  simp only [evOp] at h
  split at h
  · rename_i b off hx
    cases h
    refine opOk_pure (fun D hi => hi x mx _ hx) (fun φ w ρ r hr hρ => ?_)
    have := hρ x mx _ hx
    obtain ⟨_, _, _, _, _, _⟩ := r
    cases hr
    simp [execOp, this, conc]
  · rename_i b off hx
    cases h
    refine opOk_pure (fun D hi => hi x mx _ hx) (fun φ w ρ r hr hρ => ?_)
    have := hρ x mx _ hx
    obtain ⟨_, _, _, _, _, _⟩ := r
    cases hr
    simp [execOp, this, conc]
  · rename_i b off c hx
    cases h
    refine opOk_pure (fun D hi => hi x mx _ hx) (fun φ w ρ r hr hρ => ?_)
    have := hρ x mx _ hx
    obtain ⟨_, _, _, _, _, _⟩ := r
    cases hr
    simp [execOp, this, conc]
  · cases h

theorem op_unOp {op : UnOp} {t : TypeId} {x : Operand} (h : evOp P env (.unOp op t x) s = .ok v s') : OpOk P s s' env (.unOp op t x) v := by
  have mx : x ∈ (Op.unOp op t x).operands.toList := by simp [Op.operands]
  simp only [evOp] at h
  split at h
  · rename_i b hx
    cases h
    refine opOk_pure (fun D hi => trivial) (fun φ w ρ r hr hρ => ?_)
    have := hρ x mx _ hx
    obtain ⟨_, _, _, _, _, _⟩ := r
    cases hr
    simp [execOp, this, conc, Op.unary]
  · rename_i b hx
    cases h
    refine opOk_pure (fun D hi => trivial) (fun φ w ρ r hr hρ => ?_)
    have := hρ x mx _ hx
    obtain ⟨_, _, _, _, _, _⟩ := r
    cases hr
    simp [execOp, this, conc, Op.unary]
  · cases h

theorem intT_ok {t : TypeId} {k : IntKind} (h : intT P t = some k) : P.underlying t = some (.int k) := by
  unfold intT at h; split at h
  · cases h; assumption
  · cases h
theorem op_convert {src dst : TypeId} {x : Operand} (h : evOp P env (.convert src dst x) s = .ok v s') : OpOk P s s' env (.convert src dst x) v := by
  have mx : x ∈ (Op.convert src dst x).operands.toList := by simp [Op.operands]
  have run : ∀ (ρ : Operand → Value) (r : Oper) (k j k' : IntKind) (n : Int) (w : World), r.op = .convert src dst x → P.underlying src = some (.int j) → P.underlying dst = some (.int k) → ρ x = .int k' n → (execOp ρ r).run P w = .ok (.value (.int k (k.wrap n))) w := by
    intro ρ r k j k' n w hr hs hd hx
    obtain ⟨_, _, _, _, _, _⟩ := r
    cases hr
    simp [execOp, hx, convert, run_underlying hs, run_underlying hd, Conv.intToInt]
  simp only [evOp] at h
  split at h
  · rename_i j k k' n hs hd hx
    cases h
    exact opOk_pure (fun D hi => trivial) (fun φ w ρ r hr hρ => run ρ r k j _ _ w hr (intT_ok hs) (intT_ok hd) (hρ x mx _ hx))
  · rename_i j k k' n hs hd hx
    cases h
    exact opOk_pure (fun D hi => trivial) (fun φ w ρ r hr hρ => run ρ r k j _ _ w hr (intT_ok hs) (intT_ok hd) (hρ x mx _ hx))
  · cases h

theorem op_makeInterface {t : TypeId} {x : Operand} (h : evOp P env (.makeInterface t x) s = .ok v s') : OpOk P s s' env (.makeInterface t x) v := by
  have mx : x ∈ (Op.makeInterface t x).operands.toList := by simp [Op.operands]
  simp only [evOp] at h
  split at h
  · cases h
  · rename_i d a hne ht hx
    cases h
    refine opOk_pure (fun D hi => by unfold AV.All; exact hi x mx _ hx) (fun φ w ρ r hr hρ => ?_)
    have := hρ x mx _ hx
    obtain ⟨_, _, _, _, _, _⟩ := r
    cases hr
    simp only [execOp]
    unfold Instr.makeInterface
    cases d <;> first | (simp [run_underlying ht, this, conc]; done) | exact absurd rfl (hne _)
  · cases h

theorem evAs_ok {φ : Phi} {ρ : Operand → Value} : ∀ {l : List Operand} {r : List AV}, evAs env l = some r → (∀ x ∈ l, ∀ a, evA env x = some a → ρ x = conc φ a) → l.map ρ = concL φ r
  | [], r, h, _ => by cases h; rfl
  | x :: l, r, h, hρ => by
    simp only [evAs] at h
    cases hx : evA env x with
    | none => rw [hx] at h; cases h
    | some a =>
      rw [hx] at h
      cases hl : evAs env l with
      | none => rw [hl] at h; cases h
      | some q =>
        rw [hl] at h
        cases h
        simp only [List.map_cons, concL, hρ x (by simp) a hx, evAs_ok hl (fun y hy => hρ y (by simp [hy]))]
theorem evAs_all {D : Nat → Prop} : ∀ {l : List Operand} {r : List AV}, evAs env l = some r → (∀ x ∈ l, ∀ a, evA env x = some a → a.All D) → AllL D r
  | [], r, h, _ => by cases h; trivial
  | x :: l, r, h, hρ => by
    simp only [evAs] at h
    cases hx : evA env x with
    | none => rw [hx] at h; cases h
    | some a =>
      rw [hx] at h
      cases hl : evAs env l with
      | none => rw [hl] at h; cases h
      | some q =>
        rw [hl] at h
        cases h
        exact ⟨hρ x (by simp) a hx, evAs_all hl (fun y hy => hρ y (by simp [hy]))⟩

theorem op_makeFunc {fn : Fn} {first captured : Array Operand} (h : evOp P env (.makeFunc fn first captured) s = .ok v s') : OpOk P s s' env (.makeFunc fn first captured) v := by
  simp only [evOp] at h
  split at h
  · rename_i f a b ha hb
    cases h
    refine opOk_pure (fun D hi => ?_) (fun φ w ρ r hr hρ => ?_)
    · exact ⟨evAs_all ha fun x hx => hi x (by simp [Op.operands]; exact .inl (by simpa using hx)), evAs_all hb fun x hx => hi x (by simp [Op.operands]; exact .inr (by simpa using hx))⟩
    · have h1 := evAs_ok ha (fun x hx => hρ x (by simp [Op.operands]; exact .inl (by simpa using hx)))
      have h2 := evAs_ok hb (fun x hx => hρ x (by simp [Op.operands]; exact .inr (by simpa using hx)))
      obtain ⟨_, _, _, _, _, _⟩ := r
      cases hr
      simp only [execOp, Instr.makeFunc, conc]
      rw [← h1, ← h2]
      simp only [← Array.toList_map, Array.toArray_toList]
      rfl
  · cases h

theorem op_extract {x : Operand} {i : Nat} (h : evOp P env (.extract x i) s = .ok v s') : OpOk P s s' env (.extract x i) v := by
  have mx : x ∈ (Op.extract x i).operands.toList := by simp [Op.operands]
  simp only [evOp] at h
  split at h
  · rename_i l hx
    rw [getL_eq] at h
    split at h
    · rename_i a ha
      cases h
      refine opOk_pure (fun D hi => allL_get (hi x mx _ hx) ha) (fun φ w ρ r hr hρ => ?_)
      have := hρ x mx _ hx
      obtain ⟨_, _, _, _, _, _⟩ := r
      cases hr
      have hg : (concL φ l)[i]? = some (conc φ v) := by rw [concL_get, ha]; rfl
      simp [execOp, Instr.extract, this, conc, hg]
    · cases h
  · cases h
end Ev
end Go.Proofs.YtpkfimijnkkbjaaGreat
