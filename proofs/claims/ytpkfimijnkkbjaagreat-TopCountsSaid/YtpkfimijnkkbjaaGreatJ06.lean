/-
  Each operation of the reckoner does in a memory what it reckons: addresses, numbers, parts.
  Each operation of the reckoner does in a memory what it reckons: sums and comparisons.
-/
import Derived.Test.YtpkfimijnkkbjaaGreatJ05
set_option linter.unusedVariables false
namespace Go.Proofs.YtpkfimijnkkbjaaGreat
namespace Ev

variable {P : Program} {s s' : St} {env : Env} {o : Op} {v : AV}

theorem sizeT_ok {t : TypeId} (h : sizeT P t ≠ 0) : ∃ i, P.info? t = some i ∧ i.size = sizeT P t := by
  unfold sizeT at h ⊢
  cases hi : P.info? t with
  | none => rw [hi] at h; exact absurd rfl h
  | some i => exact ⟨i, rfl, rfl⟩
theorem run_sizeT {t : TypeId} (h : sizeT P t ≠ 0) (w : World) : (sizeOf t).run P w = .ok (sizeT P t) w := by
  obtain ⟨i, h1, h2⟩ := sizeT_ok h
  simp [sizeOf, typeInfo, h1, h2]
theorem info_of {t : TypeId} {d : TypeDesc} (h : P.underlying t = some d) : ∃ i, P.info? t = some i := by
  unfold Program.underlying at h
  cases hi : P.info? t with
  | none => rw [hi] at h; cases h
  | some i => exact ⟨i, rfl⟩
theorem run_sizeU {t : TypeId} {d : TypeDesc} (h : P.underlying t = some d) (w : World) : (sizeOf t).run P w = .ok (sizeT P t) w := by
  obtain ⟨i, hi⟩ := info_of h
  simp [sizeOf, typeInfo, hi, sizeT]
theorem aggT_ok {t : TypeId} {b : Bool} (h : aggT P t = some b) (w : World) : (isAgg t).run P w = .ok b w ∧ (sizeOf t).run P w = .ok (sizeT P t) w := by
  unfold aggT at h
  split at h
  · rename_i fs hu
    cases h
    exact ⟨by simp [isAgg, run_underlying hu], run_sizeU hu w⟩
  · rename_i n e hu
    cases h
    exact ⟨by simp [isAgg, run_underlying hu], run_sizeU hu w⟩
  · rename_i d n1 n2 hu
    cases h
    refine ⟨?_, run_sizeU hu w⟩
    cases d <;> first | exact absurd rfl (n1 _) | exact absurd rfl (n2 _ _) | simp [isAgg, run_underlying hu]
  · cases h
theorem fieldT_ok {t : TypeId} {f : Nat} {fd : Field} (h : fieldT P t f = some fd) : ∃ fs, P.underlying t = some (.struct fs) ∧ fs[f]? = some fd := by
  unfold fieldT at h
  split at h
  · rename_i fs hu; exact ⟨fs, hu, h⟩
  · cases h
theorem elemT_ok {t e : TypeId} (h : elemT P t = some e) : P.underlying t = some (.slice e) := by
  unfold elemT at h
  split at h
  · cases h; assumption
  · cases h

theorem op_fieldAddr {t : TypeId} {x : Operand} {f : Nat} (h : evOp P env (.fieldAddr t x f) s = .ok v s') : OpOk P s s' env (.fieldAddr t x f) v := by
  have mx : x ∈ (Op.fieldAddr t x f).operands.toList := by simp [Op.operands]
  simp only [evOp] at h
  split at h
  · rename_i b off fd hx hf
    split at h
    · rename_i hz
      rw [forceN_eq] at h
      cases h
      obtain ⟨fs, hu, hfs⟩ := fieldT_ok hf
      have hne : sizeT P fd.type ≠ 0 := Nat.ne_of_beq_eq_false hz
      refine opOk_pure (fun D hi => by have := hi x mx _ hx; exact this) (fun φ w ρ r hr hρ => ?_)
      have := hρ x mx _ hx
      obtain ⟨_, _, _, _, _, _⟩ := r
      cases hr
      simp only [execOp, Instr.fieldAt]
      rw [this]
      have hs := run_sizeT hne w
      simp [run_underlying hu, hfs, conc, Instr.sureAddr, fieldPlace, hs, hne, Addr.add]
    · cases h
  · cases h

theorem run_part {t : TypeId} {φ : Phi} {cs : List AV} {off : Nat} {w : World} {a : AV}
    (h : (match aggT P t with
      | none => (.fail [] : Res AV)
      | some true => (match cutL cs off (sizeT P t) with | some l => .ok (.agg l) s | none => .fail [])
      | some false => (match getL cs off with | some v => .ok v s | none => .fail [])) = .ok a s') :
    s' = s ∧ (part t (concL φ cs).toArray off).run P w = .ok (conc φ a) w ∧ ∀ D, AllL D cs → a.All D := by
  cases ha : aggT P t with
  | none => rw [ha] at h; cases h
  | some b =>
    rw [ha] at h
    obtain ⟨h1, h2⟩ := aggT_ok ha w
    cases b
    · simp only at h
      rw [getL_eq] at h
      split at h
      · rename_i u hu
        cases h
        refine ⟨rfl, ?_, fun D hD => allL_get hD hu⟩
        have hg : (concL φ cs)[off]? = some (conc φ a) := by rw [concL_get, hu]; rfl
        simp [part, h1, hg]
      · cases h
    · simp only at h
      split at h
      · rename_i l hl
        cases h
        obtain ⟨h3, h4⟩ := cutL_ok _ _ _ _ hl
        refine ⟨rfl, ?_, fun D hD => ?_⟩
        · simp only [part]
          simp [h1, h2, conc]
          apply List.ext_getElem?
          intro i
          rw [concL_get]
          by_cases hi : i < sizeT P t
          · rw [List.getElem?_take_of_lt (by omega), List.getElem?_drop, concL_get, h4 i hi]
          · rw [List.getElem?_eq_none (by simp; omega), List.getElem?_eq_none (by omega)]; rfl
        · unfold AV.All
          exact allL_of_get hD (fun i hi => h4 i (by omega))
      · cases h

theorem op_field {t : TypeId} {x : Operand} {f : Nat} (h : evOp P env (.field t x f) s = .ok v s') : OpOk P s s' env (.field t x f) v := by
  have mx : x ∈ (Op.field t x f).operands.toList := by simp [Op.operands]
  simp only [evOp] at h
  split at h
  · rename_i cs fd hx hf
    obtain ⟨fs, hu, hfs⟩ := fieldT_ok hf
    have hs := (run_part (φ := fun _ => ⟨0, 0⟩) (w := default) h).1
    subst hs
    refine opOk_pure (fun D hi => (run_part (φ := fun _ => ⟨0, 0⟩) (w := default) h).2.2 D (hi x mx _ hx)) (fun φ w ρ r hr hρ => ?_)
    have := hρ x mx _ hx
    obtain ⟨_, _, _, _, _, _⟩ := r
    cases hr
    simp only [execOp, Instr.field]
    rw [this]
    simp [run_underlying hu, hfs, conc, asAgg, (run_part (φ := φ) (w := w) h).2.1]
  · cases h

theorem idx_ok {sy : Bool} {i : Int} {len : Nat} {k : Nat → St → Res AV} {a : AV} (h : idx sy i len s k = .ok a s') :
    ∃ s1, Quiet s s1 (fun _ => False) ∧ (s1.pre → 0 ≤ i ∧ i < (len : Int)) ∧ k i.toNat s1 = .ok a s' := by
  unfold idx at h
  cases sy
  · simp only at h
    cases i with
    | ofNat n =>
      simp only at h
      split at h
      · rename_i hb
        have hb' := Nat.le_of_ble_eq_true hb
        refine ⟨s, Quiet.refl s, fun _ => ⟨by simp, ?_⟩, h⟩
        show Int.ofNat n < _
        simp; omega
      · cases h
    | negSucc n => cases h
  · simp only at h
    exact ⟨_, Quiet.of_ask s _, fun hp => by rw [ask_eq] at hp; exact hp.2, h⟩
theorem num_ok {v : AV} {sy : Bool} {k : IntKind} {n : Int} (h : v.num = some (sy, k, n)) (φ : Phi) : conc φ v = .int k n := by
  unfold AV.num at h
  split at h <;> first | (cases h; rfl) | cases h

theorem op_index {t : TypeId} {x i : Operand} (h : evOp P env (.index t x i) s = .ok v s') : OpOk P s s' env (.index t x i) v := by
  have mx : x ∈ (Op.index t x i).operands.toList := by simp [Op.operands]
  have mi : i ∈ (Op.index t x i).operands.toList := by simp [Op.operands]
  simp only [evOp] at h
  split at h
  · rename_i cs k n len e hx hi hu
    split at h
    · rename_i hb
      have hb' := Nat.le_of_ble_eq_true hb
      have hs := (run_part (φ := fun _ => ⟨0, 0⟩) (w := default) h).1
      subst hs
      refine opOk_pure (fun D hi => (run_part (φ := fun _ => ⟨0, 0⟩) (w := default) h).2.2 D (hi x mx _ hx)) (fun φ w ρ r hr hρ => ?_)
      have hx' := hρ x mx _ hx
      have hi' := hρ i mi _ hi
      obtain ⟨_, _, _, _, _, _⟩ := r
      cases hr
      simp only [execOp, Instr.index]
      rw [hx', hi']
      have hsz : (sizeOf e).run P w = .ok (sizeT P e) w := by
        cases ha : aggT P e with
        | none => rw [ha] at h; cases h
        | some b => exact (aggT_ok ha w).2
      have hp := (run_part (φ := φ) (w := w) h).2.1
      have hlt : (0 : Int) ≤ Int.ofNat n ∧ Int.ofNat n < (len : Int) := ⟨by simp, by simp; omega⟩
      simp [run_underlying hu, conc, asIntOf, hsz, hp]
      intro hc; omega
    · cases h
  · cases h

theorem op_indexAddr {t : TypeId} {x i : Operand} (h : evOp P env (.indexAddr t x i) s = .ok v s') : OpOk P s s' env (.indexAddr t x i) v := by
  have mx : x ∈ (Op.indexAddr t x i).operands.toList := by simp [Op.operands]
  have mi : i ∈ (Op.indexAddr t x i).operands.toList := by simp [Op.operands]
  simp only [evOp] at h
  split at h
  · rename_i a j hx hi
    split at h
    · rename_i sy k n hn
      split at h
      · rename_i len e b off hu
        split at h
        · rename_i hz
          have hz' := Nat.le_of_ble_eq_true hz
          rw [forceN_eq] at h
          obtain ⟨s1, hq, hpre, h⟩ := idx_ok h
          cases h
          refine opOk_quiet _ hq (fun D _ hi _ => by have := hi x mx _ hx; exact this) (fun φ w ρ r hr hp _ hρ => ?_)
          have hx' := hρ x mx _ hx
          have hi' := (hρ i mi _ hi).trans (num_ok hn φ)
          obtain ⟨h0, h1⟩ := hpre hp
          obtain ⟨_, _, _, _, _, _⟩ := r
          cases hr
          simp only [execOp, Instr.indexAt]
          rw [hx', hi']
          have hsz := run_sizeT (P := P) (t := e) (by omega) w
          simp [run_underlying hu, conc, asIntOf, Instr.sureAddr, hsz, h0, h1, Addr.add]
        · cases h
      · rename_i e b off len cap hu
        split at h
        · rename_i hz
          have hz' := Nat.le_of_ble_eq_true hz
          rw [forceN_eq] at h
          obtain ⟨s1, hq, hpre, h⟩ := idx_ok h
          cases h
          refine opOk_quiet _ hq (fun D _ hi _ => by have := hi x mx _ hx; exact this) (fun φ w ρ r hr hp _ hρ => ?_)
          have hx' := hρ x mx _ hx
          have hi' := (hρ i mi _ hi).trans (num_ok hn φ)
          obtain ⟨h0, h1⟩ := hpre hp
          obtain ⟨_, _, _, _, _, _⟩ := r
          cases hr
          simp only [execOp, Instr.indexAt]
          rw [hx', hi']
          have hsz := run_sizeT (P := P) (t := e) (by omega) w
          simp [run_underlying hu, conc, asIntOf, hsz, h0, h1, Addr.add]
        · cases h
      · rename_i e b z k j len tot hu
        split at h
        · rename_i hz hzz hkt
          have hz' := Nat.le_of_ble_eq_true hz
          have hzz' := Nat.eq_of_beq_eq_true hzz
          have hkt' := Nat.le_of_ble_eq_true hkt
          subst hzz'
          obtain ⟨s1, hq, hpre, h⟩ := idx_ok h
          cases h
          refine opOk_quiet _ hq (fun D _ hi _ => by have := hi x mx _ hx; exact this) (fun φ w ρ r hr hp _ hρ => ?_)
          have hx' := hρ x mx _ hx
          have hi' := (hρ i mi _ hi).trans (num_ok hn φ)
          obtain ⟨h0, h1⟩ := hpre hp
          have hk : ¬ k = tot := by omega
          obtain ⟨_, _, _, _, _, _⟩ := r
          cases hr
          simp only [execOp, Instr.indexAt]
          rw [hx', hi']
          have hsz := run_sizeT (P := P) (t := e) (by omega) w
          simp [run_underlying hu, conc, asIntOf, hsz, h0, h1, Addr.add, hk, Nat.add_mul]
        · cases h
      · rename_i e b off len cap hu
        split at h
        · rename_i hz
          have hz' := Nat.le_of_ble_eq_true hz
          rw [forceN_eq] at h
          obtain ⟨s1, hq, hpre, h⟩ := idx_ok h
          cases h
          refine opOk_quiet _ hq (fun D _ hi _ => by have := hi x mx _ hx; exact this) (fun φ w ρ r hr hp _ hρ => ?_)
          have hx' := hρ x mx _ hx
          have hi' := (hρ i mi _ hi).trans (num_ok hn φ)
          obtain ⟨h0, h1⟩ := hpre hp
          obtain ⟨_, _, _, _, _, _⟩ := r
          cases hr
          simp only [execOp, Instr.indexAt]
          rw [hx', hi']
          have hsz := run_sizeT (P := P) (t := e) (by omega) w
          simp [run_underlying hu, conc, asIntOf, hsz, h0, h1, Addr.add]
        · cases h
      · rename_i e b z k j len tot hu
        split at h
        · rename_i hz hzz
          have hz' := Nat.le_of_ble_eq_true hz
          have hzz' := Nat.eq_of_beq_eq_true hzz
          subst hzz'
          obtain ⟨s1, hq1, hpre, h⟩ := idx_ok h
          cases h
          have hq := (Quiet.of_ask s (k + len ≤ tot)).trans hq1
          refine opOk_quiet _ hq (fun D _ hi _ => by have := hi x mx _ hx; exact this) (fun φ w ρ r hr hp _ hρ => ?_)
          have hx' := hρ x mx _ hx
          have hi' := (hρ i mi _ hi).trans (num_ok hn φ)
          obtain ⟨h0, h1⟩ := hpre hp
          have hkt : k + len ≤ tot := by have := hq1.pre hp; rw [ask_eq] at this; exact this.2
          have hk : ¬ k = tot := by omega
          obtain ⟨_, _, _, _, _, _⟩ := r
          cases hr
          simp only [execOp, Instr.indexAt]
          rw [hx', hi']
          have hsz := run_sizeT (P := P) (t := e) (by omega) w
          simp [run_underlying hu, conc, asIntOf, hsz, h0, h1, Addr.add, hk, Nat.add_mul]
        · cases h
      · cases h
    · cases h
  · cases h
end Ev
end Go.Proofs.YtpkfimijnkkbjaaGreat

namespace Go.Proofs.YtpkfimijnkkbjaaGreat
namespace Ev

variable {P : Program} {s s' : St} {env : Env} {o : Op} {v : AV}

theorem run_ari {op : BinOp} {k k' : IntKind} {a b : Int} {t : TypeId} {n : Int} {g : Bool} (hc : isCmp op = false) (hk : sameK op k k' = true) (h : ariI op k a b = some (n, g)) (hg : g = true) (w : World) :
    (binOp op t (.int k a) (.int k' b)).run P w = .ok (.int k n) w := by
  cases op <;> simp [isCmp] at hc <;> simp [ariI] at h <;> obtain ⟨rfl, rfl⟩ := h <;> simp [sameK] at hk <;> (try subst hk) <;> simp at hg <;>
    simp [binOp, Op.intArith, Op.intDiv, Op.intBits, Op.shift, hg] <;> (try omega)
theorem run_cmp {op : BinOp} {k k' : IntKind} {a b : Int} {t : TypeId} (hc : isCmp op = true) (hk : sameK op k k' = true) (w : World) :
    (binOp op t (.int k a) (.int k' b)).run P w = .ok (.bool (cmpI op a b)) w := by
  cases op <;> simp [isCmp] at hc <;> simp [sameK] at hk <;> subst hk <;> simp [binOp, Op.intCmp, cmpI]
theorem run_guard_num {op : BinOp} {t : TypeId} {x y : Operand} {k k' : IntKind} {a b : Int} (w : World) : (eqGuard op t x y (.int k a) (.int k' b)).run P w = .ok () w := by
  unfold eqGuard; split <;> simp

theorem conc_mkB (φ : Phi) (sy b : Bool) : conc φ (mkB sy b) = .bool b := by cases sy <;> rfl
theorem all_mkB (D : Nat → Prop) (sy b : Bool) : (mkB sy b).All D := by cases sy <;> trivial

theorem boo_ok {v : AV} {sy b : Bool} (h : v.boo = some (sy, b)) (φ : Phi) : conc φ v = .bool b := by
  unfold AV.boo at h
  split at h <;> first | (cases h; rfl) | cases h
theorem eqC_ok {t : TypeId} {a b : AV} {sy r : Bool} (h : eqC (P.underlying t) a b = some (sy, r)) (φ : Phi) (w : World) (d : Nat) :
    (Op.equalIn (d + 1) t (conc φ a) (conc φ b)).run P w = .ok r w ∧ (∃ x, aggT P t = some x ∧ x = false) := by
  unfold eqC at h
  split at h
  · rename_i k hu
    split at h
    · rename_i sx k x sy' k' y h1 h2
      split at h
      · rename_i hk
        cases h
        have := of_decide_eq_true hk
        subst this
        rw [num_ok h1 φ, num_ok h2 φ]
        exact ⟨run_equalIn_int w d t k _ x y hu, false, by simp [aggT, hu], rfl⟩
      · cases h
    · cases h
  · rename_i hu
    split at h
    · rename_i sx x sy' y h1 h2
      cases h
      rw [boo_ok h1 φ, boo_ok h2 φ]
      exact ⟨run_equalIn_bool' w d t x y hu, false, by simp [aggT, hu], rfl⟩
    · cases h
  · cases h
theorem eqF_ok (φ : Phi) (w : World) (d : Nat) : ∀ (fs : List Field) (i : Nat) (l m L M : List AV) (sy r : Bool), eqF P fs i l m = some (sy, r) → L.drop i = l → M.drop i = m →
    (Op.eqFields (d + 1) (concL φ L).toArray (concL φ M).toArray fs).run P w = .ok r w
  | [], i, l, m, L, M, sy, r, h, _, _ => by
    cases l with
    | nil => cases m with
      | nil => simp [eqF] at h; obtain ⟨_, rfl⟩ := h; simp [Op.eqFields]
      | cons b m => simp [eqF] at h
    | cons a l => simp [eqF] at h
  | f :: fs, i, l, m, L, M, sy, r, h, hl, hm => by
    cases l with
    | nil => simp [eqF] at h
    | cons a l =>
      cases m with
      | nil => simp [eqF] at h
      | cons b m =>
        simp only [eqF] at h
        split at h
        · rename_i sx x ho hn hc
          split at h
          · rename_i sy' y hf
            cases h
            have ho' := Nat.eq_of_beq_eq_true ho
            obtain ⟨h1, _, h2, h3⟩ := eqC_ok hc φ w d
            subst h3
            obtain ⟨h4, h5⟩ := aggT_ok h2 w
            have hL : (concL φ L)[f.offset]? = some (conc φ a) := by
              rw [concL_get, ho']
              have := congrArg (·[0]?) hl
              simp at this
              rw [this]; rfl
            have hM : (concL φ M)[f.offset]? = some (conc φ b) := by
              rw [concL_get, ho']
              have := congrArg (·[0]?) hm
              simp at this
              rw [this]; rfl
            have ih := eqF_ok φ w d fs (i + 1) l m L M sy' y hf (by rw [← List.tail_drop, hl]; rfl) (by rw [← List.tail_drop, hm]; rfl)
            have hn' : f.name ≠ "_" := by simpa using hn
            simp [Op.eqFields, hn', part, h4, hL, hM, h1]
            cases x
            · simp
            · simp [ih]
          · cases h
        · cases h
theorem eqF_plain : ∀ (fs : List Field) (i : Nat) (l m : List AV) (q : Bool × Bool), eqF P fs i l m = some q → ∀ f ∈ fs, (∃ k, P.underlying f.type = some (.int k)) ∨ P.underlying f.type = some .bool
  | [], _, _, _, _, _, f, hf => by cases hf
  | f :: fs, i, l, m, q, h, g, hg => by
    cases l with
    | nil => simp [eqF] at h
    | cons a l =>
      cases m with
      | nil => simp [eqF] at h
      | cons b m =>
        simp only [eqF] at h
        split at h
        · rename_i sx x ho hn hc
          split at h
          · rename_i sy' y hf
            rcases List.mem_cons.1 hg with rfl | hg
            · unfold eqC at hc
              split at hc
              · rename_i k hu; exact .inl ⟨k, hu⟩
              · rename_i hu; exact .inr hu
              · cases hc
            · exact eqF_plain fs (i + 1) l m _ hf g hg
          · cases h
        · cases h
def viaEq (op : BinOp) (t : TypeId) (x y : Value) : Prop := binOp op t x y = match op with
  | .eql => (do pure (.bool (← Op.equal t x y)))
  | _ => (do pure (.bool (!(← Op.equal t x y))))
set_option maxHeartbeats 2000000 in
theorem eqT_ok {t : TypeId} {x y : Operand} {a b : AV} {sy r : Bool} (h : eqT P t (isLit x || isLit y) a b = some (sy, r)) (φ : Phi) (w : World) (op : BinOp) (hop : op = .eql ∨ op = .neq) :
    (eqGuard op t x y (conc φ a) (conc φ b)).run P w = .ok () w ∧ (∀ d, (Op.equalIn (d + 1 + 1) t (conc φ a) (conc φ b)).run P w = .ok r w) ∧ viaEq op t (conc φ a) (conc φ b) := by
  unfold eqT at h
  split at h
  · cases h
  · rename_i d hu
    split at h
    · cases h; exact ⟨by rcases hop with rfl | rfl <;> simp [eqGuard, conc], fun d => by simp [Op.equalIn, run_underlying hu, conc], by rcases hop with rfl | rfl <;> rfl⟩
    · cases h; exact ⟨by rcases hop with rfl | rfl <;> simp [eqGuard, conc], fun d => by simp [Op.equalIn, run_underlying hu, conc], by rcases hop with rfl | rfl <;> rfl⟩
    · cases h; exact ⟨by rcases hop with rfl | rfl <;> simp [eqGuard, conc], fun d => by simp [Op.equalIn, run_underlying hu, conc], by rcases hop with rfl | rfl <;> rfl⟩
    · cases h; exact ⟨by rcases hop with rfl | rfl <;> simp [eqGuard, conc], fun d => by simp [Op.equalIn, run_underlying hu, conc], by rcases hop with rfl | rfl <;> rfl⟩
    · cases h; exact ⟨by rcases hop with rfl | rfl <;> simp [eqGuard, conc], fun d => by simp [Op.equalIn, run_underlying hu, conc], by rcases hop with rfl | rfl <;> rfl⟩
    · cases h; exact ⟨by rcases hop with rfl | rfl <;> simp [eqGuard, conc], fun d => by simp [Op.equalIn, run_underlying hu, conc], by rcases hop with rfl | rfl <;> rfl⟩
    · cases h; exact ⟨by rcases hop with rfl | rfl <;> simp [eqGuard, conc], fun d => by simp [Op.equalIn, run_underlying hu, conc], by rcases hop with rfl | rfl <;> rfl⟩
    · cases h; exact ⟨by rcases hop with rfl | rfl <;> simp [eqGuard, conc], fun d => by simp [Op.equalIn, run_underlying hu, conc], by rcases hop with rfl | rfl <;> rfl⟩
    · cases h; exact ⟨by rcases hop with rfl | rfl <;> simp [eqGuard, conc], fun d => by simp [Op.equalIn, run_underlying hu, conc], by rcases hop with rfl | rfl <;> rfl⟩
    · cases h; exact ⟨by rcases hop with rfl | rfl <;> simp [eqGuard, conc], fun d => by simp [Op.equalIn, run_underlying hu, conc], by rcases hop with rfl | rfl <;> rfl⟩
    · cases h; exact ⟨by rcases hop with rfl | rfl <;> simp [eqGuard, conc], fun d => by simp [Op.equalIn, run_underlying hu, conc], by rcases hop with rfl | rfl <;> rfl⟩
    · split at h
      · rename_i hl
        cases h
        refine ⟨?_, fun d => by simp [Op.equalIn, run_underlying hu, conc], by rcases hop with rfl | rfl <;> rfl⟩
        cases x <;> cases y <;> simp [isLit] at hl <;> rcases hop with rfl | rfl <;> simp [eqGuard, conc]
      · cases h
    · rename_i fs l m
      split at h
      · cases h
      · rename_i hh
        have hp := eqF_plain _ _ _ _ _ h
        have hfo : P.fieldsOf t = fs := by simp [Program.fieldsOf, hu]
        have hg : P.eqGuardType P.depth t = false := by
          have hd : P.depth = (P.depth - 2) + 1 + 1 := by unfold Program.depth; omega
          rw [hd]
          simp only [Program.eqGuardType, hu]
          rw [Array.any_eq_false']
          intro f hf
          have := hp f (by simpa using hf)
          rcases this with ⟨k, hk⟩ | hk <;> simp [hk]
        refine ⟨run_eqGuard_agg w op t x y _ _ hg, fun d => ?_, by rcases hop with rfl | rfl <;> rfl⟩
        simp only [conc]
        rw [run_equalIn_agg w (d + 1) t _ _ (by rw [hfo]; exact hu) hh, hfo]
        exact eqF_ok φ w d fs.toList 0 l m l m sy r h rfl rfl
    · have hc : eqC (P.underlying t) a b = some (sy, r) := by rw [hu]; exact h
      refine ⟨?_, fun d => (eqC_ok hc φ w (d + 1)).1, ?_⟩
      · unfold eqC at h
        simp only at h
        split at h
        · rename_i h1 h2
          rw [boo_ok h1 φ, boo_ok h2 φ]
          rcases hop with rfl | rfl <;> simp [eqGuard]
        · cases h
      · unfold eqC at h
        simp only at h
        split at h
        · rename_i h1 h2
          rw [boo_ok h1 φ, boo_ok h2 φ]
          rcases hop with rfl | rfl <;> rfl
        · cases h
    · cases h

theorem ansB_ok {sym b : Bool} (h : ansB sym b s = .ok v s') : ∃ c, v = .bool c ∧ Quiet s s' (fun _ => False) ∧ (s'.pre → b = c) := by
  unfold ansB at h
  split at h
  · cases h; exact ⟨b, rfl, Quiet.refl s, fun _ => rfl⟩
  · obtain ⟨hp, n, r, w, p, oo⟩ := s
    split at h
    · rename_i c oo' he
      injection he with e1 e2 e3 e4 e5 e6
      subst e1 e2 e3 e4 e5 e6
      cases h
      exact ⟨c, rfl, ⟨rfl, rfl, fun _ h => h.elim, fun _ h => h, fun _ h => h, fun h => h.1⟩, fun h => h.2⟩
    · cases h
theorem op_binOp {op : BinOp} {t yt : TypeId} {x y : Operand} (h : evOp P env (.binOp op t x y yt) s = .ok v s') : OpOk P s s' env (.binOp op t x y yt) v := by
  have mx : x ∈ (Op.binOp op t x y yt).operands.toList := by simp [Op.operands]
  have my : y ∈ (Op.binOp op t x y yt).operands.toList := by simp [Op.operands]
  simp only [evOp] at h
  split at h
  case h_2 => cases h
  rename_i a b hx hy
  have run : ∀ (φ : Phi) (w : World) (ρ : Operand → Value) (r : Oper) (u : Value), r.op = .binOp op t x y yt → RdO φ env ρ (.binOp op t x y yt) → (eqGuard op t x y (conc φ a) (conc φ b)).run P w = .ok () w →
      (binOp op t (conc φ a) (conc φ b)).run P w = .ok u w → (execOp ρ r).run P w = .ok (.value u) w := by
    intro φ w ρ r u hr hρ h1 h2
    have hx' := hρ x mx _ hx
    have hy' := hρ y my _ hy
    obtain ⟨_, _, _, _, _, _⟩ := r
    cases hr
    simp only [execOp]
    rw [hx', hy']
    simp [h1, h2]
  unfold evBin at h
  split at h
  · rename_i sx k m sy k' n h1 h2
    split at h
    · cases h
    · rename_i hk
      split at h
      · rename_i hc
        obtain ⟨c, rfl, hq, hpre⟩ := ansB_ok h
        refine opOk_quiet _ hq (fun D _ _ _ => trivial) (fun φ w ρ r hr hp _ hρ => ?_)
        refine run φ w ρ r _ hr hρ (by rw [num_ok h1 φ, num_ok h2 φ]; exact run_guard_num w) ?_
        rw [num_ok h1 φ, num_ok h2 φ]
        have := run_cmp (P := P) (t := t) (a := m) (b := n) hc hk w
        rw [hpre hp] at this
        exact this
      · rename_i hc
        split at h
        · cases h
        · rename_i u g ha
          split at h
          · cases h
            refine opOk_quiet _ (Quiet.of_ask s _) (fun D _ _ _ => trivial) (fun φ w ρ r hr hp _ hρ => ?_)
            rw [ask_eq] at hp
            refine run φ w ρ r _ hr hρ (by rw [num_ok h1 φ, num_ok h2 φ]; exact run_guard_num w) ?_
            rw [num_ok h1 φ, num_ok h2 φ]
            exact run_ari hc hk ha hp.2 w
          · split at h
            · cases h
              refine opOk_pure (fun D _ => trivial) (fun φ w ρ r hr hρ => ?_)
              refine run φ w ρ r _ hr hρ (by rw [num_ok h1 φ, num_ok h2 φ]; exact run_guard_num w) ?_
              rw [num_ok h1 φ, num_ok h2 φ]
              exact run_ari hc hk ha rfl w
            · cases h
  · split at h
    · split at h
      · rename_i sy r he
        obtain ⟨c, rfl, hq, hpre⟩ := ansB_ok h
        refine opOk_quiet _ hq (fun D _ _ _ => trivial) (fun φ w ρ rr hr hp _ hρ => ?_)
        obtain ⟨h1, h2, h3⟩ := eqT_ok he φ w .eql (.inl rfl)
        refine run φ w ρ rr _ hr hρ h1 ?_
        have hc := hpre hp
        rw [h3]
        have := h2 9998
        simp only [Op.equal, Op.maxDepth]
        simp [this, conc, ← hc]
      · cases h
    · split at h
      · rename_i sy r he
        obtain ⟨c, rfl, hq, hpre⟩ := ansB_ok h
        refine opOk_quiet _ hq (fun D _ _ _ => trivial) (fun φ w ρ rr hr hp _ hρ => ?_)
        obtain ⟨h1, h2, h3⟩ := eqT_ok he φ w .neq (.inr rfl)
        refine run φ w ρ rr _ hr hρ h1 ?_
        have hc := hpre hp
        rw [h3]
        have := h2 9998
        simp only [Op.equal, Op.maxDepth]
        simp [this, conc, ← hc]
      · cases h
    · cases h
end Ev
end Go.Proofs.YtpkfimijnkkbjaaGreat
