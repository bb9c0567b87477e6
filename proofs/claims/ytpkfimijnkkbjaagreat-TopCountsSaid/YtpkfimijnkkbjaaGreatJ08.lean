/-
  Each operation of the reckoner does in a memory what it reckons: slices made, maps, assertions.
-/
import Derived.Test.YtpkfimijnkkbjaaGreatJ07
set_option linter.unusedVariables false
namespace Go.Proofs.YtpkfimijnkkbjaaGreat
namespace Ev

variable {P : Program} {s s' : St} {env : Env} {o : Op} {v : AV}

theorem repC_len (c : List AV) : ∀ n, (repC c n).length = n * c.length
  | 0 => by simp [repC]
  | n + 1 => by simp [repC, repC_len c n, Nat.add_mul]; omega
theorem repC_get (c : List AV) : ∀ (n i : Nat), i < n * c.length → (repC c n)[i]? = c[i % c.length]?
  | 0, i, h => by omega
  | n + 1, i, h => by
    simp only [repC]
    by_cases hi : i < c.length
    · rw [List.getElem?_append_left hi, Nat.mod_eq_of_lt hi]
    · have hlt : i - c.length < n * c.length := by
        have e : (n + 1) * c.length = n * c.length + c.length := Nat.succ_mul _ _
        omega
      rw [List.getElem?_append_right (by omega), repC_get c n (i - c.length) hlt]
      rw [← Nat.mod_eq_sub_mod (by omega)]
theorem repC_all {D : Nat → Prop} {c : List AV} (h : AllL D c) : ∀ n, AllL D (repC c n)
  | 0 => trivial
  | n + 1 => allL_append.2 ⟨h, repC_all h n⟩
theorem repC_zero (φ : Phi) (c : List AV) (n : Nat) (hc : c ≠ []) :
    (Array.range (n * c.length)).map (fun i => (concL φ c).toArray[i % (concL φ c).toArray.size]!) = (concL φ (repC c n)).toArray := by
  apply Array.ext'
  apply List.ext_getElem?
  intro i
  have hpos : 0 < c.length := List.length_pos_iff.2 hc
  by_cases hi : i < n * c.length
  · rw [concL_get, repC_get c n i hi]
    have hm : i % c.length < c.length := Nat.mod_lt _ hpos
    simp [hi, concL_length]
    have h1 : c[i % c.length]? = some c[i % c.length] := List.getElem?_eq_getElem hm
    have h2 : (concL φ c)[i % c.length]? = some (conc φ c[i % c.length]) := by rw [concL_get, h1]; rfl
    rw [h2, h1]
    rfl
  · rw [List.getElem?_eq_none (by simp; omega), List.getElem?_eq_none (by simp [concL_length, repC_len]; omega)]

theorem op_buildSlice {t : TypeId} {len : Nat} {parts : Array (Nat × Operand)} (h : evOp P env (.buildSlice t len parts) s = .ok v s') : OpOk P s s' env (.buildSlice t len parts) v := by
  have mp : ∀ p ∈ parts.toList, p.2 ∈ (Op.buildSlice t len parts).operands.toList := by
    intro p hp; simp [Op.operands]; exact ⟨p.1, by simpa using hp⟩
  simp only [evOp] at h
  split at h
  · rename_i e ps he hps
    split at h
    · rename_i z hz
      have hall := (zeroT_ok hz default (fun _ => ⟨0, 0⟩)).2.1
      split at h
      · rename_i h1 h2 h3
        have h1' := Nat.le_of_ble_eq_true h1
        have h2' := Nat.eq_of_beq_eq_true h2
        have h3' := Nat.le_of_ble_eq_true h3
        rw [lenL_eq] at h2'
        split at h
        · rename_i c hf
          rw [newBlk_eq] at h
          cases h
          have hca : ∀ D : Nat → Prop, insO env (.buildSlice t len parts) D → AllL D c := fun D hin => fillL_all _ _ _ _ hf (repC_all (cells_all (hall D)) len) (evParts_all hps fun p hp => hin p.2 (mp p hp))
          refine opOk_made _ (Quiet.refl s) _ _ (fun D hD => hD) (fun D _ hin _ => hca D hin) (fun φ w ρ r hr _ _ _ hin hρ => ?_)
          obtain ⟨g1, g2, g3⟩ := holds_new (φ := φ) (w := w) (n := s.next) (sy := false) (t := e) (hca _ hin)
          refine ⟨⟨w.heap.size, 0⟩, _, ?_, g1, Nat.le_refl _, g2, g3⟩
          have hps' := evParts_ok hps (fun p hp => hρ p.2 (mp p hp))
          have hs := run_sizeT (P := P) (t := e) (by omega) w
          obtain ⟨hzr, _, _⟩ := zeroT_ok hz w φ
          have hu := elemT_ok he
          have hsz : ¬ (2 ^ 24 < len * sizeT P e) ∨ True := .inr trivial
          have hfill := fillL_ok φ _ (fun i => some (i * sizeT P e, sizeT P e)) (fun i q hq => hq) ps _ c hf
          have hrep := repC_zero φ z.cells len (by intro e'; rw [e'] at h2'; simp at h2'; omega)
          rw [h2'] at hrep
          obtain ⟨_, _, _, _, _, _⟩ := r
          cases hr
          simp only [execOp, Instr.buildSlice]
          have hfill' : Instr.fill (fun i => some (i * sizeT P e, sizeT P e)) ((Array.range (len * sizeT P e)).map (fun i => (if len * sizeT P e = 0 then #[] else (concL φ z.cells).toArray)[i % (if len * sizeT P e = 0 then #[] else (concL φ z.cells).toArray).size]!)) (parts.toList.map fun p => (p.1, ρ p.2)) = some (concL φ c).toArray := by
            rw [hps']
            by_cases hn : len * sizeT P e = 0
            · have hl0 : len = 0 := by
                rcases Nat.mul_eq_zero.1 hn with h | h
                · exact h
                · omega
              subst hl0
              have h0 : Array.range 0 = #[] := by simp [Array.range]
              simpa [repC, concL, h0] using hfill
            · simp only [hn, if_false]
              rw [hrep]
              exact hfill
          have hb : ¬ (len * sizeT P e > 2 ^ 24) := by have : (2 : Nat) ^ 24 = 16777216 := rfl; omega
          by_cases hn : len * sizeT P e = 0
          · simp only [hn, if_true] at hfill'
            simp at hfill'
            simp [run_underlying hu, hs, hn, hfill', newRow, conc, upd_at]
          · simp only [hn, if_false] at hfill'
            simp at hfill'
            simp [run_underlying hu, hs, hb, hn, hzr, conc_cells, hfill', newRow, conc, upd_at]
        · cases h
      · cases h
    · cases h
  · cases h

theorem repC_one (φ : Phi) (z : AV) (n : Nat) : (Array.range n).map (fun i => (#[conc φ z] : Array Value)[i % 1]!) = (concL φ (repC [z] n)).toArray := by
  have := repC_zero φ [z] n (by simp)
  simpa [concL] using this
theorem op_makeSlice {t : TypeId} {x y : Operand} (h : evOp P env (.makeSlice t x y) s = .ok v s') : OpOk P s s' env (.makeSlice t x y) v := by
  have mx : x ∈ (Op.makeSlice t x y).operands.toList := by simp [Op.operands]
  have my : y ∈ (Op.makeSlice t x y).operands.toList := by simp [Op.operands]
  simp only [evOp] at h
  split at h
  · rename_i e k len k' cap he hx hy
    split at h
    · rename_i z hz
      have hall := (zeroT_ok hz default (fun _ => ⟨0, 0⟩)).2.1
      split at h
      · rename_i h1 h2 h3 h4 h5
        have h1' := Nat.le_of_ble_eq_true h1
        have h2' := Nat.eq_of_beq_eq_true h2
        have h3' := Nat.eq_of_beq_eq_true h3
        have h4' := Nat.le_of_ble_eq_true h4
        have h5' := Nat.le_of_ble_eq_true h5
        rw [lenL_eq] at h3'
        rw [newBlk_eq] at h
        cases h
        refine opOk_made _ (Quiet.refl s) _ _ (fun D hD => hD) (fun D _ hin _ => repC_all (cells_all (hall D)) cap) (fun φ w ρ r hr _ _ _ hin hρ => ?_)
        obtain ⟨g1, g2, g3⟩ := holds_new (φ := φ) (w := w) (n := s.next) (sy := false) (t := e) (repC_all (cells_all (hall _)) cap)
        refine ⟨⟨w.heap.size, 0⟩, _, ?_, g1, Nat.le_refl _, g2, g3⟩
        have hx' := hρ x mx _ hx
        have hy' := hρ y my _ hy
        obtain ⟨hzr, _, i, zz, hi, hzz, hcz⟩ := zeroT_ok hz w φ
        have hs := run_sizeT (P := P) (t := e) (by omega) w
        have hu := elemT_ok he
        obtain ⟨u, hzu⟩ : ∃ u, z.cells = [u] := by
          match hc : z.cells, h3' with
          | [u], _ => exact ⟨u, rfl⟩
        have hcc : (conc φ z).cells = #[conc φ u] := by rw [conc_cells, hzu]; rfl
        have hby : i.bytes = P.bytesOf e := by simp [Program.bytesOf, hi]
        rw [hzu]
        have hrep := repC_one φ u cap
        simp only [maxLen] at h5'
        simp only [room] at h4'
        have hwl : IntKind.i64.wrap (len : Int) = len := by
          unfold IntKind.wrap IntKind.signed IntKind.bits
          simp only [Bool.true_and, decide_eq_true_eq]
          have : (len : Int) % 2 ^ 64 = len := Int.emod_eq_of_lt (by omega) (by omega)
          rw [this, if_neg (by omega)]
        have hwc : IntKind.i64.wrap (cap : Int) = cap := by
          unfold IntKind.wrap IntKind.signed IntKind.bits
          simp only [Bool.true_and, decide_eq_true_eq]
          have : (cap : Int) % 2 ^ 64 = cap := Int.emod_eq_of_lt (by omega) (by omega)
          rw [this, if_neg (by omega)]
        obtain ⟨_, _, _, _, _, _⟩ := r
        cases hr
        simp only [execOp, Instr.makeSlice]
        rw [hx', hy']
        have hti : (typeInfo e).run P w = .ok i w := by simp [typeInfo, hi]
        have hnl : ¬ ((P.bytesOf e : Int) * (cap : Int) > 2 ^ 48) := by
          have : (P.bytesOf e : Int) * (cap : Int) = ((cap * P.bytesOf e : Nat) : Int) := by rw [Nat.mul_comm]; simp
          rw [this]; have : (2 : Int) ^ 48 = 281474976710656 := rfl; omega
        simp only [conc]
        have e1 : (Int.ofNat len) = (len : Int) := rfl
        have e2 : (Int.ofNat cap) = (cap : Int) := rfl
        simp only [e1, e2]
        by_cases hn : cap = 0
        · subst hn
          have : len = 0 := by omega
          subst this
          have hw0 : IntKind.i64.wrap 0 = 0 := hwl
          simp [run_underlying hu, asInt, asIntOf, hti, hby, hs, h2', hw0, newRow, upd_at, repC, concL]
          have h0 : Array.range 0 = #[] := by simp [Array.range]
          simp [h0]
        · simp [run_underlying hu, asInt, asIntOf, hti, hby, hs, h2', hwl, hwc, hzr, hcc, hn, newRow, upd_at]
          have c1 : ¬ (281474976710656 < (P.bytesOf e : Int) * (cap : Int)) := by have : (2 : Int) ^ 48 = 281474976710656 := rfl; omega
          have c2 : ¬ (((cap : Int) < 0 ∨ 281474976710656 < (P.bytesOf e : Int) * (cap : Int)) ∨ (len : Int) < 0) := by omega
          have c3 : ¬ (cap < len) := by omega
          rw [if_neg (by rintro (h | h); exact c2 h; exact c3 h)]
          have hrep' := hrep
          simp at hrep'
          simp [hrep', h2', hzr, hcc, hn]
      · cases h
    · cases h
  · rename_i e k len k' cap he hx hy
    split at h
    · rename_i z hz
      have hall := (zeroT_ok hz default (fun _ => ⟨0, 0⟩)).2.1
      split at h
      · rename_i u h2 hzu
        have h2' := Nat.eq_of_beq_eq_true h2
        rw [newBlk_eq] at h
        cases h
        have hq := Quiet.of_ask s (0 ≤ len ∧ cap = len ∧ len.toNat * P.bytesOf e ≤ room ∧ len.toNat ≤ maxLen)
        rw [hq.next]
        have hua : ∀ D, AllL D (List.replicate len.toNat u) := fun D => allL_iff.2 fun v hv => by
          have := (List.mem_replicate.1 hv).2
          subst this
          have := cells_all (hall D)
          rw [hzu] at this
          exact this.1
        refine opOk_made _ hq _ _ (fun D hD => hD) (fun D _ hin _ => hua D) (fun φ w ρ r hr hp _ _ hin hρ => ?_)
        rw [ask_eq] at hp
        obtain ⟨_, h0, hcl, h4', h5'⟩ := hp
        subst hcl
        obtain ⟨n, rfl⟩ := Int.eq_ofNat_of_zero_le h0
        simp only [Int.toNat_natCast] at h4' h5' ⊢
        obtain ⟨g1, g2, g3⟩ := holds_new (φ := φ) (w := w) (n := s.next) (sy := true) (t := e) (hua (· < s.next))
        refine ⟨⟨w.heap.size, 0⟩, _, ?_, g1, Nat.le_refl _, g2, g3⟩
        have hx' := hρ x mx _ hx
        have hy' := hρ y my _ hy
        obtain ⟨hzr, _, i, zz, hi, hzz, hcz⟩ := zeroT_ok hz w φ
        have hs := run_sizeT (P := P) (t := e) (by omega) w
        have hu := elemT_ok he
        have hcc : (conc φ z).cells = #[conc φ u] := by rw [conc_cells, hzu]; rfl
        have hby : i.bytes = P.bytesOf e := by simp [Program.bytesOf, hi]
        have hrep := repC_one φ u n
        have hre : ∀ m, repC [u] m = List.replicate m u := by
          intro m
          induction m with
          | zero => rfl
          | succ m ih => simp [repC, ih, List.replicate_succ]
        rw [hre] at hrep
        simp only [maxLen] at h5'
        simp only [room] at h4'
        have hwc : IntKind.i64.wrap (n : Int) = n := by
          unfold IntKind.wrap IntKind.signed IntKind.bits
          simp only [Bool.true_and, decide_eq_true_eq]
          have : (n : Int) % 2 ^ 64 = n := Int.emod_eq_of_lt (by omega) (by omega)
          rw [this, if_neg (by omega)]
        obtain ⟨_, _, _, _, _, _⟩ := r
        cases hr
        simp only [execOp, Instr.makeSlice]
        rw [hx', hy']
        have hti : (typeInfo e).run P w = .ok i w := by simp [typeInfo, hi]
        have c1 : ¬ (281474976710656 < (P.bytesOf e : Int) * (n : Int)) := by
          have : (P.bytesOf e : Int) * (n : Int) = ((n * P.bytesOf e : Nat) : Int) := by rw [Nat.mul_comm]; simp
          rw [this]; omega
        simp only [conc]
        by_cases hn : n = 0
        · subst hn
          have hw0 : IntKind.i64.wrap 0 = 0 := hwc
          simp [run_underlying hu, asInt, asIntOf, hti, hby, hs, h2', hw0, newRow, upd_at, concL]
          have h0 : Array.range 0 = #[] := by simp [Array.range]
          simp [h0]
        · simp [run_underlying hu, asInt, asIntOf, hti, hby, hs, h2', hwc, hzr, hcc, hn, newRow, upd_at]
          have c2 : ¬ (((n : Int) < 0 ∨ 281474976710656 < (P.bytesOf e : Int) * (n : Int)) ∨ (n : Int) < 0) := by omega
          first
            | rw [if_neg (by rintro (h | h); exact c2 (.inl h); exact c2 (.inr h))]
            | rw [if_neg c1]
            | skip
          have hrep' := hrep
          simp at hrep'
          simp [hrep', h2', hzr, hcc, hn]
      · cases h
    · cases h
  · cases h

theorem findM_ok (φ : Phi) (k : Int) : ∀ (l : List (Int × AV)) (i : Nat), (iget k (l.map (pairOf φ)) i).map (·.2) = (findM k l).map (conc φ)
  | [], _ => rfl
  | (j, u) :: l, i => by
    simp only [List.map_cons, iget, findM, pairOf]
    by_cases h : k = j
    · simp [h]
    · simp only [h, if_false, decide_false]
      exact findM_ok φ k l (i + 1)
theorem findM_mem {k : Int} : ∀ {l : List (Int × AV)} {u : AV}, findM k l = some u → ∃ x ∈ l, x.2 = u
  | [], _, h => by cases h
  | (j, v) :: l, u, h => by
    simp only [findM] at h
    split at h
    · cases h; exact ⟨(j, v), by simp, rfl⟩
    · obtain ⟨x, hx, he⟩ := findM_mem h; exact ⟨x, by simp [hx], he⟩
theorem putM_ok (φ : Phi) (k : Int) (v : AV) : ∀ (l : List (Int × AV)), (putM k v l).map (pairOf φ) = iput k (conc φ v) (l.map (pairOf φ))
  | [] => rfl
  | (j, u) :: l => by
    simp only [List.map_cons, iput, putM, pairOf]
    by_cases h : k = j
    · simp [h, pairOf]
    · simp [h, pairOf, putM_ok φ k v l]
theorem putM_all {D : Nat → Prop} {k : Int} {v : AV} (hv : v.All D) : ∀ {l : List (Int × AV)}, (∀ x ∈ l, x.2.All D) → ∀ x ∈ putM k v l, x.2.All D
  | [], _, x, hx => by simp [putM] at hx; subst hx; exact hv
  | (j, u) :: l, h, x, hx => by
    simp only [putM] at hx
    split at hx
    · rcases List.mem_cons.1 hx with rfl | hx
      · exact hv
      · exact h x (by simp [hx])
    · rcases List.mem_cons.1 hx with rfl | hx
      · exact h (j, u) (by simp)
      · exact putM_all hv (fun y hy => h y (by simp [hy])) x hx

theorem run_lookup_ev {T E kt : TypeId} (hT : P.underlying T = some (.map kt E)) (hk : P.underlying kt = some (.int .i64)) (z : Value) (w : World) (hz : (zeroValue E).run P w = .ok z w) (b : Nat) (l : List (Int × Value)) (h : IMap w b l) (k : Int) (ok : Bool) :
    (Instr.lookup T (.map (some b)) (.int .i64 k) ok).run P w = .ok (if ok then .tuple #[((iget k l 0).map (·.2)).getD z, .bool (iget k l 0).isSome] else ((iget k l 0).map (·.2)).getD z) w := by
  obtain ⟨es, clock, hb, he⟩ := h
  have hf := findNow_int k es.toList l 0 he
  have h1 := MapKept.run_checkKey (P := P) (w := w) (kt := kt) (k := .int .i64 k) hk (by simp [MapKept.IsKey]) es.isEmpty 9999
  have h2 := MapKept.run_findKey (P := P) (w := w) hk hf
  cases hg : iget k l 0 with
  | none =>
    rw [hg] at h2
    cases ok <;> simp [Instr.lookup, run_underlying hT, MapKept.run_getObj_map hb, h1, h2, hz, Result.andThen]
  | some p =>
    rw [hg] at h2
    cases ok <;> simp [Instr.lookup, run_underlying hT, MapKept.run_getObj_map hb, h1, h2, Result.andThen]

def mkOk (ok : Bool) (u : AV) (q : Bool) : AV := if ok then .tup [u, .bool q] else u
theorem op_lookup {t : TypeId} {x i : Operand} {ok : Bool} (h : evOp P env (.lookup t x i ok) s = .ok v s') : OpOk P s s' env (.lookup t x i ok) v := by
  have mx : x ∈ (Op.lookup t x i ok).operands.toList := by simp [Op.operands]
  have mi : i ∈ (Op.lookup t x i ok).operands.toList := by simp [Op.operands]
  simp only [evOp] at h
  split at h
  · rename_i kt e b kv hu hx hi
    split at h
    · rename_i z sk k hk hz hnum
      obtain ⟨y, hg, h3⟩ := rdBlk_ok h
      clear h
      have run : ∀ (sy : Bool) (l : List (Int × AV)), s.get b = some (.map sy l) → ∀ (φ : Phi) (w : World) (ρ : Operand → Value) (r : Oper) (u : AV) (q : Bool), r.op = .lookup t x i ok → RdO φ env ρ (.lookup t x i ok) → Fits s (fun c => c = b) φ w →
          ((findM k l = some u ∧ q = true) ∨ (findM k l = none ∧ u = z ∧ q = false)) → (execOp ρ r).run P w = .ok (.value (conc φ (mkOk ok u q))) w := by
        intro sy l hg φ w ρ r u q hr hρ hf hq
        have hx' := hρ x mx _ hx
        have hi' := (hρ i mi _ hi).trans (num_ok hnum φ)
        have hh : IMap w (φ b).blk (l.map (pairOf φ)) := hf.holds b _ rfl hg
        have hrun := run_lookup_ev (P := P) hu (intT_ok hk) (conc φ z) w (zeroT_ok hz w φ).1 (φ b).blk _ hh k ok
        have hfo := findM_ok φ k l 0
        have e1 : ((iget k (l.map (pairOf φ)) 0).map (·.2)).getD (conc φ z) = conc φ u := by
          rw [hfo]
          rcases hq with ⟨h1, _⟩ | ⟨h1, rfl, _⟩ <;> rw [h1] <;> rfl
        have e2 : (iget k (l.map (pairOf φ)) 0).isSome = q := by
          have := congrArg Option.isSome hfo
          rw [Option.isSome_map, Option.isSome_map] at this
          rw [this]
          rcases hq with ⟨h1, rfl⟩ | ⟨h1, _, rfl⟩ <;> rw [h1] <;> rfl
        rw [e1, e2] at hrun
        obtain ⟨_, _, _, _, _, _⟩ := r
        cases hr
        simp only [execOp]
        rw [hx', hi']
        simp only [conc]
        cases ok <;> simp [hrun, conc, concL, mkOk]
      have all : ∀ (sy : Bool) (l : List (Int × AV)), s.get b = some (.map sy l) → ∀ (D : Nat → Prop) (u : AV) (q : Bool), (∀ c o, c = b → s.get c = some o → o.All D) → ((findM k l = some u ∧ q = true) ∨ (findM k l = none ∧ u = z ∧ q = false)) → (mkOk ok u q).All D := by
        intro sy l hg D u q hR hq
        have hu' : u.All D := by
          rcases hq with ⟨h1, _⟩ | ⟨_, rfl, _⟩
          · obtain ⟨p, hp, he⟩ := findM_mem h1
            exact he ▸ hR b _ rfl hg p hp
          · exact (zeroT_ok hz default (fun _ => ⟨0, 0⟩)).2.1 D
        cases ok
        · exact hu'
        · exact ⟨hu', trivial, trivial⟩
      have fin : ∀ (sy : Bool) (l : List (Int × AV)), s.get b = some (.map sy l) → ∀ (s1 : St) (u : AV) (q : Bool), Quiet s s1 (fun c => c = b) → v = mkOk ok u q → s' = s1 →
          (s1.pre → (findM k l = some u ∧ q = true) ∨ (findM k l = none ∧ u = z ∧ q = false)) → OpOk P s s' env (.lookup t x i ok) v := by
        intro sy l hg s1 u q hq1 hv hs' hpre
        subst hv hs'
        exact opOk_quiet _ hq1 (fun D hp _ hR => all sy l hg D u q hR (hpre hp)) (fun φ w ρ r hr hp hf hρ => run sy l hg φ w ρ r u q hr hρ hf (hpre hp))
      split at h3
      · rename_i l
        split at h3
        · cases h3
        · split at h3
          · rename_i u hfm
            injection h3 with h1 h2
            exact fin false l hg _ u true (Quiet.seen s b) (by rw [← h1]; cases ok <;> rfl) h2.symm (fun _ => .inl ⟨hfm, rfl⟩)
          · rename_i hfm
            injection h3 with h1 h2
            exact fin false l hg _ z false (Quiet.seen s b) (by rw [← h1]; cases ok <;> rfl) h2.symm (fun _ => .inr ⟨hfm, rfl, rfl⟩)
      · rename_i l
        obtain ⟨hp, n, rd, wr, p, oo⟩ := s
        simp only [St.seen] at h3
        split at h3
        · rename_i u oo' he
          injection he with e1 e2 e3 e4 e5 e6
          subst e1 e2 e3 e4 e5 e6
          injection h3 with h1 h2
          subst h2
          exact fin true l hg ⟨hp, n, mark rd b, wr, p ∧ findM k l = some u, oo'⟩ u true ⟨rfl, rfl, fun c hc => (by subst hc; exact mark_self _ _), fun c hc => mark_old _ _ _ hc, fun _ h => h, fun h => h.1⟩ (by rw [← h1]; cases ok <;> rfl) rfl (fun hp => .inl ⟨hp.2, rfl⟩)
        · rename_i oo' he
          injection he with e1 e2 e3 e4 e5 e6
          subst e1 e2 e3 e4 e5 e6
          injection h3 with h1 h2
          subst h2
          exact fin true l hg ⟨hp, n, mark rd b, wr, p ∧ findM k l = none, oo'⟩ z false ⟨rfl, rfl, fun c hc => (by subst hc; exact mark_self _ _), fun c hc => mark_old _ _ _ hc, fun _ h => h, fun h => h.1⟩ (by rw [← h1]; cases ok <;> rfl) rfl (fun hp => .inr ⟨hp.2, rfl, rfl⟩)
        · cases h3
      · cases h3
    · cases h
  · cases h

theorem op_mapUpdate {t : TypeId} {x i y : Operand} (h : evOp P env (.mapUpdate t x i y) s = .ok v s') : OpOk P s s' env (.mapUpdate t x i y) v := by
  have mx : x ∈ (Op.mapUpdate t x i y).operands.toList := by simp [Op.operands]
  have mi : i ∈ (Op.mapUpdate t x i y).operands.toList := by simp [Op.operands]
  have my : y ∈ (Op.mapUpdate t x i y).operands.toList := by simp [Op.operands]
  simp only [evOp] at h
  split at h
  · rename_i kt e b kv u hu hx hi hy
    split at h
    · rename_i sk k hk hnum
      obtain ⟨q, hg, h⟩ := rdBlk_ok h
      split at h
      · rename_i sy l
        rw [wrBlk_eq] at h
        cases h
        refine opOk_wrote _ (Quiet.seen s b) rfl hg _ (fun D => trivial) (fun D _ hin hR => ?_) (fun φ w ρ r hr _ hf hρ => ?_)
        · exact putM_all (hin y my _ hy) (hR b _ rfl hg)
        · have hx' := hρ x mx _ hx
          have hi' := (hρ i mi _ hi).trans (num_ok hnum φ)
          have hy' := hρ y my _ hy
          have hh : IMap w (φ b).blk (l.map (pairOf φ)) := hf.holds b _ rfl hg
          obtain ⟨w', h1, h2, h3⟩ := run_update_int (P := P) hu (intT_ok hk) w (φ b).blk _ hh k (conc φ u)
          refine ⟨w', .skip, ?_, rfl, ?_, fun r hr hne => h3.block r hr (by intro e; cases e; exact hne rfl), h3.size, h3.os, h3.output⟩
          · obtain ⟨_, _, _, _, _, _⟩ := r
            cases hr
            simp only [execOp]
            rw [hx', hi', hy']
            simp [conc, h1]
          · show IMap w' (φ b).blk ((putM k u l).map (pairOf φ))
            rw [putM_ok]
            exact h2
      · cases h
    · cases h
  · cases h

theorem least_some {l : List String} (h : l ≠ []) : ∃ m, Instr.least l = some m := by
  cases l with
  | nil => exact absurd rfl h
  | cons a l => exact ⟨_, rfl⟩
theorem lacks_ok (want : Array (String × TypeId)) (got : Array Method) : (lacks want got = false → Instr.missingMethod want got = none) ∧ (lacks want got = true → ∃ m, Instr.missingMethod want got = some m) := by
  have e : (want.toList.filter fun (x : String × TypeId) => match x with | (name, sig) => !got.any fun m => m.name == name && m.sig == sig) = [] ↔ lacks want got = false := by
    unfold lacks
    rw [List.filter_eq_nil_iff, List.any_eq_false]
  constructor
  · intro h
    have h' := e.2 h
    simp only [Instr.missingMethod]
    rw [h']
    rfl
  · intro h
    have h' : (want.toList.filter fun (x : String × TypeId) => match x with | (name, sig) => !got.any fun m => m.name == name && m.sig == sig) ≠ [] := fun h'' => by rw [e.1 h''] at h; cases h
    simp only [Instr.missingMethod]
    generalize hm : (want.toList.filter fun (x : String × TypeId) => match x with | (name, sig) => !got.any fun m => m.name == name && m.sig == sig) = M at *
    have hM : M.map (·.1) ≠ [] := by simpa using h'
    generalize M.map (·.1) = L at *
    rw [List.partition_eq_filter_filter]
    simp only
    by_cases h1 : L.filter (not ∘ fun x => x.contains (Char.ofNat 46)) = []
    · rw [h1]
      have h2 : L.filter (fun x => x.contains (Char.ofNat 46)) ≠ [] := by
        intro h2
        obtain ⟨a, L', rfl⟩ := List.exists_cons_of_ne_nil hM
        have a1 := List.filter_eq_nil_iff.1 h1 a (by simp)
        have a2 := List.filter_eq_nil_iff.1 h2 a (by simp)
        simp at a1 a2
        exact a2 a1
      obtain ⟨m, hm⟩ := least_some (l := (L.filter (fun x => x.contains (Char.ofNat 46))).map fun id => (id.splitOn ".").getLastD id) (by simpa using h2)
      exact ⟨m, by simp only [Instr.least]; exact hm⟩
    · obtain ⟨m, hm⟩ := least_some h1
      exact ⟨m, by rw [hm]; rfl⟩

theorem op_typeAssert {x : Operand} {xt t : TypeId} (h : evOp P env (.typeAssert x xt t true) s = .ok v s') : OpOk P s s' env (.typeAssert x xt t true) v := by
  have mx : x ∈ (Op.typeAssert x xt t true).operands.toList := by simp [Op.operands]
  simp only [evOp] at h
  split at h
  · rename_i d u want hx hu
    split at h
    · rename_i i hi
      split at h
      · rename_i hl
        cases h
        refine opOk_pure (fun D hin => ⟨hin x mx _ hx, trivial, trivial⟩) (fun φ w ρ r hr hρ => ?_)
        have hx' := hρ x mx _ hx
        have hm := (lacks_ok want i.methods).1 hl
        obtain ⟨_, _, _, _, _, _⟩ := r
        cases hr
        simp only [execOp, Instr.typeAssert]
        rw [hx']
        simp [run_underlying hu, conc, concL, typeInfo, hi, hm]
      · rename_i hl
        split at h
        · rename_i z hz
          cases h
          refine opOk_pure (fun D hin => ⟨(zeroT_ok hz default (fun _ => ⟨0, 0⟩)).2.1 D, trivial, trivial⟩) (fun φ w ρ r hr hρ => ?_)
          have hx' := hρ x mx _ hx
          have hzr := (zeroT_ok hz w φ).1
          obtain ⟨m, hm⟩ := (lacks_ok want i.methods).2 hl
          obtain ⟨_, _, _, _, _, _⟩ := r
          cases hr
          simp only [execOp, Instr.typeAssert]
          rw [hx']
          simp [run_underlying hu, conc, concL, typeInfo, hi, hm, hzr]
        · cases h
    · cases h
  · cases h

def isB (v : Option Value) (n : Option Nat) : Prop := (v = none ∧ n = none) ∨ ∃ (k : IntKind) (i : Nat), v = some (.int k (i : Int)) ∧ n = some i
theorem run_bound (k : IntKind) (i y : Nat) (code : BoundsCode) (h : i ≤ y) (w : World) : (Instr.sliceBound (.int k (i : Int)) y code).run P w = .ok i w := by
  simp [Instr.sliceBound, asIntOf, h]
theorem run_bounds {lo hi mx : Option Value} {l h m : Option Nat} (hl : isB lo l) (hh : isB hi h) (hm : isB mx m) (len cap : Nat) (hhm : h = none → m = none) (h1 : m.getD cap ≤ cap) (h2 : h.getD len ≤ m.getD cap) (h3 : l.getD 0 ≤ h.getD len) (w : World) :
    (Instr.sliceBounds true len cap lo hi mx).run P w = .ok (l.getD 0, h.getD len, m.getD cap) w := by
  rcases hm with ⟨rfl, rfl⟩ | ⟨km, im, rfl, rfl⟩
  · rcases hh with ⟨rfl, rfl⟩ | ⟨kh, ih, rfl, rfl⟩
    · rcases hl with ⟨rfl, rfl⟩ | ⟨kl, il, rfl, rfl⟩
      · simp [Instr.sliceBounds]
      · simp at h3
        simp [Instr.sliceBounds, run_bound, h3]
    · simp at h2
      rcases hl with ⟨rfl, rfl⟩ | ⟨kl, il, rfl, rfl⟩
      · simp [Instr.sliceBounds, run_bound, h2]
      · simp at h3
        simp [Instr.sliceBounds, run_bound, h2, h3]
  · rcases hh with ⟨rfl, rfl⟩ | ⟨kh, ih, rfl, rfl⟩
    · cases hhm rfl
    · simp at h1 h2
      rcases hl with ⟨rfl, rfl⟩ | ⟨kl, il, rfl, rfl⟩
      · simp [Instr.sliceBounds, run_bound, h1, h2]
      · simp at h3
        simp [Instr.sliceBounds, run_bound, h1, h2, h3]

theorem run_slice_go {t e : TypeId} {l h m : Option Nat} (hu : P.underlying t = some (.slice e)) (hz : 1 ≤ sizeT P e) {lo hi mx : Option Value} (hl : isB lo l) (hh : isB hi h) (hm : isB mx m) (w : World) :
    ∀ (a : Option Addr) (len cap : Nat), (h = none → m = none) → m.getD cap ≤ cap → h.getD len ≤ m.getD cap → l.getD 0 ≤ h.getD len →
      (Instr.sliceAt t (.slice a len cap) lo hi mx).run P w = .ok (.slice (if m.getD cap = l.getD 0 then a else a.map (·.add (l.getD 0 * sizeT P e))) (h.getD len - l.getD 0) (m.getD cap - l.getD 0)) w := by
  have hsz := run_sizeT (P := P) (t := e) (by omega) w
  intro a len cap c0 c1 c2 c3
  have hb := run_bounds (P := P) hl hh hm len cap c0 c1 c2 c3 w
  simp [Instr.sliceAt, Instr.slice, run_underlying hu, hb, hsz]
/-- What is left of a slice behind its first elements. -/
theorem run_slice_tail {t e : TypeId} {l : Option Nat} (hu : P.underlying t = some (.slice e)) (hz : 1 ≤ sizeT P e) {lo hi mx : Option Value} (hl : isB lo l) (hh : isB hi none) (hm : isB mx none) (w : World) (φ : Phi) (b k j len tot : Nat)
    (c2' : k + len ≤ tot) (c3' : 1 ≤ l.getD 0) (c4' : l.getD 0 ≤ len) :
    (Instr.sliceAt t (conc φ (.oslice b (sizeT P e) k j len tot)) lo hi mx).run P w = .ok (conc φ (.oslice b (sizeT P e) (k + l.getD 0) k (len - l.getD 0) tot)) w := by
  simp only [conc]
  rw [run_slice_go hu hz hl hh hm w _ _ _ (fun _ => rfl) (Nat.le_refl _) (by simp; omega) (by simpa using c4')]
  simp only [Option.getD_none, show ¬ (k = tot) by omega, and_false, if_false]
  generalize l.getD 0 = L at *
  have hadd : ∀ n : Nat, (⟨(φ b).blk, k * sizeT P e, none⟩ : Addr).add n = ⟨(φ b).blk, k * sizeT P e + n, none⟩ := by
    intro n; unfold Addr.add; split <;> simp_all
  simp only [Option.map_some, hadd]
  have e1 : tot - k + (φ b).slack - L = tot - (k + L) + (φ b).slack := by omega
  rw [e1]
  by_cases hc : tot - k + (φ b).slack = L
  · rw [if_pos hc, if_pos (by omega)]
  · rw [if_neg hc, if_neg (by omega)]
    simp [Nat.add_mul]

theorem slA_ok {t e : TypeId} {x : AV} {l h m : Option Nat} (hu : P.underlying t = some (.slice e)) (hz : 1 ≤ sizeT P e) (hs : slA (sizeT P e) x l h m = some v) {lo hi mx : Option Value} (hl : isB lo l) (hh : isB hi h) (hm : isB mx m) (φ : Phi) (w : World) :
    (Instr.sliceAt t (conc φ x) lo hi mx).run P w = .ok (conc φ v) w := by
  have hsz := run_sizeT (P := P) (t := e) (by omega) w
  have go := run_slice_go hu hz hl hh hm w
  unfold slA at hs
  split at hs
  · rename_i b off len cap
    split at hs
    · cases hs
    · rename_i hne
      split at hs
      · rename_i c1 c2 c3
        cases hs
        have c1' := Nat.le_of_ble_eq_true c1
        have c2' := Nat.le_of_ble_eq_true c2
        have c3' := Nat.le_of_ble_eq_true c3
        simp only [conc]
        rw [go _ _ _ (by
          intro hn; subst hn
          cases m with
          | none => rfl
          | some m => exact (hne m rfl rfl).elim) c1' c2' c3']
        cases hq : Nat.beq (m.getD cap) (l.getD 0) with
        | true => simp [Nat.eq_of_beq_eq_true hq]
        | false =>
          have := Nat.ne_of_beq_eq_false hq
          simp [this, Addr.add]
      · cases hs
  · rename_i b z k j len tot
    split at hs
    · rename_i c1 c2
      have c1' := Nat.eq_of_beq_eq_true c1
      have c2' := Nat.le_of_ble_eq_true c2
      subst c1'
      split at hs
      · split at hs
        · rename_i c3 c4
          cases hs
          have c3' := Nat.le_of_ble_eq_true c3
          have c4' := Nat.le_of_ble_eq_true c4
          exact run_slice_tail hu hz hl hh hm w φ b k j len tot c2' c3' c4'
        · cases hs
      · rename_i h'
        split at hs
        · rename_i c3 c4 c5 c6
          cases hs
          have c3' := Nat.eq_of_beq_eq_true c3
          have c4' := Nat.eq_of_beq_eq_true c4
          have c5' := Nat.eq_of_beq_eq_true c5
          have c6' := Nat.le_of_ble_eq_true c6
          subst c4' c5'
          simp only [conc]
          rw [go _ _ _ (fun h => by cases h) (Nat.le_refl _) (by simp; omega) (by rw [c3']; exact Nat.zero_le _)]
          rw [c3']
          simp [Addr.add]
        · cases hs
      · rename_i h' m'
        split at hs
        · rename_i c3 c4 c5 c6 c7
          cases hs
          have c3' := Nat.eq_of_beq_eq_true c3
          have c4' := Nat.eq_of_beq_eq_true c4
          have c5' := Nat.eq_of_beq_eq_true c5
          have c6' := Nat.le_of_ble_eq_true c6
          have c7' := Nat.le_of_ble_eq_true c7
          subst c4' c5'
          simp only [conc]
          rw [go _ _ _ (fun h => by cases h) (by simp; omega) (by simpa using c6') (by rw [c3']; exact Nat.zero_le _)]
          rw [c3']
          simp [Addr.add]
        · cases hs
      · cases hs
    · cases hs
  · split at hs
    · cases hs
      simp only [conc]
      rw [go _ _ _ (fun _ => rfl) (Nat.le_refl _) (Nat.le_refl _) (Nat.le_refl _)]
      simp
    · cases hs
  · cases hs
theorem slS_ok {t e : TypeId} {x : AV} {l h m : Option Nat} {q : Prop} (hu : P.underlying t = some (.slice e)) (hz : 1 ≤ sizeT P e) (hs : slS (sizeT P e) x l h m = some (v, q)) (hq : q) {lo hi mx : Option Value} (hl : isB lo l) (hh : isB hi h) (hm : isB mx m) (φ : Phi) (w : World) :
    (Instr.sliceAt t (conc φ x) lo hi mx).run P w = .ok (conc φ v) w := by
  unfold slS at hs
  split at hs
  · split at hs
    · rename_i h0
      cases hs
      have h0' := Nat.eq_of_beq_eq_true h0
      simp only [conc]
      rw [run_slice_go hu hz hl hh hm w _ _ _ (fun h => by cases h) (by simp) (by simp) (by rw [h0']; simp)]
      simp [h0']
    · cases hs
  · split at hs
    · split at hs
      · rename_i h0 h1 h2
        cases hs
        have h0' := Nat.eq_of_beq_eq_true h0
        have h1' := Nat.eq_of_beq_eq_true h1
        have h2' := Nat.eq_of_beq_eq_true h2
        subst h1' h2'
        simp only [conc]
        rw [run_slice_go hu hz hl hh hm w _ _ _ (fun h => by cases h) (by simp) (by simp) (by rw [h0']; simp)]
        simp [h0']
      · cases hs
    · split at hs
      · rename_i h0
        cases hs
        have h0' := Nat.eq_of_beq_eq_true h0
        subst h0'
        exact run_slice_tail hu hz hl hh hm w φ _ _ _ _ _ hq.2.2 hq.1 hq.2.1
      · cases hs
    · cases hs
  · cases hs
theorem slS_all {D : Nat → Prop} {sz : Nat} {x : AV} {l h m : Option Nat} {q : Prop} (hs : slS sz x l h m = some (v, q)) (hx : x.All D) : v.All D := by
  unfold slS at hs
  repeat' split at hs
  all_goals first | (cases hs; exact hx) | cases hs
theorem slA_all {D : Nat → Prop} {sz : Nat} {x : AV} {l h m : Option Nat} (hs : slA sz x l h m = some v) (hx : x.All D) : v.All D := by
  unfold slA at hs
  repeat' split at hs
  all_goals first | (cases hs; exact hx) | cases hs
theorem op_slice {t : TypeId} {x : Operand} {lo hi mx : Option Operand} (h : evOp P env (.slice t x lo hi mx) s = .ok v s') : OpOk P s s' env (.slice t x lo hi mx) v := by
  have m0 : x ∈ (Op.slice t x lo hi mx).operands.toList := by simp [Op.operands]
  have m1 : ∀ y, lo = some y → y ∈ (Op.slice t x lo hi mx).operands.toList := by intro y hy; subst hy; simp [Op.operands]
  have m2 : ∀ y, hi = some y → y ∈ (Op.slice t x lo hi mx).operands.toList := by intro y hy; subst hy; simp [Op.operands]
  have m3 : ∀ y, mx = some y → y ∈ (Op.slice t x lo hi mx).operands.toList := by intro y hy; subst hy; simp [Op.operands]
  simp only [evOp] at h
  split at h
  · rename_i u l hh m hx hl hhi hm
    unfold evSlice at h
    split at h
    · rename_i e l' h' m' he hbl hbh hbm
      split at h
      · rename_i c1
        have c1' := Nat.le_of_ble_eq_true c1
        have key : ∀ (ρ : Operand → Value) (φ : Phi), RdO φ env ρ (.slice t x lo hi mx) → ∀ (z : Option Operand) (q : Option AV) (n : Option Nat), (∀ y, z = some y → y ∈ (Op.slice t x lo hi mx).operands.toList) →
            (match z with | none => some none | some y => (match evA env y with | some v => some (some v) | none => none)) = some q → bnd q = some n → isB (z.map ρ) n := by
          intro ρ φ hρ z q n hz hq hb
          cases z with
          | none => simp at hq; subst hq; simp [bnd] at hb; subst hb; exact .inl ⟨rfl, rfl⟩
          | some y =>
            simp only at hq
            cases hy : evA env y with
            | none => rw [hy] at hq; cases hq
            | some a =>
              rw [hy] at hq; cases hq
              cases a with
              | int k i =>
                cases i with
                | ofNat i => cases hb; exact .inr ⟨k, i, by simp [hρ y (hz y rfl) _ hy, conc], rfl⟩
                | negSucc i => cases hb
              | _ => cases hb
        have fin : ∀ (φ : Phi) (w : World) (ρ : Operand → Value) (r : Oper) (a : AV), r.op = .slice t x lo hi mx → RdO φ env ρ (.slice t x lo hi mx) → (Instr.sliceAt t (conc φ u) (lo.map ρ) (hi.map ρ) (mx.map ρ)).run P w = .ok (conc φ a) w → (execOp ρ r).run P w = .ok (.value (conc φ a)) w := by
          intro φ w ρ r a hr hρ hrun
          have hx' := hρ x m0 _ hx
          obtain ⟨_, _, _, _, _, _⟩ := r
          cases hr
          simp only [execOp]
          rw [hx']
          simp [hrun]
        split at h
        · rename_i a hs
          cases h
          exact opOk_pure (fun D hin => slA_all hs (hin x m0 _ hx)) (fun φ w ρ r hr hρ => fin φ w ρ r _ hr hρ (slA_ok (P := P) (elemT_ok he) c1' hs (key ρ φ hρ lo l l' m1 hl hbl) (key ρ φ hρ hi hh h' m2 hhi hbh) (key ρ φ hρ mx m m' m3 hm hbm) φ w))
        · split at h
          · rename_i a q hs
            cases h
            refine opOk_quiet _ (Quiet.of_ask s q) (fun D _ hin _ => slS_all hs (hin x m0 _ hx)) (fun φ w ρ r hr hp _ hρ => ?_)
            rw [ask_eq] at hp
            exact fin φ w ρ r _ hr hρ (slS_ok (P := P) (elemT_ok he) c1' hs hp.2 (key ρ φ hρ lo l l' m1 hl hbl) (key ρ φ hρ hi hh h' m2 hhi hbh) (key ρ φ hρ mx m m' m3 hm hbm) φ w)
          · cases h
      · cases h
    · cases h
  · cases h
end Ev
end Go.Proofs.YtpkfimijnkkbjaaGreat
