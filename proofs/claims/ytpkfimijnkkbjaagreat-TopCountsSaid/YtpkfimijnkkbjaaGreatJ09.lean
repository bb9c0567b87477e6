/-
  Each operation of the reckoner does in a memory what it reckons: Go's builtin functions.
-/
import Derived.Test.YtpkfimijnkkbjaaGreatJ08
set_option linter.unusedVariables false
namespace Go.Proofs.YtpkfimijnkkbjaaGreat
namespace Ev

variable {P : Program} {s s' : St} {env : Env} {o : Op} {v : AV}

theorem len_ok {y : AV} {n : Nat} (h : y.len = some n) (φ : Phi) : ∃ a c, conc φ y = .slice a n c := by
  unfold AV.len at h
  split at h <;> first | (cases h; exact ⟨_, _, rfl⟩) | cases h

theorem loadSl_ok {α : Type} {sz n : Nat} {y : AV} {k : List AV → St → Res α} {a : α} (h : loadSl s sz y n k = .ok a s') :
    ∃ R vs s1, Quiet s s1 R ∧ k vs s1 = .ok a s' ∧ (s1.pre → vs.length = n * sz) ∧ (∀ D : Nat → Prop, s1.pre → (∀ b o, R b → s.get b = some o → o.All D) → AllL D vs) ∧
      (∀ φ w, s1.pre → Fits s R φ w → n ≠ 0 → ∃ adr len cap, conc φ y = .slice (some adr) len cap ∧ ∀ j u, (concL φ vs)[j]? = some u → w.cell? (adr.add j) = some u) ∧ (n = 0 → vs = [] ∧ s1 = s) := by
  unfold loadSl at h
  split at h
  · exact ⟨_, [], s, Quiet.refl s, h, fun _ => by simp, fun D _ _ => trivial, fun _ _ _ _ h => absurd rfl h, fun _ => ⟨rfl, rfl⟩⟩
  · rename_i n'
    split at h
    · rename_i b off len hsl
      split at h
      · rename_i hlen
        have hlen' := Nat.le_of_ble_eq_true hlen
        obtain ⟨sy, l, t, q, vs, s1, hg, hq, hpre, h⟩ := loadN_ok h
        refine ⟨_, vs, s1, hq, h, fun hp => (hpre hp).1, fun D hp hR => ?_, fun φ w hp hf _ => ?_, fun h => by cases h⟩
        · obtain ⟨h1, h2⟩ := hpre hp
          exact allL_of_get (hR b _ rfl hg) (fun i hi => h2 i (by omega))
        · obtain ⟨h1, h2⟩ := hpre hp
          have hc := (hf.holds b _ rfl hg).cells (off := off) (vs := vs) (fun i hi => h2 i (by omega))
          unfold AV.sl at hsl
          split at hsl
          · cases hsl
          · cases hsl; exact ⟨_, _, _, rfl, hc⟩
          · split at hsl
            · rename_i hz hk
              cases hsl
              have hk' := Nat.le_of_ble_eq_true hk
              refine ⟨_, _, _, rfl, ?_⟩
              rw [if_neg (by omega)]
              exact hc
            · cases hsl
          · cases hsl
      · cases h
    · cases h

theorem run_bi {c : Call} {b : Builtin} (hb : c.callee = .builtin b) {args : List AV} (ha : evAs env c.args.toList = some args) {φ : Phi} {ρ : Operand → Value} (hρ : RdO φ env ρ (.call c)) (r : Oper) (hr : r.op = .call c) (w : World) :
    (execOp ρ r).run P w = (builtin b c.argTypes r.type (c.args.map fun | .const _ => true | _ => false) (concL φ args).toArray).run P w := by
  have h1 := evAs_ok (φ := φ) (ρ := ρ) ha (fun x hx => hρ x (by simp [Op.operands, Call.operands]; exact .inr (by simpa using hx)))
  have h2 : c.args.map ρ = (concL φ args).toArray := by rw [← h1]; simp [← Array.toList_map]
  obtain ⟨_, _, _, _, _, _⟩ := r
  cases hr
  simp [execOp, resolve, hb, invoke, h2]
  rfl
theorem args_all {c : Call} {args : List AV} (ha : evAs env c.args.toList = some args) {D : Nat → Prop} (hin : insO env (.call c) D) : AllL D args :=
  evAs_all ha (fun x hx => hin x (by simp [Op.operands, Call.operands]; exact .inr (by simpa using hx)))

theorem zeroOk_ok {e : TypeId} (h : zeroOk P e = true) : ∃ z i zz, zeroT P e = some z ∧ P.info? e = some i ∧ i.zero = some zz ∧ zz.cells.size = sizeT P e ∧ i.size = sizeT P e ∧ i.bytes = P.bytesOf e := by
  unfold zeroOk at h
  split at h
  · rename_i z hz
    have h' := Nat.eq_of_beq_eq_true h
    rw [lenL_eq] at h'
    obtain ⟨_, _, i, zz, hi, hzz, hcz⟩ := zeroT_ok hz default (fun _ => ⟨0, 0⟩)
    refine ⟨z, i, zz, hz, hi, hzz, ?_, by simp [sizeT, hi], by simp [Program.bytesOf, hi]⟩
    rw [← hcz, conc_cells]
    simpa [concL_length] using h'
  · cases h
theorem roomy_ok {e : TypeId} {n : Nat} (h : roomy P e n = true) : n * P.bytesOf e ≤ 140737488355328 ∧ n ≤ maxLen := by
  unfold roomy at h
  rw [Bool.and_eq_true] at h
  exact ⟨Nat.le_of_ble_eq_true h.1, Nat.le_of_ble_eq_true h.2⟩

/-- What is appended to nothing, or to no more than there is, in a memory. -/
theorem run_append_zero {t ty e : TypeId} {i : TypeInfo} (ht : P.underlying t = some (.slice e)) (hi : P.info? e = some i) (base : Option Addr) (len cap : Nat) (hlc : len ≤ cap) (a : Option Addr) (c : Nat) (w : World) :
    (Builtin.append_ #[t, t] ty #[.slice base len cap, .slice a 0 c]).run P w = .ok (.slice base len cap) w := by
  cases a <;> cases base <;> simp [Builtin.append_, run_underlying ht, sizeOf, typeInfo, hi, Builtin.lenOf, hlc, Builtin.firstCells, loadCells, loadCellsFrom, storeCells]

/-- A grown row. -/
theorem holds_grown {φ : Phi} {w : World} {n need old sz : Nat} {l : List AV} {e : TypeId} {zz : Value} (hl : AllL (· < n) l) (hlen : l.length = need * sz) (hz : zz.cells.size = sz) (hm : need ≤ maxLen) :
    Holds (upd φ n ⟨w.heap.size, grownCap w need old e - need⟩) n (.row false l e (some sz))
      (w.drew.alloc (.cells ((concL φ l).toArray ++ Builtin.zeroCells zz.cells (grownCap w need old e - need)) e)) := by
  unfold Holds
  simp only [upd_at]
  rw [concL_congr (D := (· < n)) (fun i hi => upd_ne _ _ (by omega)) hl]
  have h1 := grownCap_ge w need old e
  have h2 := grownCap_le_maxLen w need old e hm
  exact ⟨_, need, heap_alloc_new w.drew _, by rw [size_zeroCells, hz], hlen, by omega⟩
theorem conc_grown (φ : Phi) (n b sz need cap : Nat) (h : need ≤ cap) : conc (upd φ n ⟨b, cap - need⟩) (.oslice n sz 0 0 need need) = .slice (some ⟨b, 0, none⟩) need cap := by
  unfold conc
  simp only [upd_at]
  congr 1
  · simp
  · omega

theorem Quiet.ext {s s1 : St} {R R' : Nat → Prop} (h : Quiet s s1 R) (hr : ∀ b, R' b → R b) : Quiet s s1 R' := ⟨h.heap, h.next, fun b hb => h.rd b (hr b hb), h.rdm, h.wrm, h.pre⟩
theorem heap_drew_alloc (w : World) (o : Obj) : (∀ r, r < w.heap.size → (w.drew.alloc o).heap[r]? = w.heap[r]?) ∧ Grew w (w.drew.alloc o) :=
  ⟨fun r hr => heap_alloc_old w.drew _ hr, by simp, rfl, rfl⟩

theorem killed_made_sp {s s1 : St} {R : Nat → Prop} (h : Quiet s s1 R) {b : Nat} {x old : AObj} (hb : R b) (hg : s.get b = some old) :
    Sp s ((s1.killed b).made x) (fun c => R c ∨ c = s.next) (fun c => c = b ∨ c = s.next) where
  next := by show s.next ≤ s1.next + 1; rw [h.next]; omega
  same c hc := by
    rw [get_made_ne (by show c ≠ s1.next; rw [h.next]; exact fun e => hc (.inr e))]
    show Tr.look deep (Tr.put deep s1.heap b none) c = _
    rw [look_put_ne _ _ _ _ _ (fun e => hc (.inl e.symm)), h.heap]; rfl
  sub c hc := hc.elim (fun e => .inl (e ▸ hb)) .inr
  rd c hc := hc.elim (fun hc => mark_old _ _ _ (h.rd c hc)) (fun hc => by subst hc; rw [← h.next]; exact mark_self _ _)
  wr c hc := hc.elim (fun hc => by subst hc; exact mark_old _ _ _ (mark_self _ _)) (fun hc => by subst hc; rw [← h.next]; exact mark_self _ _)
  rdm c hc := mark_old _ _ _ (h.rdm c hc)
  wrm c hc := mark_old _ _ _ (mark_old _ _ _ (h.wrm c hc))
  lt c hc hn := hc.elim (fun e => by subst e; rw [hg] at hn; cases hn) (fun e => by subst e; show s.next < s1.next + 1; rw [h.next]; omega)
  made c h1 h2 := by change c < s1.next + 1 at h2; rw [h.next] at h2; exact .inr (by omega)
  born c h1 h2 := by
    by_cases hc : c = s.next
    · omega
    · rw [get_made_ne (by show c ≠ s1.next; rw [h.next]; exact hc)] at h2
      by_cases hcb : c = b
      · subst hcb; rw [hg] at h1; cases h1
      · change Tr.look deep (Tr.put deep s1.heap b none) c ≠ none at h2
        rw [look_put_ne _ _ _ _ _ (fun e => hcb e.symm), h.heap] at h2
        exact absurd h1 h2
  pre := h.pre
theorem killed_made_moves {s s1 : St} {R : Nat → Prop} (h : Quiet s s1 R) {b : Nat} {x old : AObj} (hg : s.get b = some old) (hlt : b < s.next) {φ : Phi} {w w' : World} {y : Slot} (hh : Holds (upd φ s.next y) s.next x w')
    (hy : w.heap.size ≤ y.blk ∨ y.blk = (φ b).blk) (hfr : ∀ r, r < w.heap.size → r ≠ (φ b).blk → w'.heap[r]? = w.heap[r]?) (hsz : Grew w w') :
    Moves s ((s1.killed b).made x) (fun c => c = b ∨ c = s.next) φ (upd φ s.next y) w w' := by
  have dead : ∀ o, ((s1.killed b).made x).get b = some o → False := by
    intro o ho
    rw [get_made_ne (by show b ≠ s1.next; rw [h.next]; omega)] at ho
    have := look_put_eq _ _ _ _ _ ho
    cases this
  have only : ∀ c, (c = b ∨ c = s.next) → ((s1.killed b).made x).get c ≠ none → c = s.next := by
    intro c hc hn
    rcases hc with rfl | rfl
    · obtain ⟨o, ho⟩ := some_of_ne hn; exact (dead o ho).elim
    · rfl
  exact {
    agree := fun i hi => by
      change ¬ (s.next ≤ i ∧ i < s1.next + 1) at hi
      rw [h.next] at hi
      exact upd_ne _ _ (by omega)
    holds := fun c o hc ho => by
      rcases hc with rfl | rfl
      · exact (dead o ho).elim
      · have : ((s1.killed b).made x).get (s1.killed b).next = some o := by show _ = _; rw [show (s1.killed b).next = s.next from h.next]; exact ho
        rw [get_made this]; exact hh
    inj := fun c d hc hd hgc hgd _ => by rw [only c hc hgc, only d hd hgd]
    source := fun c hc hgc => by
      rw [only c hc hgc, upd_at]
      exact hy.imp id fun e => ⟨b, .inl rfl, by rw [hg]; simp, e⟩
    frame := fun r hr hc => hfr r hr fun e => hc b (.inl rfl) (by rw [hg]; simp) e.symm
    size := hsz.1, kept := hsz.2 }

theorem Holds.sym {φ : Phi} {b : Nat} {sy sy' : Bool} {l : List AV} {t : TypeId} {q : Option Nat} {w : World} (h : Holds φ b (.row sy l t q) w) : Holds φ b (.row sy' l t q) w := by
  cases q <;> exact h
theorem append_kill {s s1 : St} {t t1 : TypeId} {i : TypeInfo} {zz : Value} {R : Nat → Prop} {b n0 m : Nat} {sy sy' : Bool} {olds news : List AV} {φ : Phi} {w : World} {adr : Addr}
    (hu : P.underlying t = some (.slice t1)) (hi : P.info? t1 = some i) (hzz : i.zero = some zz) (hzs : zz.cells.size = sizeT P t1) (hsi : i.size = sizeT P t1) (hby : i.bytes = P.bytesOf t1) (h2' : 1 ≤ sizeT P t1)
    (hq : Quiet s s1 R) (hRb : R b) (hgs : s.get b = some (.row sy olds t1 (some (sizeT P t1)))) (hbn : b < s.next) (hH : Holds φ b (.row sy olds t1 (some (sizeT P t1))) w)
    (c3' : olds.length = n0 * sizeT P t1) (hln1 : news.length = (m + 1) * sizeT P t1) (hr1 : (n0 + (m + 1)) * P.bytesOf t1 ≤ 140737488355328) (hr2 : n0 + (m + 1) ≤ maxLen) (c5 : flatL news = true)
    (hold : AllL (· < s.next) (olds ++ news)) (hcells : ∀ j u, (concL φ news)[j]? = some u → w.cell? (adr.add j) = some u) :
    ∃ φ' w', (∀ ty cap, (Builtin.append_ #[t, t] ty #[conc φ (.oslice b (sizeT P t1) 0 0 n0 n0), .slice (some adr) (m + 1) cap]).run P w = .ok (conc φ' (.oslice s.next (sizeT P t1) 0 0 (n0 + (m + 1)) (n0 + (m + 1)))) w') ∧
      Moves s ((s1.killed b).made (.row sy' (olds ++ news) t1 (some (sizeT P t1)))) (fun c => c = b ∨ c = s.next) φ φ' w w' := by
  have hln : (olds ++ news).length = (n0 + (m + 1)) * sizeT P t1 := by rw [List.length_append, c3', hln1, ← Nat.add_mul]
  have hcells1 : ∀ j u, (concL φ olds)[j]? = some u → w.cell? ((⟨(φ b).blk, 0, none⟩ : Addr).add j) = some u := hH.cells (off := 0) (vs := olds) (fun i hi => by simp)
  obtain ⟨rest, n1, hrow, hrest, hn0, hcap⟩ := hH
  have hn0' : n1 = n0 := by
    rw [c3'] at hn0
    exact (Nat.eq_of_mul_eq_mul_right (by omega) hn0).symm
  subst hn0'
  have hx : conc φ (.oslice b (sizeT P t1) 0 0 n1 n1) = .slice (some ⟨(φ b).blk, 0, none⟩) n1 (n1 + (φ b).slack) := by
    simp [conc]
  by_cases hroom : m + 1 ≤ (φ b).slack
  · -- in place
    have hsz : ((concL φ olds).toArray ++ rest).size = (n1 + (φ b).slack) * sizeT P t1 := by
      simp [concL_length, c3', hrest, Nat.add_mul]
    have hfit : n1 * i.size + (concL φ news).length ≤ ((concL φ olds).toArray ++ rest).size := by
      rw [hsz, concL_length, hln1, hsi, ← Nat.add_mul]
      exact Nat.mul_le_mul_right _ (by omega)
    have hcells' : (((concL φ olds).toArray ++ rest).toList.take (n1 * i.size) ++ concL φ news ++ ((concL φ olds).toArray ++ rest).toList.drop (n1 * i.size + (concL φ news).length)).toArray =
        (concL φ (olds ++ news)).toArray ++ (rest.toList.drop ((m + 1) * sizeT P t1)).toArray := by
      apply Array.ext'
      simp only [Array.toList_append, concL_append, hsi, concL_length, hln1]
      have e1 : n1 * sizeT P t1 = (concL φ olds).length := by rw [concL_length, c3']
      rw [List.take_append_of_le_length (by simp [e1]), List.drop_append]
      simp [e1]
    refine ⟨upd φ s.next ⟨(φ b).blk, (φ b).slack - (m + 1)⟩, w.setRow (φ b).blk ((concL φ (olds ++ news)).toArray ++ (rest.toList.drop ((m + 1) * sizeT P t1)).toArray), fun ty cap => ?_, killed_made_moves hq hgs hbn ?_ ?_ ?_ ?_⟩
    · rw [hx]
      have := run_append_room (P := P) w t (ty := ty) t1 i hu hi (φ b).blk n1 (n1 + (φ b).slack) _ hrow adr (m + 1) cap (concL φ news) (by rw [concL_length, hln1, hsi]) hcells (flatL_one c5) (by omega) hfit
      rw [this, hcells']
      congr 1
      unfold conc
      simp only [upd_at]
      congr 1
      · simp
      · omega
    · refine ⟨(rest.toList.drop ((m + 1) * sizeT P t1)).toArray, n1 + (m + 1), ?_, ?_, hln, ?_⟩
      · simp only [upd_at]
        rw [concL_congr (D := (· < s.next)) (fun i hi => upd_ne _ _ (by omega)) hold]
        exact setRow_heap w _ _ _ _ _ hrow
      · simp only [upd_at]
        simp [hrest, Nat.sub_mul]
      · simp only [upd_at]; omega
    · exact .inr rfl
    · intro k hk hne
      exact setRow_other w _ k _ hne
    · exact ⟨Nat.le_of_eq (by unfold World.setRow; simp), rfl, rfl⟩
  · have hroom' : n1 + (φ b).slack < n1 + (m + 1) := by omega
    refine ⟨upd φ s.next ⟨w.heap.size, grownCap w (n1 + (m + 1)) (n1 + (φ b).slack) t1 - (n1 + (m + 1))⟩, _, fun ty cap => ?_, killed_made_moves hq hgs hbn (holds_grown hold hln hzs hr2) (.inl (Nat.le_refl _)) (fun k hk _ => (heap_drew_alloc w _).1 k hk) (heap_drew_alloc w _).2⟩
    rw [hx, conc_grown φ s.next w.heap.size (sizeT P t1) (n1 + (m + 1)) _ (grownCap_ge _ _ _ _)]
    have := run_append_grow (P := P) w t ty t1 i zz hu hi hzz ⟨(φ b).blk, 0, none⟩ n1 (n1 + (φ b).slack) (concL φ olds) (by rw [concL_length, c3', hsi]) hcells1 adr (m + 1) cap (concL φ news) (by rw [concL_length, hln1, hsi]) hcells hroom'
      (by simp only [maxLen] at hr2; omega) (growslice_fits hroom' (by rw [hby]; exact hr1))
    rw [this]
    simp [concL_append]

theorem killed_made_ids {s s1 : St} {R : Nat → Prop} (hq : Quiet s s1 R) {b : Nat} {x : AObj} {v : AV} {ins : (Nat → Prop) → Prop} (hv : ∀ D : Nat → Prop, D s.next → v.All D)
    (hid : ∀ D : Nat → Prop, s1.pre → (∀ c y, R c → s.get c = some y → y.All D) → x.All D) : Ids s ((s1.killed b).made x) (fun c => R c ∨ c = s.next) (fun c => c = b ∨ c = s.next) ins (fun D => v.All D) := by
  intro D hp hD _ hR
  have hD' : D s.next := hD s.next (Nat.le_refl _) (by show s.next < s1.next + 1; rw [hq.next]; omega)
  refine ⟨hv D hD', fun c y hc hg => ?_⟩
  by_cases hcn : c = s.next
  · subst hcn
    have : ((s1.killed b).made x).get (s1.killed b).next = some y := by
      rw [show (s1.killed b).next = s.next from hq.next]; exact hg
    rw [get_made this]
    exact hid D hp (fun c y hc hg => hR c y (.inl hc) hg)
  · have hcb := hc.resolve_right hcn
    subst hcb
    rw [get_made_ne (by rw [show (s1.killed c).next = s.next from hq.next]; exact hcn)] at hg
    have := look_put_eq _ _ _ _ _ hg
    cases this

theorem sy_ok {y : AV} {sz b off len : Nat} {q : Prop} (h : y.sy sz = some (b, off, len, q)) (φ : Phi) (hq : q) (hl : 0 < len) : ∃ cap, conc φ y = .slice (some ⟨(φ b).blk, off, none⟩) len cap := by
  unfold AV.sy at h
  split at h
  · cases h; exact ⟨_, rfl⟩
  · split at h
    · rename_i hz
      cases h
      unfold conc
      rw [if_neg (by omega)]
      exact ⟨_, rfl⟩
    · cases h
  · cases h
theorem sy_len {y : AV} {sz b off len : Nat} {q : Prop} (h : y.sy sz = some (b, off, len, q)) (φ : Phi) : ∃ a cap, conc φ y = .slice a len cap := by
  unfold AV.sy at h
  split at h
  · cases h; exact ⟨_, _, rfl⟩
  · split at h
    · cases h; exact ⟨_, _, rfl⟩
    · cases h
  · cases h
theorem loadS_ok {α : Type} {b off n : Nat} {k : List AV → St → Res α} {a : α} (h : loadS s b off n k = .ok a s') :
    ∃ sy l t q vs s1, s.get b = some (.row sy l t q) ∧ Quiet s s1 (fun c => c = b) ∧ (s1.pre → vs.length = n ∧ ∀ i, i < n → l[off + i]? = vs[i]?) ∧ k vs s1 = .ok a s' := by
  unfold loadS at h
  obtain ⟨x, hg, h⟩ := rdBlk_ok h
  split at h
  · rename_i sy l t q
    refine ⟨sy, l, t, q, _, _, hg, ?_, ?_, h⟩
    · rw [ask_eq]; exact ⟨rfl, rfl, fun c hc => by subst hc; exact mark_self _ _, fun c hc => mark_old _ _ _ hc, fun _ hc => hc, fun hc => hc.1⟩
    · rw [ask_eq]; intro hc
      have hl := hc.2
      refine ⟨by simp; omega, fun i hi => ?_⟩
      rw [List.getElem?_take_of_lt hi, List.getElem?_drop]
  · cases h

theorem op_append {c : Call} (hb : c.callee = .builtin .append) {x y : AV} {t u : TypeId} (ha : evAs env c.args.toList = some [x, y]) (hty : c.argTypes.toList = [t, u]) (h : evAppend P t u x y s = .ok v s') : OpOk P s s' env (.call c) v := by
  unfold evAppend at h
  split at h
  · cases h
  rename_i e he
  have hu := elemT_ok he
  have run : ∀ (φ : Phi) (w w' : World) (ρ : Operand → Value) (r : Oper) (q : Value), u = t → r.op = .call c → RdO φ env ρ (.call c) → (∀ ty, (Builtin.append_ #[t, t] ty #[conc φ x, conc φ y]).run P w = .ok q w') → (execOp ρ r).run P w = .ok (.value q) w' := by
    intro φ w w' ρ r q htu hr hρ hq
    rw [run_bi hb ha hρ r hr w]
    have : c.argTypes = #[t, t] := by rw [← htu]; subst htu; apply Array.ext'; rw [hty]
    rw [this]
    simp [builtin, concL, hq]
  split at h
  · -- nothing to append
    rename_i h1 h2 h3 hl
    have htu := (Nat.eq_of_beq_eq_true h1).symm
    obtain ⟨z, i, zz, hz, hi, hzz, _, hsi, _⟩ := zeroOk_ok h3
    have hall : ∀ D, insO env (.call c) D → x.All D := fun D hin => (args_all ha hin).1
    split at h
    · cases h
      refine opOk_pure (fun D hin => hall D hin) (fun φ w ρ r hr hρ => ?_)
      obtain ⟨a, cc, hy⟩ := len_ok hl φ
      exact run φ w w ρ r _ htu hr hρ (fun ty => by rw [hy]; exact run_append_zero hu hi _ _ _ (Nat.le_refl _) _ _ w)
    · split at h
      · rename_i hlc
        cases h
        refine opOk_pure (fun D hin => hall D hin) (fun φ w ρ r hr hρ => ?_)
        obtain ⟨a, cc, hy⟩ := len_ok hl φ
        exact run φ w w ρ r _ htu hr hρ (fun ty => by rw [hy]; exact run_append_zero hu hi _ _ _ (Nat.le_of_ble_eq_true hlc) _ _ w)
      · cases h
    · split at h
      · rename_i hlc
        cases h
        refine opOk_pure (fun D hin => hall D hin) (fun φ w ρ r hr hρ => ?_)
        obtain ⟨a, cc, hy⟩ := len_ok hl φ
        have := Nat.le_of_ble_eq_true hlc
        exact run φ w w ρ r _ htu hr hρ (fun ty => by rw [hy]; exact run_append_zero hu hi _ _ _ (by omega) _ _ w)
      · cases h
    · cases h
  · rename_i m h1 h2 h3 hl
    have htu := (Nat.eq_of_beq_eq_true h1).symm
    have h2' := Nat.le_of_ble_eq_true h2
    obtain ⟨z, i, zz, hz, hi, hzz, hzs, hsi, hby⟩ := zeroOk_ok h3
    split at h
    · -- to nil
      obtain ⟨R, vs, s1, hq, h, hlen, hid, hcell, _⟩ := loadSl_ok h
      split at h
      · rename_i hr hfl
        rw [newBlk_eq] at h
        cases h
        obtain ⟨hr1, hr2⟩ := roomy_ok hr
        rw [hq.next]
        refine opOk_made R hq _ _ (fun D hD => hD) (fun D hp _ hR => hid D hp hR) (fun φ w ρ r hr' hp hf ho hin hρ => ?_)
        have hold : AllL (· < s.next) vs := hid _ hp fun b o hb hg => (ho b o hb hg).2
        obtain ⟨adr, len, cap, hy, hcells⟩ := hcell φ w hp hf (by omega)
        obtain ⟨a', c', hy'⟩ := len_ok hl φ
        have : len = m + 1 := by rw [hy] at hy'; cases hy'; rfl
        subst this
        have hln := hlen hp
        refine ⟨⟨w.heap.size, grownCap w (m + 1) 0 e - (m + 1)⟩, _, ?_, holds_grown hold hln hzs hr2, Nat.le_refl _, (heap_drew_alloc w _).1, (heap_drew_alloc w _).2⟩
        rw [conc_grown φ s.next w.heap.size (sizeT P e) (m + 1) (grownCap w (m + 1) 0 e) (grownCap_ge _ _ _ _)]
        refine run φ w _ ρ r _ htu hr' hρ (fun ty => ?_)
        rw [hy]
        exact run_append_nil w t ty e i zz hu hi hzz adr (m + 1) cap (concL φ vs) (by rw [concL_length, hln, hsi]) hcells (by omega) (by simp only [maxLen] at hr2; omega) (by rw [hby]; omega)
      · cases h
    · -- to a full slice
      rename_i b off len0 cap0
      split at h
      · cases h
      · rename_i hroom
        have hroom' : cap0 < len0 + (m + 1) := by
          rcases Nat.lt_or_ge cap0 (len0 + (m + 1)) with h' | h'
          · exact h'
          · rw [Nat.ble_eq_true_of_le h'] at hroom; cases hroom
        obtain ⟨R1, olds, s1, hq1, h, hlen1, hid1, hcell1, hzero1⟩ := loadSl_ok h
        obtain ⟨R2, news, s2, hq2, h, hlen2, hid2, hcell2, _⟩ := loadSl_ok h
        split at h
        · rename_i hr hfl
          rw [newBlk_eq] at h
          cases h
          obtain ⟨hr1, hr2⟩ := roomy_ok hr
          have hq := hq1.trans hq2
          rw [hq.next]
          have hid : ∀ D : Nat → Prop, s2.pre → (∀ b y, (R1 b ∨ R2 b) → s.get b = some y → y.All D) → AllL D (olds ++ news) := fun D hp hR =>
            allL_append.2 ⟨hid1 D (hq2.pre hp) (fun b y hb hg => hR b y (.inl hb) hg), hid2 D hp (fun b y hb hg => hR b y (.inr hb) (by rw [← hq1.get]; exact hg))⟩
          refine opOk_made _ hq _ _ (fun D hD => hD) (fun D hp _ hR => hid D hp hR) (fun φ w ρ r hr' hp hf ho hin hρ => ?_)
          have hold : AllL (· < s.next) (olds ++ news) := hid _ hp fun b o hb hg => (ho b o hb hg).2
          have hf1 : Fits s1 R2 φ w := ⟨fun c o hc hg => hf.holds c o (.inr hc) (by rw [← hq1.get]; exact hg), fun c d hc hd hgc hgd => hf.inj c d (.inr hc) (.inr hd) (by rw [← hq1.get]; exact hgc) (by rw [← hq1.get]; exact hgd)⟩
          obtain ⟨adr, len, cap, hy, hcells⟩ := hcell2 φ w hp hf1 (by omega)
          obtain ⟨a', c', hy'⟩ := len_ok hl φ
          have : len = m + 1 := by rw [hy] at hy'; cases hy'; rfl
          subst this
          have hln1 := hlen1 (hq2.pre hp)
          have hln2 := hlen2 hp
          have hcells1 : ∀ j u, (concL φ olds)[j]? = some u → w.cell? ((⟨(φ b).blk, off, none⟩ : Addr).add j) = some u := by
            by_cases h0 : len0 = 0
            · rw [(hzero1 h0).1]; intro j u hj; simp [concL] at hj
            · obtain ⟨adr1, len1, cap1, hx1, hc1⟩ := hcell1 φ w (hq2.pre hp) (hf.mono fun b hb => .inl hb) h0
              simp only [conc] at hx1
              cases hx1
              exact hc1
          have hln : (olds ++ news).length = (len0 + (m + 1)) * sizeT P e := by rw [List.length_append, hln1, hln2, ← Nat.add_mul]
          refine ⟨⟨w.heap.size, grownCap w (len0 + (m + 1)) cap0 e - (len0 + (m + 1))⟩, _, ?_, holds_grown hold hln hzs hr2, Nat.le_refl _, (heap_drew_alloc w _).1, (heap_drew_alloc w _).2⟩
          rw [conc_grown φ s.next w.heap.size (sizeT P e) (len0 + (m + 1)) (grownCap w (len0 + (m + 1)) cap0 e) (grownCap_ge _ _ _ _)]
          refine run φ w _ ρ r _ htu hr' hρ (fun ty => ?_)
          rw [hy]
          have := run_append_grow (P := P) w t ty e i zz hu hi hzz ⟨(φ b).blk, off, none⟩ len0 cap0 (concL φ olds) (by rw [concL_length, hln1, hsi]) hcells1 adr (m + 1) cap (concL φ news) (by rw [concL_length, hln2, hsi]) hcells hroom'
            (by simp only [maxLen] at hr2; omega) (growslice_fits hroom' (by rw [hby]; exact hr1))
          simp only [conc]
          rw [this]
          simp [concL_append]
        · cases h
    · -- to what was appended to
      rename_i b z' len0 tot0
      split at h
      · rename_i hz0 ht0
        have hz0' := Nat.eq_of_beq_eq_true hz0
        have ht0' := Nat.eq_of_beq_eq_true ht0
        subst hz0' ht0'
        obtain ⟨R1, news, s1, hq1, h, hlen1, hid1, hcell1, _⟩ := loadSl_ok h
        obtain ⟨ob, hgb, h⟩ := rdBlk_ok h
        split at h
        · rename_i olds t1 z1
          split at h
          · rename_i c1 c2 c3 c4 c5
            have c1' := Nat.eq_of_beq_eq_true c1
            have c2' := Nat.eq_of_beq_eq_true c2
            have c3' := Nat.eq_of_beq_eq_true c3
            rw [lenL_eq] at c3'
            subst c1' c2'
            obtain ⟨hr1, hr2⟩ := roomy_ok c4
            have hkill : (forceN (mark (s1.seen b).wr b) fun w => newBlk (⟨Tr.put deep (s1.seen b).heap b none, (s1.seen b).next, (s1.seen b).rd, w, (s1.seen b).pre, (s1.seen b).orc⟩ : St) (.row false (olds ++ news) t1 (some (sizeT P t1))) fun b' => AV.oslice b' (sizeT P t1) 0 0 (len0 + (m + 1)) (len0 + (m + 1))) = .ok v s' := h
            rw [forceN_eq, newBlk_eq] at hkill
            cases hkill
            have hq := hq1.trans (Quiet.seen s1 b)
            have hgs : s.get b = some (.row false olds t1 (some (sizeT P t1))) := by rw [← hq1.get]; exact hgb
            have hnx : (s1.seen b).next = s.next := hq.next
            have hid : ∀ D : Nat → Prop, s1.pre → (∀ c y, (R1 c ∨ c = b) → s.get c = some y → y.All D) → AllL D (olds ++ news) := fun D hp hR =>
              allL_append.2 ⟨hR b _ (.inr rfl) hgs, hid1 D hp (fun c y hc hg => hR c y (.inl hc) hg)⟩
            show OpOk P s (((s1.seen b).killed b).made _) env (.call c) _
            rw [hnx]
            refine ⟨_, _, killed_made_sp hq (.inr rfl) hgs, ?_, ?_⟩
            · intro D hp hD hin hR
              have hD' : D s.next := hD s.next (Nat.le_refl _) (by show s.next < (s1.seen b).next + 1; rw [hnx]; omega)
              refine ⟨hD', fun c y hc hg => ?_⟩
              by_cases hcn : c = s.next
              · subst hcn
                have : (((s1.seen b).killed b).made (.row false (olds ++ news) t1 (some (sizeT P t1)))).get ((s1.seen b).killed b).next = some y := by
                  rw [show ((s1.seen b).killed b).next = s.next from hnx]; exact hg
                rw [get_made this]
                exact hid D hp (fun c y hc hg => hR c y (.inl hc) hg)
              · have hcb := hc.resolve_right hcn
                subst hcb
                rw [get_made_ne (by rw [show ((s1.seen c).killed c).next = s.next from hnx]; exact hcn)] at hg
                have := look_put_eq _ _ _ _ _ hg
                cases this
            · intro φ w ρ r hr' hp hf ho hin hρ
              have hp1 : s1.pre := hp
              have hold : AllL (· < s.next) (olds ++ news) := hid _ hp1 fun c o hc hg => (ho c o (.inl hc) hg).2
              obtain ⟨adr, len, cap, hy, hcells⟩ := hcell1 φ w hp1 (hf.mono fun c hc => .inl (.inl hc)) (by omega)
              obtain ⟨a', c', hy'⟩ := len_ok hl φ
              have : len = m + 1 := by rw [hy] at hy'; cases hy'; rfl
              subst this
              obtain ⟨φ', w', h4, h5⟩ := append_kill (sy' := false) hu hi hzz hzs hsi hby h2' hq (.inr rfl) hgs (ho b _ (.inl (.inr rfl)) hgs).1 (hf.holds b _ (.inl (.inr rfl)) hgs) c3' (hlen1 hp1) hr1 hr2 c5 hold hcells
              exact ⟨φ', w', _, run φ w w' ρ r _ htu hr' hρ (fun ty => by rw [hy]; exact h4 ty cap), rfl, h5⟩
          · cases h
        · cases h
      · cases h
    · -- to what was appended to, and is not known as a literal
      rename_i b z' len0 tot0
      split at h
      · rename_i hz0
        have hz0' := Nat.eq_of_beq_eq_true hz0
        subst hz0'
        obtain ⟨R1, news, s1, hq1, h, hlen1, hid1, hcell1, _⟩ := loadSl_ok h
        obtain ⟨ob, hgb, h⟩ := rdBlk_ok h
        split at h
        · rename_i sy olds t1 z1
          split at h
          · rename_i c1 c2 c5
            have c1' := Nat.eq_of_beq_eq_true c1
            have c2' := Nat.eq_of_beq_eq_true c2
            subst c1' c2'
            have hs2 : (ask (s1.seen b) (len0 = tot0 ∧ olds.length = len0 * sizeT P t1 ∧ (len0 + (m + 1)) * P.bytesOf t1 ≤ room ∧ len0 + (m + 1) ≤ maxLen)) = _ := ask_eq _ _
            rw [hs2] at h
            simp only [forceN_eq] at h
            rw [newBlk_eq] at h
            cases h
            have hqa := Quiet.of_ask (s1.seen b) (len0 = tot0 ∧ olds.length = len0 * sizeT P t1 ∧ (len0 + (m + 1)) * P.bytesOf t1 ≤ room ∧ len0 + (m + 1) ≤ maxLen)
            generalize hs2e : (ask (s1.seen b) (len0 = tot0 ∧ olds.length = len0 * sizeT P t1 ∧ (len0 + (m + 1)) * P.bytesOf t1 ≤ room ∧ len0 + (m + 1) ≤ maxLen)) = s2 at *
            have hq := (hq1.trans (Quiet.seen s1 b)).trans hqa
            have hgs : s.get b = some (.row sy olds t1 (some (sizeT P t1))) := by rw [← hq1.get]; exact hgb
            have hnx : s2.next = s.next := hq.next
            have hpre2 : s2.pre → s1.pre ∧ len0 = tot0 ∧ olds.length = len0 * sizeT P t1 ∧ (len0 + (m + 1)) * P.bytesOf t1 ≤ room ∧ len0 + (m + 1) ≤ maxLen := by
              intro hp; rw [hs2] at hp; exact ⟨hp.1, hp.2⟩
            have hid : ∀ D : Nat → Prop, s2.pre → (∀ c y, ((R1 c ∨ c = b) ∨ False) → s.get c = some y → y.All D) → AllL D (olds ++ news) := fun D hp hR =>
              allL_append.2 ⟨hR b _ (.inl (.inr rfl)) hgs, hid1 D (hpre2 hp).1 (fun c y hc hg => hR c y (.inl (.inl hc)) hg)⟩
            have hstate : (⟨Tr.put deep (s1.seen b).heap b none, (s1.seen b).next, (s1.seen b).rd, mark (s1.seen b).wr b, (s1.seen b).pre ∧ (len0 = tot0 ∧ olds.length = len0 * sizeT P t1 ∧ (len0 + (m + 1)) * P.bytesOf t1 ≤ room ∧ len0 + (m + 1) ≤ maxLen), (s1.seen b).orc⟩ : St) = s2.killed b := by rw [hs2]; rfl
            rw [hstate]
            rw [show (s2.killed b).next = s.next from hnx]
            refine ⟨_, _, killed_made_sp hq (.inl (.inr rfl)) hgs, killed_made_ids hq (fun D hD => hD) hid, ?_⟩
            intro φ w ρ r hr' hp hf ho hin hρ
            obtain ⟨hp1, hlt, c3', hr1, hr2⟩ := hpre2 hp
            subst hlt
            have hold : AllL (· < s.next) (olds ++ news) := hid _ hp fun c o hc hg => (ho c o (.inl hc) hg).2
            obtain ⟨adr, len, cap, hy, hcells⟩ := hcell1 φ w hp1 (hf.mono fun c hc => .inl (.inl (.inl hc))) (by omega)
            obtain ⟨a', c', hy'⟩ := len_ok hl φ
            have : len = m + 1 := by rw [hy] at hy'; cases hy'; rfl
            subst this
            obtain ⟨φ', w', h4, h5⟩ := append_kill (sy' := true) hu hi hzz hzs hsi hby h2' hq (.inl (.inr rfl)) hgs (ho b _ (.inl (.inl (.inr rfl))) hgs).1 (hf.holds b _ (.inl (.inl (.inr rfl))) hgs) c3' (hlen1 hp1) hr1 hr2 c5 hold hcells
            exact ⟨φ', w', _, run φ w w' ρ r _ htu hr' hρ (fun ty => by rw [hy]; exact h4 ty cap), rfl, h5⟩
          · cases h
        · cases h
      · cases h
    · cases h
  · -- a copy of what is not known as a literal
    rename_i h1 h2 h3 hl
    have htu := (Nat.eq_of_beq_eq_true h1).symm
    have h2' := Nat.le_of_ble_eq_true h2
    obtain ⟨z, i, zz, hz, hi, hzz, hzs, hsi, hby⟩ := zeroOk_ok h3
    split at h
    · rename_i b off b' off' len q hsy
      rw [ask_eq] at h
      have hall : ∀ D, insO env (.call c) D → D b := fun D hin => (args_all ha hin).1
      split at h
      · rename_i hh n r w p oo he
        injection he with e1 e2 e3 e4 e5 e6
        subst e1 e2 e3 e4 e5
        injection h with hv hs'
        subst hv hs'
        refine opOk_quiet (fun _ => False) ⟨rfl, rfl, fun _ h => h.elim, fun _ h => h, fun _ h => h, fun h => h.1.1⟩ (fun D _ hin _ => hall D hin) (fun φ w ρ r hr hp _ hρ => ?_)
        obtain ⟨a, cap, hy⟩ := sy_len hsy φ
        have hl0 : len = 0 := hp.2
        subst hl0
        exact run φ w w ρ r _ htu hr hρ (fun ty => by rw [hy]; exact run_append_zero hu hi _ _ _ (Nat.le_refl _) _ _ w)
      · rename_i hh n r w p oo he
        injection he with e1 e2 e3 e4 e5 e6
        subst e1 e2 e3 e4 e5
        obtain ⟨sy, l, t', qq, vs, s1, hg, hq1, hpre, h⟩ := loadS_ok h
        rw [newBlk_eq] at h
        cases h
        have hq0 : Quiet s ⟨s.heap, s.next, s.rd, s.wr, (s.pre ∧ q) ∧ 0 < len ∧ len * P.bytesOf e ≤ room ∧ len ≤ maxLen, oo⟩ (fun _ => False) := ⟨rfl, rfl, fun _ h => h.elim, fun _ h => h, fun _ h => h, fun h => h.1.1⟩
        have hq := hq0.trans hq1
        have hgs : s.get b' = some (.row sy l t' qq) := hg
        rw [hq.next]
        have hid : ∀ D : Nat → Prop, s1.pre → (∀ c y, (False ∨ c = b') → s.get c = some y → y.All D) → AllL D vs := fun D hp hR => by
          obtain ⟨k1, k2⟩ := hpre hp
          exact allL_of_get (hR b' _ (.inr rfl) hgs) (fun i hi => k2 i (by omega))
        refine opOk_made _ hq _ _ (fun D hD => hD) (fun D hp _ hR => hid D hp hR) (fun φ w ρ r hr' hp hf ho hin hρ => ?_)
        have hold : AllL (· < s.next) vs := hid _ hp fun c o hc hg => (ho c o hc hg).2
        obtain ⟨⟨_, hqq⟩, hpos, hr1, hr2⟩ := hq1.pre hp
        obtain ⟨k1, k2⟩ := hpre hp
        obtain ⟨cap, hy⟩ := sy_ok hsy φ hqq hpos
        have hcells := (hf.holds b' _ (.inr rfl) hgs).cells (off := off') (vs := vs) (fun i hi => k2 i (by omega))
        refine ⟨⟨w.heap.size, grownCap w len 0 e - len⟩, _, ?_, holds_grown (old := 0) hold k1 hzs hr2, Nat.le_refl _, (heap_drew_alloc w _).1, (heap_drew_alloc w _).2⟩
        have hcg : conc (upd φ s.next ⟨w.heap.size, grownCap w len 0 e - len⟩) (.soslice s.next (sizeT P e) 0 0 len len) = .slice (some ⟨w.heap.size, 0, none⟩) len (grownCap w len 0 e) := conc_grown φ s.next w.heap.size (sizeT P e) len (grownCap w len 0 e) (grownCap_ge _ _ _ _)
        rw [hcg]
        refine run φ w _ ρ r _ htu hr' hρ (fun ty => ?_)
        rw [hy]
        have := run_append_grow (P := P) w t ty e i zz hu hi hzz ⟨(φ b).blk, off, none⟩ 0 0 [] (by simp) (fun j v hj => by simp at hj) ⟨(φ b').blk, off', none⟩ len cap (concL φ vs) (by rw [concL_length, k1, hsi]) hcells (by omega)
          (by simp only [maxLen] at hr2; omega) (growslice_fits (by omega) (by rw [hby, Nat.zero_add]; simp only [room] at hr1; omega))
        simp only [conc]
        rw [this]
        simp
      · cases h
    · cases h
  · cases h


theorem run_max2s (φ : Phi) (w : World) : ∀ (l : List AV) (sy : Bool) (k : IntKind) (a : Int) (r : AV), evMax sy k a l = some r → ((concL φ l).foldlM Builtin.max2 (.int k a)).run P w = .ok (conc φ r) w
  | [], sy, k, a, r, h => by
    simp only [evMax] at h
    cases h
    cases sy <;> simp [concL, mkI, conc]
  | y :: l, sy, k, a, r, h => by
    simp only [evMax] at h
    cases hn : y.num with
    | none => rw [hn] at h; cases h
    | some q =>
      obtain ⟨sy', k', b⟩ := q
      rw [hn] at h
      have := run_max2s φ w l _ k _ r h
      simp only [concL, List.foldlM_cons]
      rw [num_ok hn φ]
      simp [Builtin.max2, this]
theorem evMax_all (D : Nat → Prop) : ∀ (l : List AV) (sy : Bool) (k : IntKind) (a : Int) (r : AV), evMax sy k a l = some r → r.All D
  | [], sy, k, a, r, h => by simp only [evMax] at h; cases h; cases sy <;> trivial
  | y :: l, sy, k, a, r, h => by
    simp only [evMax] at h
    cases hn : y.num with
    | none => rw [hn] at h; cases h
    | some q => rw [hn] at h; exact evMax_all D l _ k _ r h

theorem run_copy_any {dT ty elem : TypeId} {g o dLen dCap : Nat} {a : Addr} {sLen sCap : Nat} {cur : Array Value} {t : TypeId} {cs : List Value} (w : World)
    (hu : P.underlying dT = some (.slice elem)) (hs : (P.info? elem).map (·.size) = some 1)
    (hg : w.heap[g]? = some (.cells cur t (0, 0))) (hn : cs.length = Nat.min sLen dLen)
    (hsrc : ∀ j v, cs[j]? = some v → w.cell? (a.add j) = some v) (hfit : o + cs.length ≤ cur.size) (h1 : ∀ v ∈ cs, v.oneCell' = true) :
    (Builtin.copy_ #[dT, dT] ty #[.slice (some ⟨g, o, none⟩) dLen dCap, .slice (some a) sLen sCap]).run P w =
      .ok (goInt cs.length) (w.setRow g (cur.toList.take o ++ cs ++ cur.toList.drop (o + cs.length)).toArray) :=
  run_copy_row P w dT dT ty elem g o dLen dCap a sLen sCap cur t cs hu hs hg hn hsrc hfit h1

set_option maxHeartbeats 1000000 in
theorem op_bi {c : Call} {bi : Builtin} (hb : c.callee = .builtin bi) {args : List AV} (ha : evAs env c.args.toList = some args) (h : evBuiltin P bi c.argTypes.toList args s = .ok v s') : OpOk P s s' env (.call c) v := by
  unfold evBuiltin at h
  split at h
  · -- len
    rename_i t x hty
    have run : ∀ (φ : Phi) (w : World) (ρ : Operand → Value) (r : Oper) (q : Value), r.op = .call c → RdO φ env ρ (.call c) → (∀ ty, (Builtin.len_ #[t] ty #[conc φ x]).run P w = .ok q w) → (execOp ρ r).run P w = .ok (.value q) w := by
      intro φ w ρ r q hr hρ hq
      rw [run_bi hb ha hρ r hr w]
      have : c.argTypes = #[t] := by apply Array.ext'; rw [hty]
      rw [this]
      simp [builtin, concL, hq]
    split at h
    · rename_i n e _ hu
      cases h
      exact opOk_pure (fun D _ => trivial) (fun φ w ρ r hr hρ => run φ w ρ r _ hr hρ (fun ty => by simp [Builtin.len_, run_underlying hu, goInt, conc]))
    · rename_i e hu
      cases h
      exact opOk_pure (fun D _ => trivial) (fun φ w ρ r hr hρ => run φ w ρ r _ hr hρ (fun ty => by simp [Builtin.len_, run_underlying hu, goInt, conc]))
    · rename_i hu
      cases h
      exact opOk_pure (fun D _ => trivial) (fun φ w ρ r hr hρ => run φ w ρ r _ hr hρ (fun ty => by simp [Builtin.len_, run_underlying hu, goInt, conc]))
    · rename_i hu
      cases h
      exact opOk_pure (fun D _ => trivial) (fun φ w ρ r hr hρ => run φ w ρ r _ hr hρ (fun ty => by simp [Builtin.len_, run_underlying hu, goInt, conc]))
    · rename_i hu
      cases h
      exact opOk_pure (fun D _ => trivial) (fun φ w ρ r hr hρ => run φ w ρ r _ hr hρ (fun ty => by simp [Builtin.len_, run_underlying hu, goInt, conc]))
    · rename_i hu
      cases h
      exact opOk_pure (fun D _ => trivial) (fun φ w ρ r hr hρ => run φ w ρ r _ hr hρ (fun ty => by simp [Builtin.len_, run_underlying hu, goInt, conc]))
    · cases h
  · rename_i t u x y hty
    exact op_append hb ha hty h
  · -- max
    rename_i _ x l
    split at h
    · rename_i sy k a hn
      split at h
      · rename_i r hm
        cases h
        refine opOk_pure (fun D _ => evMax_all D l sy k a v hm) (fun φ w ρ r hr hρ => ?_)
        rw [run_bi hb ha hρ r hr w]
        have := run_max2s (P := P) φ w l sy k a v hm
        simp only [builtin, Builtin.max_, concL]
        rw [num_ok hn φ]
        simp [this]
      · cases h
    · cases h
  · -- copy
    rename_i t u b off len cap y hty
    split at h
    · rename_i e m he htu hl
      have htu' := (Nat.eq_of_beq_eq_true htu).symm
      have hu := elemT_ok he
      split at h
      · rename_i h1
        have h1' := Nat.eq_of_beq_eq_true h1
        have hs1 : (P.info? e).map (·.size) = some 1 := by
          obtain ⟨i, hi, hsi⟩ := sizeT_ok (P := P) (t := e) (by omega)
          simp [hi, hsi, h1']
        have run : ∀ (φ : Phi) (w w' : World) (ρ : Operand → Value) (r : Oper) (q : Value), r.op = .call c → RdO φ env ρ (.call c) → (∀ ty, (Builtin.copy_ #[t, t] ty #[conc φ (.slice b off len cap), conc φ y]).run P w = .ok q w') → (execOp ρ r).run P w = .ok (.value q) w' := by
          intro φ w w' ρ r q hr hρ hq
          rw [run_bi hb ha hρ r hr w]
          have : c.argTypes = #[t, t] := by rw [← htu']; subst htu'; apply Array.ext'; rw [hty]
          rw [this]
          simp [builtin, concL, hq]
        split at h
        · rename_i hmin
          cases h
          refine opOk_pure (fun D _ => trivial) (fun φ w ρ r hr hρ => run φ w w ρ r _ hr hρ (fun ty => ?_))
          obtain ⟨a, cc, hy⟩ := len_ok hl φ
          rw [hy]
          have hsz := run_sizeT (P := P) (t := e) (by omega) w
          cases a <;> simp [conc, Builtin.copy_, run_underlying hu, Builtin.lenOf, hsz, h1', Builtin.firstCells, loadCells, loadCellsFrom, storeCells, goInt, hmin]
        · rename_i n hmin
          obtain ⟨R1, vs, s1, hq1, h, hlen1, hid1, hcell1, _⟩ := loadSl_ok h
          split at h
          · cases h
          rename_i v0 vs0 _
          have hvs : v0 :: vs0 ≠ [] := by simp
          generalize v0 :: vs0 = vs at *
          obtain ⟨sy, l, t', q, s2, hg, hq2, hfl, hfit, rfl, l', rfl, hl'⟩ := storeN_ok h hvs
          have hq := hq1.trans hq2
          have hgs : s.get b = some (.row sy l t' q) := by rw [← hq1.get]; exact hg
          refine opOk_wrote _ hq (.inr rfl) hgs _ (fun D => trivial) (fun D hp _ hR => ?_) (fun φ w ρ r hr hp hf hρ => ?_)
          · rw [hl' hp]
            have ho := hR b _ (.inr rfl) hgs
            exact allL_append.2 ⟨allL_append.2 ⟨allL_take ho _, hid1 D (hq2.pre hp) (fun c y hc hg => hR c y (.inl hc) hg)⟩, allL_drop ho _⟩
          · rw [hl' hp]
            have hp1 := hq2.pre hp
            obtain ⟨adr, slen, scap, hy, hcells⟩ := hcell1 φ w hp1 (hf.mono fun c hc => .inl hc) (by omega)
            obtain ⟨a', c', hy'⟩ := len_ok hl φ
            have : slen = m := by rw [hy] at hy'; cases hy'; rfl
            subst this
            have hln := hlen1 hp1
            rw [h1', Nat.mul_one] at hln
            obtain ⟨w', h2, h3, h4, h5⟩ := run_storeN (P := P) (hf.holds b _ (.inr rfl) hgs) hfl (hfit hp)
            refine ⟨w', _, run φ w w' ρ r (.int .i64 (n + 1 : Nat)) hr hρ (fun ty => ?_), rfl, h3, h4, Nat.le_of_eq h5.1.symm, h5.2⟩
            have hsz := run_sizeT (P := P) (t := e) (by omega) w
            have hlc := run_loadCells_list (P := P) w adr (concL φ vs) hcells
            rw [concL_length, hln] at hlc
            rw [hy]
            simp [conc, Builtin.copy_, run_underlying hu, Builtin.lenOf, hsz, h1', Builtin.firstCells, hmin, hlc, h2, goInt]
      · cases h
    · cases h
  · -- a copy into what is not known as a literal
    rename_i t u b off len cap y hty
    split at h
    · rename_i e he htu
      have htu' := (Nat.eq_of_beq_eq_true htu).symm
      have hu := elemT_ok he
      have run : ∀ (φ : Phi) (w w' : World) (ρ : Operand → Value) (r : Oper) (q : Value), r.op = .call c → RdO φ env ρ (.call c) → (∀ ty, (Builtin.copy_ #[t, t] ty #[conc φ (.sslice b off len cap), conc φ y]).run P w = .ok q w') → (execOp ρ r).run P w = .ok (.value q) w' := by
        intro φ w w' ρ r q hr hρ hq
        rw [run_bi hb ha hρ r hr w]
        have : c.argTypes = #[t, t] := by rw [← htu']; subst htu'; apply Array.ext'; rw [hty]
        rw [this]
        simp [builtin, concL, hq]
      split at h
      · rename_i h1
        have h1' := Nat.eq_of_beq_eq_true h1
        cases h
        refine opOk_pure (fun D _ => trivial) (fun φ w ρ r hr hρ => run φ w w ρ r _ hr hρ (fun ty => ?_))
        have hsz := run_sizeT (P := P) (t := e) (by omega) w
        simp [conc, Builtin.copy_, run_underlying hu, Builtin.lenOf, hsz, h1', Builtin.firstCells, storeCells, goInt]
      · rename_i h1 _
        have h1' := Nat.eq_of_beq_eq_true h1
        split at h
        · rename_i b' off' m q hsy
          obtain ⟨sy1, l1, t1, q1, vs, s1, hg1, hq1, hpre1, h⟩ := loadS_ok h
          obtain ⟨ob, hgb, h⟩ := rdBlk_ok h
          split at h
          · rename_i sy l t' qq
            rw [wrBlk_eq] at h
            injection h with hv hs'
            subst hv hs'
            have hq0 := Quiet.of_ask s (q ∧ m ≤ len)
            have hq2 := Quiet.of_ask (s1.seen b) (off + vs.length ≤ l.length ∧ ∀ v ∈ vs, v.flat = true)
            have hq := ((hq0.trans hq1).trans (Quiet.seen s1 b)).trans hq2
            have hgs : s.get b = some (.row sy l t' qq) := by rw [← hq0.get, ← hq1.get]; exact hgb
            have hgs1 : s.get b' = some (.row sy1 l1 t1 q1) := by rw [← hq0.get]; exact hg1
            have hpre2 : (ask (s1.seen b) (off + vs.length ≤ l.length ∧ ∀ v ∈ vs, v.flat = true)).pre → s1.pre ∧ (off + vs.length ≤ l.length ∧ ∀ v ∈ vs, v.flat = true) := by rw [ask_eq]; exact fun h => h
            have hpre0 : s1.pre → q ∧ m ≤ len := fun hp => by have := hq1.pre hp; rw [ask_eq] at this; exact this.2
            refine opOk_wrote _ hq (.inl (.inr rfl)) hgs _ (fun D => trivial) (fun D hp _ hR => ?_) (fun φ w ρ r hr hp hf hρ => ?_)
            · obtain ⟨hp1, _⟩ := hpre2 hp
              obtain ⟨k1, k2⟩ := hpre1 hp1
              have ho := hR b _ (.inl (.inr rfl)) hgs
              have ho1 := hR b' _ (.inl (.inl (.inr rfl))) hgs1
              exact allL_append.2 ⟨allL_append.2 ⟨allL_take ho _, allL_of_get ho1 (fun i hi => k2 i (by omega))⟩, allL_drop ho _⟩
            · obtain ⟨hp1, hfit, hflat⟩ := hpre2 hp
              obtain ⟨k1, k2⟩ := hpre1 hp1
              obtain ⟨hqq, hml⟩ := hpre0 hp1
              have hfl : flatL vs = true := by
                have : ∀ l : List AV, (∀ v ∈ l, v.flat = true) → flatL l = true := by
                  intro l
                  induction l with
                  | nil => intro _; rfl
                  | cons a l ih => intro h; simp only [flatL]; rw [h a (by simp)]; exact ih fun v hv => h v (by simp [hv])
                exact this vs hflat
              have hcells := (hf.holds b' _ (.inl (.inl (.inr rfl))) hgs1).cells (off := off') (vs := vs) (fun i hi => k2 i (by omega))
              obtain ⟨w', h2, h3, h4, h5⟩ := run_storeN (P := P) (hf.holds b _ (.inl (.inr rfl)) hgs) hfl hfit
              refine ⟨w', _, run φ w w' ρ r (.int .i64 (m : Nat)) hr hρ (fun ty => ?_), rfl, h3.sym, h4, Nat.le_of_eq h5.1.symm, h5.2⟩
              have hsz := run_sizeT (P := P) (t := e) (by omega) w
              have hmin : Nat.min m len = m := Nat.min_eq_left hml
              by_cases hm0 : m = 0
              · subst hm0
                have hvs : vs = [] := List.eq_nil_of_length_eq_zero k1
                subst hvs
                obtain ⟨a, cap', hy⟩ := sy_len hsy φ
                rw [hy]
                simp only [concL, storeCells] at h2
                have hw : w = w' := by simpa using h2
                subst hw
                cases a <;> simp [conc, Builtin.copy_, run_underlying hu, Builtin.lenOf, hsz, h1', Builtin.firstCells, loadCells, loadCellsFrom, storeCells, goInt]
              · obtain ⟨cap', hy⟩ := sy_ok hsy φ hqq (by omega)
                have hlc := run_loadCells_list (P := P) w ⟨(φ b').blk, off', none⟩ (concL φ vs) hcells
                rw [concL_length, k1] at hlc
                rw [hy]
                simp [conc, Builtin.copy_, run_underlying hu, Builtin.lenOf, hsz, h1', Builtin.firstCells, hmin, hlc, h2, goInt]
          · cases h
        · cases h
      · cases h
    · cases h
  · cases h

/-- Every operation that is no call of a Go function. -/
theorem op_any (h : evOp P env o s = .ok v s') : OpOk P s s' env o v := by
  cases o with
  | move x => exact op_move h
  | assign x => exact op_assign h
  | pick c a b => exact op_pick h
  | alloc e => exact op_alloc h
  | box e x => exact op_box h
  | build t ps => exact op_build h
  | buildSlice t n ps => exact op_buildSlice h
  | load t a => exact op_load h
  | store t a x => exact op_store h
  | nilCheck x => exact op_nilCheck h
  | binOp op t x y yt => exact op_binOp h
  | unOp op t x => exact op_unOp h
  | convert a b x => exact op_convert h
  | makeInterface t x => exact op_makeInterface h
  | makeFunc f a b => exact op_makeFunc h
  | makeMap t r => cases r with
    | none => exact op_makeMap h
    | some r => cases h
  | makeSlice t l c => exact op_makeSlice h
  | slice t x a b c => exact op_slice h
  | fieldAddr t x f => exact op_fieldAddr h
  | field t x f => exact op_field h
  | indexAddr t x i => exact op_indexAddr h
  | index t x i => exact op_index h
  | lookup t x i ok => exact op_lookup h
  | mapUpdate t m k x => exact op_mapUpdate h
  | typeAssert x t u ok => cases ok with
    | true => exact op_typeAssert h
    | false => cases h
  | extract x i => exact op_extract h
  | _ => cases h
end Ev
end Go.Proofs.YtpkfimijnkkbjaaGreat
