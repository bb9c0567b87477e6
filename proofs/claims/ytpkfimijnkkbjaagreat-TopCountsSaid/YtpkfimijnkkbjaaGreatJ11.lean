/-
  Functions.
  Which operations of a region stand ahead of which.
  A drawn region, as it was reckoned: step by step in the text's order.
-/
import Derived.Test.YtpkfimijnkkbjaaGreatJ10
set_option linter.unusedVariables false
namespace Go.Proofs.YtpkfimijnkkbjaaGreat
namespace Ev

variable {P : Program} {s s1 s2 s' : St} {env env1 env2 env' : Env} {o : Op} {v : AV}

theorem loadT_ok {α : Type} {t : TypeId} {b off : Nat} {k : AV → St → Res α} {a : α} (h : loadT P t s b off k = .ok a s') :
    ∃ u s1, Quiet s s1 (fun c => c = b) ∧ k u s1 = .ok a s' ∧ (∀ D : Nat → Prop, s1.pre → (∀ c o, c = b → s.get c = some o → o.All D) → u.All D) ∧
      ∀ φ w, s1.pre → Fits s (fun c => c = b) φ w → (loadVar t ⟨(φ b).blk, off, none⟩).run P w = .ok (conc φ u) w := by
  unfold loadT at h
  split at h
  · rename_i ha
    obtain ⟨sy, l, t', q, vs, s1, hg, hq, hpre, h⟩ := loadN_ok h
    refine ⟨_, s1, hq, h, fun D hp hR => ?_, fun φ w hp hf => ?_⟩
    · obtain ⟨h1, h2⟩ := hpre hp
      unfold AV.All
      exact allL_of_get (hR b _ rfl hg) (fun i hi => h2 i (by omega))
    · obtain ⟨h1, h2⟩ := hpre hp
      have hl := run_loadN (P := P) (hf.holds b _ rfl hg) (off := off) (vs := vs) (fun i hi => h2 i (by omega))
      obtain ⟨h3, h4⟩ := aggT_ok ha w
      rw [h1] at hl
      simp [conc, loadVar, h3, h4, hl]
  · rename_i ha
    obtain ⟨sy, l, t', q, vs, s1, hg, hq, hpre, h⟩ := loadN_ok h
    split at h
    · rename_i u
      refine ⟨_, s1, hq, h, fun D hp hR => ?_, fun φ w hp hf => ?_⟩
      · obtain ⟨h1, h2⟩ := hpre hp
        have := h2 0 (by omega)
        simp at this
        exact allL_get (hR b _ rfl hg) this
      · obtain ⟨h1, h2⟩ := hpre hp
        have := h2 0 (by omega)
        simp at this
        have hl := (hf.holds b _ rfl hg).cell this
        obtain ⟨h3, h4⟩ := aggT_ok ha w
        simp [loadVar, h3, hl]
    · cases h
  · cases h

def resOf (tmps : Array Value) (x : ResultVar) : Sem Value := match x with
  | .tmp t => pure (tmps.getD t undef)
  | .cell a t => do loadVar t (← asAddr (tmps.getD a undef))
theorem run_res_tmp {tmps : Array Value} {t : Tmp} {u : Value} (h : tmps[t]? = some u) (w : World) : (resOf tmps (.tmp t)).run P w = .ok u w := by simp [resOf, h]
theorem run_res_cell {tmps : Array Value} {a : Tmp} {t : TypeId} {ad : Addr} (h : tmps[a]? = some (.pointer (some ad))) {u : Value} {w : World} (hl : (loadVar t ad).run P w = .ok u w) : (resOf tmps (.cell a t)).run P w = .ok u w := by simp [resOf, h, asAddr, hl]
theorem results_eq (fn : Func) (tmps : Array Value) : results fn tmps = (do
    let vs ← fn.results.mapM (resOf tmps)
    pure (if h : vs.size = 1 then vs[0] else .tuple vs)) := rfl

theorem evResults_ok : ∀ (l : List ResultVar) (s s' : St) (vs : List AV), evResults P env l s = .ok vs s' →
    ∃ R, Quiet s s' R ∧ (∀ D : Nat → Prop, s'.pre → EnvAll D env → (∀ b o, R b → s.get b = some o → o.All D) → AllL D vs) ∧
      ∀ φ w tmps, s'.pre → Fits s R φ w → EnvOk φ env tmps → (l.mapM (resOf tmps)).run P w = .ok (concL φ vs) w
  | [], s, s', vs, h => by
    simp only [evResults] at h
    cases h
    exact ⟨_, Quiet.refl s, fun D _ _ _ => trivial, fun φ w tmps _ _ _ => by simp [concL]⟩
  | .tmp t :: l, s, s', vs, h => by
    simp only [evResults] at h
    split at h
    · cases h
    · rename_i v hv
      split at h
      · rename_i r s1 hr
        cases h
        obtain ⟨R, hq, hid, hsem⟩ := evResults_ok l s s' r hr
        refine ⟨R, hq, fun D hp he hR => ⟨he t v hv, hid D hp he hR⟩, fun φ w tmps hp hf he => ?_⟩
        have h1 := he t v hv
        have h2 := hsem φ w tmps hp hf he
        simp [List.mapM_cons, run_res_tmp (P := P) h1, h2, concL]
      · cases h
  | .cell a t :: l, s, s', vs, h => by
    simp only [evResults] at h
    split at h
    · rename_i b off hv
      obtain ⟨u, s1, hq1, h, hid1, hl1⟩ := loadT_ok h
      split at h
      · rename_i r s2 hr
        cases h
        obtain ⟨R, hq, hid, hsem⟩ := evResults_ok l s1 s' r hr
        refine ⟨_, hq1.trans hq, fun D hp he hR => ⟨hid1 D (hq.pre hp) (fun c o hc hg => hR c o (.inl hc) hg), hid D hp he (fun c o hc hg => hR c o (.inr hc) (by rw [← hq1.get]; exact hg))⟩, fun φ w tmps hp hf he => ?_⟩
        have h1 := he a _ hv
        have hf1 : Fits s1 R φ w := ⟨fun c o hc hg => hf.holds c o (.inr hc) (by rw [← hq1.get]; exact hg), fun c d hc hd hgc hgd => hf.inj c d (.inr hc) (.inr hd) (by rw [← hq1.get]; exact hgc) (by rw [← hq1.get]; exact hgd)⟩
        have h2 := hsem φ w tmps hp hf1 he
        have h3 := hl1 φ w (hq.pre hp) (hf.mono fun c hc => .inl hc)
        simp [List.mapM_cons, run_res_cell (P := P) h1 h3, h2, concL]
      · cases h
    · cases h

theorem look_args : ∀ (l : List AV) (i t : Nat), (argsE l i).look t = if i ≤ t then l[t - i]? else none
  | [], i, t => by simp [argsE, Env.look]
  | v :: l, i, t => by
    simp only [argsE]
    rw [look_cons, look_args l (i + 1) t]
    by_cases h : i = t
    · subst h; simp
    · rw [if_neg h]
      by_cases h2 : i ≤ t
      · rw [if_pos (by omega), if_pos h2, show t - i = (t - (i + 1)) + 1 by omega]; simp
      · rw [if_neg (by omega), if_neg h2]

/-- What is known of functions comes true. -/
def SumsOk (P : Program) (sm : Sums) : Prop := ∀ f g, sm f = some g → ∀ args s v s', g args s = .ok v s' → (∃ fn, P.funcs[f]? = some fn ∧ fn.body.isSome = true) ∧
    ∃ R W, Sp s s' R W ∧ Ids s s' R W (fun D => AllL D args) (fun D => v.All D) ∧
      ∀ φ w, s'.pre → Fits s R φ w → Old s R → AllL (· < s.next) args →
        Calls P f (concL φ args).toArray w (fun e w' => ∃ φ', e = .returned (conc φ' v) ∧ Moves s s' W φ φ' w w')
theorem noSums_ok : SumsOk P noSums := fun _ _ h => by cases h
theorem evFn_ok (hn : Named P) (hd : DrawOk P) {sm : Sums} (hsm : SumsOk P sm) : ∀ d, CallOk P (evFn P sm d) := by
  intro d
  induction d with
  | zero => intro f args s v s' h; cases h
  | succ d ih =>
    intro f args s v s' h
    simp only [evFn] at h
    split at h
    · rename_i g hg
      exact hsm f g hg args s v s' h
    split at h
    · cases h
    rename_i fn hf
    split at h
    · cases h
    rename_i c hb
    split at h
    · cases h
    rename_i hlen
    have hlen' := Nat.le_of_ble_eq_true hlen
    rw [lenL_eq] at hlen'
    split at h
    · cases h
    rename_i x env1 s1 h1
    refine ⟨⟨fn, hf, by rw [hb]; rfl⟩, ?_⟩
    have key : ∀ (q : Value → AV → Prop), (x = .normal ∨ x = .ret) → (∃ vs, evResults P env1 fn.results.toList s1 = .ok vs s' ∧ ((vs = [v]) ∨ (vs.length ≠ 1 ∧ v = .tup vs))) → ∃ R W, Sp s s' R W ∧ Ids s s' R W (fun D => AllL D args) (fun D => v.All D) ∧
        ∀ φ w, s'.pre → Fits s R φ w → Old s R → AllL (· < s.next) args → Calls P f (concL φ args).toArray w (fun e w' => ∃ φ', e = .returned (conc φ' v) ∧ Moves s s' W φ φ' w w') := by
      intro _ hx ⟨vs, hr, hvs⟩
      obtain ⟨R1, W1, sp1, id1, sem1⟩ := (evCode_ok hn hd ih (nt := fn.ntmps) 100000).1 c _ _ _ _ _ h1
      obtain ⟨R2, hq, id2, sem2⟩ := evResults_ok _ _ _ _ hr
      have id2' : Ids s1 s' R2 (fun _ => False) (fun D => EnvAll D env1) (fun D => v.All D) := hq.ids fun D hp he hR => by
        have := id2 D hp he hR
        rcases hvs with rfl | ⟨_, rfl⟩
        · exact this.1
        · unfold AV.All; exact this
      have id1' : Ids s s1 R1 W1 (fun D => AllL D args) (fun D => EnvAll D env1) := fun D hp hD hin hR => id1 D hp hD (fun t u hu => by
        rw [look_args] at hu
        rw [if_pos (Nat.zero_le _)] at hu
        exact allL_get hin hu) hR
      refine ⟨_, _, sp1.trans hq.sp, Ids.trans sp1 hq.sp id1' id2', fun φ w hp hfit ho hin => ?_⟩
      have hp1 := hq.pre hp
      have hr1 : ∀ b, R1 b → (R1 b ∨ R2 b) := fun b hb => .inl hb
      have hr2 : ∀ b, R2 b → (R1 b ∨ R2 b) := fun b hb => .inr hb
      refine calls_of_wp hf hb ?_
      have hsize : ((concL φ args).toArray ++ Array.replicate (fn.ntmps - (concL φ args).toArray.size) undef).size = fn.ntmps := by
        simp [concL_length]; omega
      have henv : EnvOk φ (argsE args 0) ((concL φ args).toArray ++ Array.replicate (fn.ntmps - (concL φ args).toArray.size) undef) := by
        intro t u hu
        rw [look_args, if_pos (Nat.zero_le _), Nat.sub_zero] at hu
        have hlt := (List.getElem?_eq_some_iff.1 hu).1
        rw [Array.getElem?_append_left (by simpa [concL_length] using hlt)]
        simp [concL_get, hu]
      have hina : EnvAll (· < s.next) (argsE args 0) := fun t u hu => by
        rw [look_args, if_pos (Nat.zero_le _)] at hu
        exact allL_get hin hu
      have hrun := sem1 φ w ⟨(concL φ args).toArray ++ Array.replicate (fn.ntmps - (concL φ args).toArray.size) undef, []⟩
        (fun a w' => a.defers = [] ∧ ∃ u, (results fn a.tmps).run P w' = .ok u w' ∧ ∃ φ', u = conc φ' v ∧ Moves s s' (fun b => W1 b ∨ False) φ φ' w w')
        hp1 hsize henv (hfit.mono hr1) (ho.mono hr1) hina ?_
      · refine hrun _ ?_
        intro a w' ⟨hd', u, hu, φ', hu', hm⟩
        have : bodyPost P fn (fun e w' => ∃ φ', e = .returned (conc φ' v) ∧ Moves s s' (fun b => W1 b ∨ False) φ φ' w w') .normal a w' := ⟨hd', u, hu, φ', by rw [hu'], hm⟩
        rcases hx with rfl | rfl
        · exact this
        · exact this
      · intro φ1 w1 a1 hm1 hsz1 hd1 he1
        have hf1 := hfit.step sp1 hm1 ho hr1
        have hin' : EnvAll (· < s1.next) (argsE args 0) := fun t u hu => (hina t u hu).mono fun i hi => Nat.lt_of_lt_of_le hi sp1.next
        have ho1 := ho.step sp1 id1 hp1 hin' hr1
        refine ⟨hd1, conc φ1 v, ?_, φ1, rfl, ?_⟩
        · have hres := sem2 φ1 w1 a1.tmps hp (hf1.mono hr2) he1
          rw [results_eq]
          simp only [Sem.run_bind, Array.mapM_eq_mapM_toList]
          rcases hvs with rfl | ⟨hne, rfl⟩
          · simp [hres, concL]
          · simp [hres, concL_length, hne, conc]
        · exact Moves.trans sp1 hq.sp hm1 (Moves.refl _ _ _ _) hfit ho hf1 ho1 hr1 hr2
    cases x with
    | exit id => cases h
    | normal =>
      refine key (fun _ _ => True) (.inl rfl) ?_
      simp only at h
      split at h
      · cases h
      · rename_i hr; cases h; exact ⟨_, hr, .inl rfl⟩
      · rename_i vs _ hne hr
        cases h
        refine ⟨_, hr, .inr ⟨fun hl => ?_, rfl⟩⟩
        match vs, hl with
        | [u], _ => exact hne _ rfl
    | ret =>
      refine key (fun _ _ => True) (.inr rfl) ?_
      simp only at h
      split at h
      · cases h
      · rename_i hr; cases h; exact ⟨_, hr, .inl rfl⟩
      · rename_i vs _ hne hr
        cases h
        refine ⟨_, hr, .inr ⟨fun hl => ?_, rfl⟩⟩
        match vs, hl with
        | [u], _ => exact hne _ rfl
end Ev
end Go.Proofs.YtpkfimijnkkbjaaGreat

namespace Go.Proofs.YtpkfimijnkkbjaaGreat
namespace Ev

/-- An operation's table. -/
def tabOf (ops : Array Oper) : List Nat := aheadTab ops.toList []
def Before (ops : Array Oper) (j i : Nat) : Prop := Nat.testBit ((tabOf ops)[j]?.getD 0) i = true

theorem aheadTab_pre : ∀ (l : List Oper) (tab : List Nat), ∃ rest, aheadTab l tab = tab ++ rest ∧ rest.length = l.length
  | [], tab => ⟨[], by simp [aheadTab], rfl⟩
  | o :: l, tab => by
    obtain ⟨rest, h1, h2⟩ := aheadTab_pre l (tab ++ [aheadOf o.after.toList tab])
    exact ⟨aheadOf o.after.toList tab :: rest, by simp only [aheadTab, h1, List.append_assoc, List.singleton_append], by simp [h2]⟩
theorem aheadTab_at : ∀ (l : List Oper) (tab : List Nat) (j : Nat) (o : Oper), l[j]? = some o →
    (aheadTab l tab)[tab.length + j]? = some (aheadOf o.after.toList ((aheadTab l tab).take (tab.length + j)))
  | [], tab, j, o, h => by simp at h
  | p :: l, tab, 0, o, h => by
    simp at h
    subst h
    simp only [aheadTab, Nat.add_zero]
    obtain ⟨rest, h1, _⟩ := aheadTab_pre l (tab ++ [aheadOf p.after.toList tab])
    rw [h1]
    simp
  | p :: l, tab, j + 1, o, h => by
    simp only [aheadTab]
    have := aheadTab_at l (tab ++ [aheadOf p.after.toList tab]) j o (by simpa using h)
    simp only [List.length_append, List.length_singleton] at this
    rw [show tab.length + (j + 1) = tab.length + 1 + j by omega]
    exact this
theorem testBit_mark (r b c : Nat) : (mark r b).testBit c = (r.testBit c || decide (b = c)) := by
  unfold mark; change (r ||| 1 <<< b).testBit c = _
  rw [Nat.testBit_or, Nat.one_shiftLeft, Nat.testBit_two_pow]
theorem aheadOf_bit (tab : List Nat) (i : Nat) : ∀ (es : List Edge), (aheadOf es tab).testBit i = true ↔ ∃ e ∈ es, Region.binds .any e = true ∧ (e.on = i ∨ (tab[e.on]?.getD 0).testBit i = true)
  | [] => by simp [aheadOf]
  | e :: es => by
    simp only [aheadOf]
    have ih := aheadOf_bit tab i es
    cases hb : Region.binds .any e with
    | false => simp [ih, hb]
    | true =>
      simp only
      change ((mark _ e.on) ||| (aheadOf es tab)).testBit i = true ↔ _
      rw [Nat.testBit_or, testBit_mark]
      simp only [Bool.or_eq_true, decide_eq_true_eq, ih, List.mem_cons, exists_eq_or_imp, hb, true_and]
      constructor
      · rintro ((h | h) | h)
        · exact .inl (.inr h)
        · exact .inl (.inl h)
        · exact .inr h
      · rintro ((h | h) | h)
        · exact .inl (.inr h)
        · exact .inl (.inl h)
        · exact .inr h

/-- Edges lead back. -/
def Back (ops : Array Oper) : Prop := ∀ j r, ops[j]? = some r → ∀ e ∈ r.after, Region.binds .any e = true → e.on < j
variable {ops : Array Oper}

theorem before_iff (hb : Back ops) {j i : Nat} {r : Oper} (hr : ops[j]? = some r) : Before ops j i ↔ ∃ e ∈ r.after, Region.binds .any e = true ∧ (e.on = i ∨ Before ops e.on i) := by
  have h1 := aheadTab_at ops.toList [] j r (by simpa using hr)
  simp only [List.length_nil, Nat.zero_add] at h1
  unfold Before tabOf
  rw [h1, Option.getD_some, aheadOf_bit]
  constructor
  · rintro ⟨e, he, hbi, h⟩
    refine ⟨e, by simpa using he, hbi, h.imp id fun h => ?_⟩
    have hlt := hb j r hr e (by simpa using he) hbi
    rwa [List.getElem?_take_of_lt hlt] at h
  · rintro ⟨e, he, hbi, h⟩
    refine ⟨e, by simpa using he, hbi, h.imp id fun h => ?_⟩
    have hlt := hb j r hr e he hbi
    rwa [List.getElem?_take_of_lt hlt]
theorem before_none {j i : Nat} (hr : ops[j]? = none) : ¬ Before ops j i := by
  unfold Before tabOf
  obtain ⟨rest, h1, h2⟩ := aheadTab_pre ops.toList []
  rw [h1]
  have : ops.size ≤ j := by simpa using hr
  rw [List.getElem?_eq_none (by simp [h2]; exact this)]
  simp
theorem before_lt (hb : Back ops) : ∀ (j i : Nat), Before ops j i → i < j := by
  intro j
  induction j using Nat.strongRecOn with
  | _ j ih =>
    intro i h
    cases hr : ops[j]? with
    | none => exact (before_none hr h).elim
    | some r =>
      obtain ⟨e, he, hbi, h'⟩ := (before_iff hb hr).1 h
      have hlt := hb j r hr e he hbi
      rcases h' with h' | h'
      · omega
      · exact Nat.lt_trans (ih e.on hlt i h') hlt
theorem before_trans (hb : Back ops) : ∀ (j i k : Nat), Before ops j i → Before ops i k → Before ops j k := by
  intro j
  induction j using Nat.strongRecOn with
  | _ j ih =>
    intro i k h hk
    cases hr : ops[j]? with
    | none => exact (before_none hr h).elim
    | some r =>
      obtain ⟨e, he, hbi, h'⟩ := (before_iff hb hr).1 h
      have hlt := hb j r hr e he hbi
      refine (before_iff hb hr).2 ⟨e, he, hbi, .inr ?_⟩
      rcases h' with h' | h'
      · rw [h']; exact hk
      · exact ih e.on hlt i k h' hk

/-- A set of operations with whatever they wait for. -/
def Closed (ops : Array Oper) (L : Nat → Prop) : Prop := ∀ j r, L j → ops[j]? = some r → ∀ e ∈ r.after, Region.binds .any e = true → L e.on
theorem Closed.before (hb : Back ops) {L : Nat → Prop} (hc : Closed ops L) : ∀ (j i : Nat), L j → Before ops j i → L i := by
  intro j
  induction j using Nat.strongRecOn with
  | _ j ih =>
    intro i hl h
    cases hr : ops[j]? with
    | none => exact (before_none hr h).elim
    | some r =>
      obtain ⟨e, he, hbi, h'⟩ := (before_iff hb hr).1 h
      have hle := hc j r hl hr e he hbi
      rcases h' with h' | h'
      · rw [← h']; exact hle
      · exact ih e.on (hb j r hr e he hbi) i hle h'
theorem Closed.ready (hb : Back ops) {L : Nat → Prop} (hc : Closed ops L) {j i : Nat} {r : Oper} (hr : ops[j]? = some r) (hp : ∀ e ∈ r.after, Region.binds .any e = true → L e.on) (h : Before ops j i) : L i := by
  obtain ⟨e, he, hbi, h'⟩ := (before_iff hb hr).1 h
  rcases h' with h' | h'
  · rw [← h']; exact hp e he hbi
  · exact hc.before hb e.on i (hp e he hbi) h'

/-- What the check of the slots says. -/
theorem rowOk_at {tab : List Nat} {j : Nat} {oj : Oper} : ∀ (l : List Oper) (i0 : Nat), rowOk ops tab j oj l i0 = true → ∀ k oi, l[k]? = some oi → i0 + k < j → pairOk ops 0 ((tab[j]?).getD 0) (i0 + k) j oi oj = true
  | [], i0, _, k, oi, h, _ => by simp at h
  | o :: l, i0, h, k, oi, hk, hlt => by
    simp only [rowOk] at h
    have hb : Nat.blt i0 j = true := Nat.ble_eq_true_of_le (by omega)
    rw [hb] at h
    simp only [Bool.and_eq_true] at h
    cases k with
    | zero => simp at hk; subst hk; exact h.1
    | succ k =>
      have := rowOk_at l (i0 + 1) h.2 k oi (by simpa using hk) (by omega)
      rw [show i0 + (k + 1) = i0 + 1 + k by omega]
      exact this
theorem slotsOk_at {tab : List Nat} : ∀ (l : List Oper) (j0 : Nat), slotsOk ops tab l j0 = true → ∀ k r, l[k]? = some r →
    (∀ e ∈ r.after, Region.binds .any e = true → e.on < j0 + k) ∧ rowOk ops tab (j0 + k) r ops.toList 0 = true
  | [], j0, _, k, r, h => by simp at h
  | o :: l, j0, h, k, r, hk => by
    simp only [slotsOk, Bool.and_eq_true] at h
    cases k with
    | zero =>
      simp at hk
      subst hk
      refine ⟨fun e he hb => ?_, h.1.2⟩
      have := List.all_eq_true.1 h.1.1 e (by simpa using he)
      rw [hb] at this
      simp only [Bool.not_true, Bool.false_or] at this
      exact Nat.le_of_ble_eq_true this
    | succ k =>
      have := slotsOk_at l (j0 + 1) h.2 k r (by simpa using hk)
      rw [show j0 + (k + 1) = j0 + 1 + k by omega]
      exact this
theorem drawOk_ok (h : drawOk ops = true) : Back ops ∧ ∀ i j ri rj, i < j → ops[i]? = some ri → ops[j]? = some rj → ¬ Before ops j i →
    (∀ d, ri.dst = some d → d ∉ looks ops rj) ∧ (∀ d, ri.dst = some d → rj.dst ≠ some d) ∧ (∀ d, rj.dst = some d → d ∉ looks ops ri) := by
  unfold drawOk at h
  refine ⟨fun j r hr e he hb => ?_, fun i j ri rj hij hi hj hnb => ?_⟩
  · have := (slotsOk_at ops.toList 0 h j r (by simpa using hr)).1 e he hb
    omega
  · have h1 := (slotsOk_at ops.toList 0 h j rj (by simpa using hj)).2
    rw [Nat.zero_add] at h1
    have h2 := rowOk_at ops.toList 0 h1 i ri (by simpa using hi) (by omega)
    rw [Nat.zero_add] at h2
    unfold pairOk at h2
    have hf : Nat.testBit ((aheadTab ops.toList [])[j]?.getD 0) i = false := by
      cases hq : Nat.testBit ((aheadTab ops.toList [])[j]?.getD 0) i with
      | false => rfl
      | true => exact absurd hq hnb
    rw [hf] at h2
    simp only [Bool.false_or, Bool.and_eq_true] at h2
    refine ⟨fun d hd => ?_, fun d hd => ?_, fun d hd => ?_⟩
    · have := h2.1; rw [hd] at this; simp at this; exact this.1
    · have := h2.1; rw [hd] at this; simp at this; exact this.2
    · have := h2.2; rw [hd] at this; simp at this; exact this
end Ev
end Go.Proofs.YtpkfimijnkkbjaaGreat

namespace Go.Proofs.YtpkfimijnkkbjaaGreat
namespace Ev

variable {P : Program} {ops : Array Oper} {nt : Nat}

structure StepOk (P : Program) (ops : Array Oper) (nt j : Nat) (r : Oper) (s s' : St) (e e' : Env) (v : AV) (R W : Nat → Prop) : Prop where
  next : s.next ≤ s'.next
  same : ∀ b, ¬ W b → s'.get b = s.get b
  sub : ∀ b, W b → R b
  lt : ∀ b, W b → s.get b = none → b < s'.next
  made : ∀ b, s.next ≤ b → b < s'.next → W b
  born : ∀ b, s.get b = none → s'.get b ≠ none → s.next ≤ b
  pre : s'.pre → s.pre
  ids : Ids s s' R W (fun D => SeenAll D e ops r) (fun D => v.All D)
  sem : ∀ (φ : Phi) (w : World) (a : Act) (K : Act → World → Prop) (Q : Exit → Act → World → Prop), s'.pre → Fits s R φ w → Old s R → SeenAll (· < s.next) e ops r → Seen φ e ops r a.tmps →
        (∀ φ' w', Moves s s' W φ φ' w w' → K (a.put r.dst (conc φ' v)) w') → wpOp P ops Q j K a w
  put : putE nt r.dst v e = some e'

def Clean (s : St) : St := ⟨s.heap, s.next, 0, 0, s.pre, s.orc⟩
structure Seg (P : Program) (ops : Array Oper) (nt lo hi : Nat) (S : Nat → St) (E : Nat → Env) (V : Nat → AV) (R W : Nat → Nat → Prop) : Prop where
  step : ∀ j, lo ≤ j → j < hi → ∃ r, ops[j]? = some r ∧ StepOk P ops nt j r (S j) (S (j + 1)) (E j) (E (j + 1)) (V j) (R j) (W j)
  apart : ∀ i j, lo ≤ i → i < j → j < hi → ¬ Before ops j i → ∀ b, (W i b → ¬ R j b) ∧ (R i b → ¬ W j b)

theorem and_bits {x y b : Nat} (h : Nat.beq (Nat.land x y) 0 = true) (hx : x.testBit b = true) : y.testBit b = false := by
  have h0 : x &&& y = 0 := Nat.eq_of_beq_eq_true h
  have := congrArg (·.testBit b) h0
  simp only [Nat.testBit_and, hx, Bool.true_and, Nat.zero_testBit] at this
  exact this
theorem clear_ok {tj rd wr : Nat} : ∀ {recs : List (Nat × Nat × Nat)}, clear tj rd wr recs = true → ∀ q ∈ recs, Nat.testBit tj q.1 = false → ∀ b, (q.2.2.testBit b = true → rd.testBit b = false) ∧ (q.2.1.testBit b = true → wr.testBit b = false)
  | [], _, q, hq, _ => by cases hq
  | (i, r, w) :: l, h, q, hq, hb => by
    simp only [clear] at h
    split at h
    · rename_i ht
      rcases List.mem_cons.1 hq with rfl | hq
      · rw [ht] at hb; cases hb
      · exact clear_ok h q hq hb
    · split at h
      · rename_i h1 h2
        rcases List.mem_cons.1 hq with rfl | hq
        · exact fun b => ⟨and_bits h1, and_bits h2⟩
        · exact clear_ok h q hq hb
      · cases h

theorem evDraw_trace {call : FuncId → List AV → St → Res AV} (hn : Named P) (hc : CallOk P call) :
    ∀ (l : List Oper) (j : Nat) (env env' : Env) (recs : List (Nat × Nat × Nat)) (ar aw : Nat) (s s' : St), evDraw P call nt ops (tabOf ops) l j env recs ar aw s = .ok env' s' → (∀ k, l[k]? = ops[j + k]?) →
      (∀ q ∈ recs, ∀ b, (q.2.1.testBit b = true → ar.testBit b = true) ∧ (q.2.2.testBit b = true → aw.testBit b = true)) →
      ∃ (S : Nat → St) (E : Nat → Env) (V : Nat → AV) (R W : Nat → Nat → Prop), Seg P ops nt j (j + l.length) S E V R W ∧ S j = Clean s ∧ E j = env ∧ S (j + l.length) = Clean s' ∧ E (j + l.length) = env' ∧
        (∀ k, j ≤ k → k < j + l.length → ∀ q ∈ recs, ¬ Before ops k q.1 → ∀ b, (q.2.2.testBit b = true → ¬ R k b) ∧ (q.2.1.testBit b = true → ¬ W k b)) ∧
        (∀ k, j ≤ k → k < j + l.length → ∀ b, (R k b → s'.rd.testBit b = true) ∧ (W k b → s'.wr.testBit b = true)) ∧
        (∀ b, (ar.testBit b = true → s'.rd.testBit b = true) ∧ (aw.testBit b = true → s'.wr.testBit b = true))
  | [], j, env, env', recs, ar, aw, s, s', h, _, _ => by
    simp only [evDraw] at h
    cases h
    refine ⟨fun _ => Clean s, fun _ => env, fun _ => .tup [], fun _ _ => False, fun _ _ => False, ⟨fun k h1 h2 => ?_, fun i k h1 h2 h3 => ?_⟩, rfl, rfl, rfl, rfl, fun k h1 h2 => ?_, fun k h1 h2 => ?_, fun b => ⟨fun h => h, fun h => h⟩⟩
    all_goals (simp only [List.length_nil] at *; omega)
  | o :: l, j, env, env', recs, ar, aw, s, s', h, hl, hrec => by
    simp only [evDraw] at h
    split at h
    · cases h
    rename_i v h1 n1 r1 w1 p1 oo1 hop
    split at h
    · cases h
    rename_i hcl
    split at h
    · cases h
    rename_i env1 hput
    simp only [forceN_eq] at h
    have hj : ops[j]? = some o := by have := hl 0; simpa using this.symm
    obtain ⟨R0, W0, sp, ids, sem⟩ := evOper_ok hn hc hop
    have hR0 : ∀ b, R0 b → r1.testBit b = true := sp.rd
    have hW0 : ∀ b, W0 b → w1.testBit b = true := sp.wr
    have hrec' : ∀ q ∈ (j, r1, w1) :: recs, ∀ b, (q.2.1.testBit b = true → (Nat.lor ar r1).testBit b = true) ∧ (q.2.2.testBit b = true → (Nat.lor aw w1).testBit b = true) := by
      intro q hq b
      have l1 : ∀ x y : Nat, (Nat.lor x y).testBit b = (x.testBit b || y.testBit b) := fun x y => Nat.testBit_or x y b
      rw [l1, l1]
      rcases List.mem_cons.1 hq with rfl | hq
      · exact ⟨fun h => by simp [show r1.testBit b = true from h], fun h => by simp [show w1.testBit b = true from h]⟩
      · exact ⟨fun h => by rw [(hrec q hq b).1 h]; rfl, fun h => by rw [(hrec q hq b).2 h]; rfl⟩
    obtain ⟨S, E, V, R, W, seg, hS, hE, hS', hE', hap, hbit, hmono⟩ := evDraw_trace hn hc l (j + 1) env1 env' _ _ _ _ s' h (fun k => by have := hl (k + 1); simp only [List.getElem?_cons_succ] at this; rw [this]; congr 1; omega) hrec'
    have hlen : j + (o :: l).length = j + 1 + l.length := by simp; omega
    rw [hlen]
    have ne : ∀ k, j + 1 ≤ k → k ≠ j := fun k hk => by omega
    refine ⟨fun k => if k = j then Clean s else S k, fun k => if k = j then env else E k, fun k => if k = j then v else V k, fun k => if k = j then R0 else R k, fun k => if k = j then W0 else W k, ?_, by simp, by simp, ?_, ?_, ?_, ?_, ?_⟩
    · constructor
      · intro k h1 h2
        by_cases hk : k = j
        · subst hk
          refine ⟨o, hj, ?_⟩
          simp only [if_true, show ¬ (k + 1 = k) by omega, if_false]
          rw [hS, hE]
          exact { next := sp.next, same := sp.same, sub := sp.sub, lt := sp.lt, made := sp.made, born := sp.born, pre := sp.pre, ids := ids,
                  sem := fun φ w a K Q hp hf ho hin hs hK => sem φ w a k K Q hj hp ⟨hf.holds, hf.inj⟩ ho hin hs (fun φ' w' hm => hK φ' w' ⟨hm.agree, hm.holds, hm.inj, hm.source, hm.frame, hm.size, hm.kept⟩), put := hput }
        · have h3 : ¬ (k + 1 = j) := by omega
          simp only [hk, h3, if_false]
          exact seg.step k (by omega) h2
      · intro i k h1 h2 h3 hnb
        have hk : k ≠ j := by omega
        by_cases hi : i = j
        · subst hi
          simp only [if_true, hk, if_false]
          intro b
          have := hap k (by omega) h3 (i, r1, w1) (by simp) hnb b
          exact ⟨fun h => this.1 (hW0 b h), fun h => this.2 (hR0 b h)⟩
        · simp only [hk, hi, if_false]
          exact seg.apart i k (by omega) h2 h3 hnb
    · simp only [show ¬ (j + 1 + l.length = j) by omega, if_false]; exact hS'
    · simp only [show ¬ (j + 1 + l.length = j) by omega, if_false]; exact hE'
    · intro k h1 h2 q hq hnb b
      by_cases hk : k = j
      · subst hk
        simp only [if_true]
        have key : (q.2.2.testBit b = true → r1.testBit b = false) ∧ (q.2.1.testBit b = true → w1.testBit b = false) := by
          split at hcl
          · rename_i c1 c2
            refine ⟨fun h => ?_, fun h => ?_⟩
            · have := (hrec q hq b).2 h
              cases hr : r1.testBit b with
              | false => rfl
              | true => rw [and_bits c2 hr] at this; cases this
            · have := (hrec q hq b).1 h
              cases hw : w1.testBit b with
              | false => rfl
              | true => rw [and_bits c1 hw] at this; cases this
          · refine clear_ok hcl q hq ?_ b
            cases ht : Nat.testBit ((tabOf ops)[k]?.getD 0) q.1 with
            | false => rfl
            | true => exact absurd ht hnb
        refine ⟨fun h hr => ?_, fun h hw => ?_⟩
        · have := key.1 h; rw [hR0 b hr] at this; cases this
        · have := key.2 h; rw [hW0 b hw] at this; cases this
      · simp only [hk, if_false]
        exact hap k (by omega) h2 q (by simp [hq]) hnb b
    · intro k h1 h2 b
      by_cases hk : k = j
      · subst hk
        simp only [if_true]
        have l1 : ∀ x y : Nat, (Nat.lor x y).testBit b = (x.testBit b || y.testBit b) := fun x y => Nat.testBit_or x y b
        refine ⟨fun h => (hmono b).1 ?_, fun h => (hmono b).2 ?_⟩
        · rw [l1, hR0 b h]; simp
        · rw [l1, hW0 b h]; simp
      · simp only [hk, if_false]
        exact hbit k (by omega) h2 b
    · intro b
      have l1 : ∀ x y : Nat, (Nat.lor x y).testBit b = (x.testBit b || y.testBit b) := fun x y => Nat.testBit_or x y b
      refine ⟨fun h => (hmono b).1 ?_, fun h => (hmono b).2 ?_⟩
      · rw [l1, h]; rfl
      · rw [l1, h]; rfl
end Ev
end Go.Proofs.YtpkfimijnkkbjaaGreat
