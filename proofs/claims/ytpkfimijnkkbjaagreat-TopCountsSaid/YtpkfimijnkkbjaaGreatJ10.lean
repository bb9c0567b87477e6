/-
  Calls, and regions in the text's order.
  Code, and functions.
-/
import Derived.Test.YtpkfimijnkkbjaaGreatJ09
import Derived.Orders
set_option linter.unusedVariables false
namespace Go.Proofs.YtpkfimijnkkbjaaGreat
namespace Ev

variable {P : Program} {s s1 s2 s' : St} {env env1 env2 env' : Env} {o : Op} {v : AV}

/-- What is reckoned of calls comes true. -/
def CallOk (P : Program) (call : FuncId → List AV → St → Res AV) : Prop :=
  ∀ f args s v s', call f args s = .ok v s' → (∃ fn, P.funcs[f]? = some fn ∧ fn.body.isSome = true) ∧
    ∃ R W, Sp s s' R W ∧ Ids s s' R W (fun D => AllL D args) (fun D => v.All D) ∧
      ∀ φ w, s'.pre → Fits s R φ w → Old s R → AllL (· < s.next) args →
        Calls P f (concL φ args).toArray w (fun e w' => ∃ φ', e = .returned (conc φ' v) ∧ Moves s s' W φ φ' w w')
def Named (P : Program) : Prop := ∀ (f : Nat) (fn : Func), P.funcs[f]? = some fn → (fn.name == "runtime.NumGoroutine") = false

/-- What an operation, call or no call, comes to. -/
def AnyOk (P : Program) (s s' : St) (env : Env) (o : Op) (v : AV) : Prop :=
  ∃ R W : Nat → Prop, Sp s s' R W ∧ Ids s s' R W (insO env o) (fun D => v.All D) ∧
    ∀ (φ : Phi) (w : World) (a : Act) (r : Oper) (K : Act → World → Prop) (Q : Exit → Act → World → Prop), r.op = o → s'.pre → Fits s R φ w → Old s R → insO env o (· < s.next) → RdO φ env a.eval o →
      (∀ φ' w', Moves s s' W φ φ' w w' → K (a.put r.dst (conc φ' v)) w') → r.wp P a w K Q

theorem OpOk.any (h : OpOk P s s' env o v) : AnyOk P s s' env o v := by
  obtain ⟨R, W, h1, h2, h3⟩ := h
  refine ⟨R, W, h1, h2, fun φ w a r K Q hr hp hf ho hin hρ hK => ?_⟩
  obtain ⟨φ', w', nx, h4, h5, h6⟩ := h3 φ w a.eval r hr hp hf ho hin hρ
  have := hK φ' w' h6
  unfold Oper.wp
  rw [h4]
  unfold nextV at h5
  split at h5
  · cases h5; exact this
  · injection h5 with h5
    simp only [Oper.upon_skip]
    rw [h5]; exact this
  · cases h5

theorem run_callFunc (hn : Named P) {f : FuncId} (hf : ∃ fn, P.funcs[f]? = some fn ∧ fn.body.isSome = true) (args : Array Value) (w : World) : (callFunc f args).run P w = .ok (.enter f args) w := by
  obtain ⟨fn, h1, h2⟩ := hf
  have h3 := hn f fn h1
  have h4 : fn.body.isNone = false := by cases hb : fn.body with | none => rw [hb] at h2; cases h2 | some b => rfl
  have h5 : ¬ (fn.name = "runtime.NumGoroutine") := by simpa using h3
  have h6 : ¬ (fn.body = none) := by intro h; rw [h] at h4; cases h4
  simp [callFunc, h1, h5, h6]

theorem enter_any {call : FuncId → List AV → St → Res AV} (hc : CallOk P call) {f : FuncId} {args : List AV} (h : call f args s = .ok v s') (hargs : ∀ D, insO env o D → AllL D args)
    (hrun : ∀ (φ : Phi) (w : World) (ρ : Operand → Value) (r : Oper), r.op = o → RdO φ env ρ o → (execOp ρ r).run P w = .ok (.enter f (concL φ args).toArray) w) : AnyOk P s s' env o v := by
  obtain ⟨_, R, W, h1, h2, h3⟩ := hc f args s v s' h
  refine ⟨R, W, h1, fun D hp hD hin hR => h2 D hp hD (hargs D hin) hR, fun φ w a r K Q hr hp hf ho hin hρ hK => ?_⟩
  unfold Oper.wp
  rw [hrun φ w a.eval r hr hρ]
  rw [Oper.upon_enter]
  refine (h3 φ w hp hf ho (hargs _ hin)).mono ?_
  rintro e w' ⟨φ', rfl, hm⟩
  exact hK φ' w' hm

theorem methT_ok {t : TypeId} {name : String} {f : FuncId} (h : methT P t name = some f) (v : Value) (w : World) (n : Nat) : (method (n + 1) t v name).run P w = .ok (f, v) w := by
  unfold methT at h
  split at h
  · cases h
  · rename_i i hi
    split at h
    · cases h
    · rename_i m hm
      split at h
      · rename_i f' pr hpath hfn
        have hp : m.path = #[] := by apply Array.ext'; rw [hpath]
        simp only [method]
        simp [typeInfo, hi, hm, hpath, follow, hfn]
        split at h
        · rename_i e hu
          cases h
          simp [receiverAt, run_underlying hu, Place.get]
        · cases h
        · cases h
        · rename_i d _ _ hu
          cases h
          cases d <;> simp_all [receiverAt, run_underlying hu, Place.get]
        · cases h
      · cases h

theorem evCallOp_ok {call : FuncId → List AV → St → Res AV} (hn : Named P) (hc : CallOk P call) {c : Call} (h : evCallOp P call env c s = .ok v s') : AnyOk P s s' env (.call c) v := by
  unfold evCallOp at h
  split at h
  · cases h
  · rename_i args ha
    have mem : ∀ x ∈ c.args.toList, x ∈ (Op.call c).operands.toList := fun x hx => by
      simp [Op.operands, Call.operands]; exact .inr (by simpa using hx)
    split at h
    · rename_i b hb
      exact (op_bi hb ha h).any
    · rename_i f hcl
      have mf : f ∈ (Op.call c).operands.toList := by simp [Op.operands, Call.operands, hcl]
      split at h
      · rename_i g first captured hf
        refine enter_any hc h (fun D hin => ?_) (fun φ w ρ r hr hρ => ?_)
        · have h1 := hin f mf _ hf
          exact allL_append.2 ⟨h1.1, allL_append.2 ⟨args_all ha hin, h1.2⟩⟩
        · have h1 := hρ f mf _ hf
          have h2 := evAs_ok (φ := φ) (ρ := ρ) ha (fun x hx => hρ x (mem x hx))
          have h3 : c.args.map ρ = (concL φ args).toArray := by rw [← h2]; simp [← Array.toList_map]
          obtain ⟨hfn, _⟩ := hc _ _ _ _ _ h
          obtain ⟨_, _, _, _, _, _⟩ := r
          cases hr
          have := run_callFunc hn hfn (concL φ (first ++ (args ++ captured))).toArray w
          simp only [execOp, resolve, hcl, h1, h3]
          simp [conc, Deferred.ofValue, invoke]
          rw [← this]
          congr 2
          simp [concL_append]
      · cases h
    · rename_i rc name hcl
      have mr : rc ∈ (Op.call c).operands.toList := by simp [Op.operands, Call.operands, hcl]
      split at h
      · rename_i t u hr0
        split at h
        · rename_i g hm
          refine enter_any hc h (fun D hin => ?_) (fun φ w ρ r hr hρ => ?_)
          · have h1 := hin rc mr _ hr0
            exact ⟨h1, args_all ha hin⟩
          · have h1 := hρ rc mr _ hr0
            have h2 := evAs_ok (φ := φ) (ρ := ρ) ha (fun x hx => hρ x (mem x hx))
            have h3 : c.args.map ρ = (concL φ args).toArray := by rw [← h2]; simp [← Array.toList_map]
            obtain ⟨hfn, _⟩ := hc _ _ _ _ _ h
            obtain ⟨_, _, _, _, _, _⟩ := r
            cases hr
            have := run_callFunc hn hfn (concL φ (u :: args)).toArray w
            have hmt := methT_ok hm (conc φ u) w (P.types.size + Made.depth - 1)
            have hpos : 0 < Made.depth := by decide
            have hd : P.types.size + Made.depth - 1 + 1 = P.types.size + Made.depth := by omega
            rw [hd] at hmt
            simp only [execOp, resolve, hcl, h1, h3]
            simp [conc, invoke, callMethod, hmt]
            rw [← this]
            congr 2
        · cases h
      · cases h

theorem evAny_ok {call : FuncId → List AV → St → Res AV} (hn : Named P) (hc : CallOk P call) (h : evAny P call env o s = .ok v s') : AnyOk P s s' env o v := by
  unfold evAny at h
  split at h
  · exact evCallOp_ok hn hc h
  · exact (op_any h).any

def EnvAll (D : Nat → Prop) (env : Env) : Prop := ∀ t u, env.look t = some u → u.All D
def EnvOk (φ : Phi) (env : Env) (tmps : Array Value) : Prop := ∀ t u, env.look t = some u → tmps[t]? = some (conc φ u)

theorem looks_op {ops : Array Oper} {r : Oper} {t : Tmp} (h : Operand.tmp t ∈ r.op.operands.toList) : t ∈ looks ops r := by
  unfold looks
  exact List.mem_append_left _ (List.mem_filterMap.2 ⟨.tmp t, h, rfl⟩)
theorem looks_guard {ops : Array Oper} {r : Oper} {g : Nat} {want : Bool} {t : Tmp} (hg : r.guard = some (g, want)) (ht : (match ops[g]? with | some og => og.dst | none => none) = some t) : t ∈ looks ops r := by
  unfold looks
  refine List.mem_append_right _ ?_
  rw [hg]
  simp only
  cases ho : ops[g]? with
  | none => rw [ho] at ht; cases ht
  | some og => rw [ho] at ht; simp only at ht ⊢; rw [ht]; simp

/-- The slots that an operation looks at hold what was reckoned. -/
def Seen (φ : Phi) (env : Env) (ops : Array Oper) (r : Oper) (tmps : Array Value) : Prop := ∀ t ∈ looks ops r, ∀ u, env.look t = some u → tmps[t]? = some (conc φ u)
def SeenAll (D : Nat → Prop) (env : Env) (ops : Array Oper) (r : Oper) : Prop := ∀ t ∈ looks ops r, ∀ u, env.look t = some u → u.All D

theorem SeenAll.ins {D : Nat → Prop} {ops : Array Oper} {r : Oper} (h : SeenAll D env ops r) : insO env r.op D := by
  intro x hx u hu
  cases x with
  | tmp t => exact h t (looks_op hx) u hu
  | const c => exact (constA_ok hu (fun _ => ⟨0, 0⟩)).2 D
  | global g => cases hu
  | func f => cases hu; exact ⟨trivial, trivial⟩
theorem evA_eval {φ : Phi} {a : Act} {x : Operand} {u : AV} (hx : ∀ t, x = .tmp t → ∀ u, env.look t = some u → a.tmps[t]? = some (conc φ u)) (hu : evA env x = some u) : a.eval x = conc φ u := by
  cases x with
  | tmp t =>
    have := hx t rfl u hu
    simp [Act.eval, this]
  | const c => exact (constA_ok hu φ).1.symm
  | global g => cases hu
  | func f => cases hu; rfl
theorem Seen.reads {φ : Phi} {ops : Array Oper} {r : Oper} {a : Act} (h : Seen φ env ops r a.tmps) : RdO φ env a.eval r.op :=
  fun x hx u hu => evA_eval (fun t ht u hu => h t (looks_op (ht ▸ hx)) u hu) hu

/-- An operation of a region, wanted or not. -/
theorem evOper_ok {call : FuncId → List AV → St → Res AV} (hn : Named P) (hc : CallOk P call) {ops : Array Oper} {r : Oper} (h : evOper P call ops r env s = .ok v s') :
    ∃ R W : Nat → Prop, Sp s s' R W ∧ Ids s s' R W (fun D => SeenAll D env ops r) (fun D => v.All D) ∧
      ∀ (φ : Phi) (w : World) (a : Act) (i : Nat) (K : Act → World → Prop) (Q : Exit → Act → World → Prop), ops[i]? = some r → s'.pre → Fits s R φ w → Old s R → SeenAll (· < s.next) env ops r → Seen φ env ops r a.tmps →
        (∀ φ' w', Moves s s' W φ φ' w w' → K (a.put r.dst (conc φ' v)) w') → wpOp P ops Q i K a w := by
  have wanted : ∀ {s0 : St}, evAny P call env r.op s0 = .ok v s' → Quiet s s0 (fun _ => False) → (∀ (a : Act) (φ : Phi), s0.pre → Seen φ env ops r a.tmps → Region.wanted r (yielded ops a.tmps) = true) →
      ∃ R W : Nat → Prop, Sp s s' R W ∧ Ids s s' R W (fun D => SeenAll D env ops r) (fun D => v.All D) ∧
      ∀ (φ : Phi) (w : World) (a : Act) (i : Nat) (K : Act → World → Prop) (Q : Exit → Act → World → Prop), ops[i]? = some r → s'.pre → Fits s R φ w → Old s R → SeenAll (· < s.next) env ops r → Seen φ env ops r a.tmps →
        (∀ φ' w', Moves s s' W φ φ' w w' → K (a.put r.dst (conc φ' v)) w') → wpOp P ops Q i K a w := by
    intro s0 h hq hw
    obtain ⟨R, W, h1, h2, h3⟩ := evAny_ok hn hc h
    refine ⟨fun b => False ∨ R b, fun b => False ∨ W b, hq.sp.trans h1, ?_, ?_⟩
    · refine Ids.trans hq.sp h1 (mid := fun D => SeenAll D env ops r) (hq.ids fun D _ hD _ => hD) ?_
      exact fun D hp hD hin hR => h2 D hp hD hin.ins hR
    · intro φ w a i K Q hi hp hf ho hin hs hK
      have hf0 : Fits s0 R φ w := ⟨fun b o hb hg => hf.holds b o (.inr hb) (by rw [← hq.get]; exact hg), fun b c hb hc hgb hgc => hf.inj b c (.inr hb) (.inr hc) (by rw [← hq.get]; exact hgb) (by rw [← hq.get]; exact hgc)⟩
      have ho0 : Old s0 R := fun b o hb hg => by rw [hq.next]; exact ho b o (.inr hb) (by rw [← hq.get]; exact hg)
      unfold wpOp
      simp only [hi, hw a φ (h1.pre hp) hs, if_true]
      refine .inl (h3 φ w a r K Q rfl hp hf0 ho0 (by rw [hq.next]; exact hin.ins) hs.reads fun φ' w' hm => hK φ' w' ?_)
      exact ⟨fun j hj => hm.agree j (by rw [hq.next]; exact hj), fun b o hb hg => hm.holds b o (hb.resolve_left id) hg, fun b c hb hc => hm.inj b c (hb.resolve_left id) (hc.resolve_left id),
        fun b hb hg => (hm.source b (hb.resolve_left id) hg).imp id fun ⟨c, hc, hgc, he⟩ => ⟨c, .inr hc, by rw [← hq.get]; exact hgc, he⟩,
        fun k hk hc => hm.frame k hk fun c hc' hgc => hc c (.inr hc') (by rw [← hq.get]; exact hgc), hm.size, hm.kept⟩
  have unwanted : ∀ {s0 : St}, v = .tup [] → s' = s0 → Quiet s s0 (fun _ => False) → (∀ (a : Act) (φ : Phi), s0.pre → Seen φ env ops r a.tmps → Region.wanted r (yielded ops a.tmps) = false) →
      ∃ R W : Nat → Prop, Sp s s' R W ∧ Ids s s' R W (fun D => SeenAll D env ops r) (fun D => v.All D) ∧
      ∀ (φ : Phi) (w : World) (a : Act) (i : Nat) (K : Act → World → Prop) (Q : Exit → Act → World → Prop), ops[i]? = some r → s'.pre → Fits s R φ w → Old s R → SeenAll (· < s.next) env ops r → Seen φ env ops r a.tmps →
        (∀ φ' w', Moves s s' W φ φ' w w' → K (a.put r.dst (conc φ' v)) w') → wpOp P ops Q i K a w := by
    intro s0 hv hs0 hq hw
    subst hv hs0
    refine ⟨_, _, hq.sp, hq.ids fun D _ _ _ => trivial, ?_⟩
    intro φ w a i K Q hi hp hf ho hin hs hK
    unfold wpOp
    simp only [hi, hw a φ hp hs]
    exact hK φ w (Moves.refl _ _ _ _)
  unfold evOper at h
  split at h
  · rename_i hg
    exact wanted h (Quiet.refl s) (fun a φ _ _ => by simp [Region.wanted, hg])
  · rename_i g want hg
    split at h
    · cases h
    · rename_i t ht
      have ylook : ∀ (a : Act) (φ : Phi) (u : AV), env.look t = some u → Seen φ env ops r a.tmps → yielded ops a.tmps g = (match conc φ u with | .bool b => some b | _ => none) := by
        intro a φ u hu hs
        have h1 := hs t (looks_guard hg ht) u hu
        have h2 : (ops[g]?).bind (·.dst) = some t := by
          cases ho : ops[g]? with
          | none => rw [ho] at ht; cases ht
          | some og => rw [ho] at ht; exact ht
        unfold yielded
        rw [h2, Option.bind_some, h1]
        split <;> simp_all
      split at h
      · rename_i q hq
        obtain ⟨hp, n, rd, wr, p, oo⟩ := s
        split at h
        · rename_i b oo' he
          injection he with e1 e2 e3 e4 e5 e6
          subst e1 e2 e3 e4 e5 e6
          have hqs : Quiet (⟨hp, n, rd, wr, p, .br b :: oo'⟩ : St) ⟨hp, n, rd, wr, p ∧ q = b, oo'⟩ (fun _ => False) := ⟨rfl, rfl, fun _ h => h.elim, fun _ h => h, fun _ h => h, fun h => h.1⟩
          split at h
          · rename_i hbw
            refine wanted h hqs (fun a φ hpre hs => ?_)
            have hqb : q = b := hpre.2
            simp [Region.wanted, hg, ylook a φ _ hq hs, conc]
            rw [hqb]; exact beq_iff_eq.1 hbw
          · rename_i hbw
            cases h
            refine unwanted rfl rfl hqs (fun a φ hpre hs => ?_)
            have hqb : q = b := hpre.2
            simp [Region.wanted, hg, ylook a φ _ hq hs, conc]
            intro he; rw [← hqb, he] at hbw; simp at hbw
        · cases h
      · rename_i b hb
        split at h
        · rename_i hbw
          refine wanted h (Quiet.refl s) (fun a φ _ hs => ?_)
          simp [Region.wanted, hg, ylook a φ _ hb hs, conc]
          exact beq_iff_eq.1 hbw
        · rename_i hbw
          cases h
          refine unwanted rfl rfl (Quiet.refl s) (fun a φ _ hs => ?_)
          simp [Region.wanted, hg, ylook a φ _ hb hs, conc]
          intro he; subst he; simp at hbw
      · rename_i hb
        cases h
        refine unwanted rfl rfl (Quiet.refl s) (fun a φ _ hs => ?_)
        simp [Region.wanted, hg, ylook a φ _ hb hs, conc]
      · cases h

/-- What a piece of code does, in any memory in which the reckoner's blocks lie. -/
def Does (s s' : St) (env env' : Env) (nt : Nat) (T : (Act → World → Prop) → Act → World → Prop) : Prop :=
  ∃ R W : Nat → Prop, Sp s s' R W ∧ Ids s s' R W (fun D => EnvAll D env) (fun D => EnvAll D env') ∧
    ∀ (φ : Phi) (w : World) (a : Act) (K : Act → World → Prop), s'.pre → a.tmps.size = nt → EnvOk φ env a.tmps → Fits s R φ w → Old s R → EnvAll (· < s.next) env →
      (∀ φ' w' a', Moves s s' W φ φ' w w' → a'.tmps.size = nt → a'.defers = a.defers → EnvOk φ' env' a'.tmps → K a' w') → T K a w

theorem Does.trans {nt : Nat} {T1 T2 T : (Act → World → Prop) → Act → World → Prop} (h1 : Does s s1 env env1 nt T1) (h2 : Does s1 s2 env1 env2 nt T2) (hT : ∀ K a w, T1 (T2 K) a w → T K a w) : Does s s2 env env2 nt T := by
  obtain ⟨R1, W1, sp1, id1, sem1⟩ := h1
  obtain ⟨R2, W2, sp2, id2, sem2⟩ := h2
  refine ⟨_, _, sp1.trans sp2, Ids.trans sp1 sp2 id1 id2, fun φ w a K hp hsz he hf ho hin hK => hT K a w ?_⟩
  have hp1 := sp2.pre hp
  refine sem1 φ w a (T2 K) hp1 hsz he (hf.mono fun b hb => .inl hb) (ho.mono fun b hb => .inl hb) hin ?_
  intro φ1 w1 a1 hm1 hsz1 hd1 he1
  have hr1 : ∀ b, R1 b → (R1 b ∨ R2 b) := fun b hb => .inl hb
  have hr2 : ∀ b, R2 b → (R1 b ∨ R2 b) := fun b hb => .inr hb
  have hin' : EnvAll (· < s1.next) env := fun t u hu => (hin t u hu).mono fun i hi => Nat.lt_of_lt_of_le hi sp1.next
  have hf1 := hf.step sp1 hm1 ho hr1
  have ho1 := ho.step sp1 id1 hp1 hin' hr1
  have hin1 : EnvAll (· < s1.next) env1 := (id1 (· < s1.next) hp1 (fun i _ h => h) hin' (fun b o hb hg => (ho b o (.inl hb) hg).2.mono fun i hi => Nat.lt_of_lt_of_le hi sp1.next)).1
  refine sem2 φ1 w1 a1 K hp hsz1 he1 (hf1.mono hr2) (ho1.mono hr2) hin1 ?_
  intro φ2 w2 a2 hm2 hsz2 hd2 he2
  exact hK φ2 w2 a2 (Moves.trans sp1 sp2 hm1 hm2 hf ho hf1 ho1 hr1 hr2) hsz2 (hd2.trans hd1) he2
theorem Does.refl {nt : Nat} {T : (Act → World → Prop) → Act → World → Prop} (hT : ∀ K a w, K a w → T K a w) : Does s s env env nt T :=
  ⟨_, _, (Quiet.refl s).sp, (Quiet.refl s).ids fun D _ h _ => h, fun φ w a K _ hsz he _ _ _ hK => hT K a w (hK φ w a (Moves.refl _ _ _ _) hsz rfl he)⟩

theorem look_cons (t d : Nat) (v : AV) (env : Env) : Env.look ((d, v) :: env) t = if d = t then some v else env.look t := by
  simp only [Env.look]
  cases h : Nat.beq d t with
  | true => simp [Nat.eq_of_beq_eq_true h]
  | false => simp [Nat.ne_of_beq_eq_false h]

/-- A slot is written. -/
theorem put_ok {nt : Nat} {dst : Option Tmp} (h : putE nt dst v env = some env') {φ φ' : Phi} {a : Act} (hsz : a.tmps.size = nt) (he : ∀ t u, env.look t = some u → a.tmps[t]? = some (conc φ' u)) :
    (a.put dst (conc φ' v)).tmps.size = nt ∧ (a.put dst (conc φ' v)).defers = a.defers ∧ EnvOk φ' env' (a.put dst (conc φ' v)).tmps := by
  cases dst with
  | none => simp [putE] at h; subst h; exact ⟨hsz, rfl, he⟩
  | some d =>
    simp only [putE] at h
    split at h
    · rename_i hd
      have hd' : d < nt := Nat.le_of_ble_eq_true hd
      cases h
      refine ⟨by simp [Act.put, hsz], rfl, fun t u hu => ?_⟩
      rw [look_cons] at hu
      by_cases hdt : d = t
      · subst hdt
        rw [if_pos rfl] at hu
        cases hu
        simp [Act.put, hsz, hd']
      · rw [if_neg hdt] at hu
        simp only [Act.put]
        rw [Array.getElem?_setIfInBounds_ne hdt]
        exact he t u hu
    · cases h
theorem put_all {nt : Nat} {dst : Option Tmp} (h : putE nt dst v env = some env') {D : Nat → Prop} (hv : v.All D) (he : EnvAll D env) : EnvAll D env' := by
  cases dst with
  | none => simp [putE] at h; subst h; exact he
  | some d =>
    simp only [putE] at h
    split at h
    · cases h
      intro t u hu
      rw [look_cons] at hu
      split at hu
      · cases hu; exact hv
      · exact he t u hu
    · cases h

theorem evText_ok {call : FuncId → List AV → St → Res AV} (hn : Named P) (hc : CallOk P call) {nt : Nat} {ops : Array Oper} {Q : Exit → Act → World → Prop} :
    ∀ (l : List Oper) (i : Nat) (env env' : Env) (s s' : St), evText P call nt ops l env s = .ok env' s' → (∀ j, l[j]? = ops[i + j]?) →
      Does s s' env env' nt (fun K a w => ∀ Q : Exit → Act → World → Prop, (∀ a w, K a w → Q .normal a w) → wpOps P ops Q (List.range' i l.length) a w)
  | [], i, env, env', s, s', h, _ => by
    simp only [evText] at h
    cases h
    exact Does.refl fun K a w h Q hQ => by simpa [wpOps] using hQ a w h
  | r :: l, i, env, env', s, s', h, hl => by
    simp only [evText] at h
    split at h
    · rename_i v s1 hv
      split at h
      · rename_i env1 hput
        obtain ⟨R, W, h1, h2, h3⟩ := evOper_ok hn hc hv
        have hi : ops[i]? = some r := by have := hl 0; simpa using this.symm
        have first : Does s s1 env env1 nt (fun K a w => ∀ Q : Exit → Act → World → Prop, wpOp P ops Q i K a w) := by
          refine ⟨R, W, h1, fun D hp hD hin hR => ?_, fun φ w a K hp hsz he hf ho hin hK Q => ?_⟩
          · have := h2 D hp hD (fun t _ u hu => hin t u hu) hR
            exact ⟨put_all hput this.1 hin, this.2⟩
          · refine h3 φ w a i K Q hi hp hf ho (fun t _ u hu => hin t u hu) (fun t _ u hu => he t u hu) fun φ' w' hm => ?_
            have hag : ∀ t u, env.look t = some u → a.tmps[t]? = some (conc φ' u) := fun t u hu => by
              rw [he t u hu, conc_congr (D := (· < s.next)) (fun j hj => hm.agree j (by omega)) (hin t u hu)]
            obtain ⟨q1, q2, q3⟩ := put_ok hput (φ := φ) hsz hag
            exact hK φ' w' _ hm q1 q2 q3
        have rest := evText_ok (Q := Q) hn hc l (i + 1) env1 env' s1 s' h (fun j => by have := hl (j + 1); simp only [List.getElem?_cons_succ] at this; rw [this]; congr 1; omega)
        refine Does.trans first rest fun K a w hT Q hQ => ?_
        rw [List.length_cons, List.range'_succ, wpOps_cons]
        exact wpOp_mono (fun a w ha => ha Q hQ) (hT Q)
      · cases h
    · cases h
end Ev
end Go.Proofs.YtpkfimijnkkbjaaGreat

namespace Go.Proofs.YtpkfimijnkkbjaaGreat
namespace Ev

variable {P : Program} {s s1 s2 s' : St} {env env1 env2 env' : Env} {o : Op} {v : AV}

def Ex.to : Ex → Exit
  | .normal => .normal
  | .ret => .ret
  | .exit id => .exit id

/-- What a region comes to is told where its order is drawn (EvDraw). -/
def DrawOk (P : Program) : Prop := ∀ (call : FuncId → List AV → St → Res AV) (nt : Nat) (ops : Array Oper) (env env' : Env) (s s' : St), Named P → CallOk P call → evRegion P call nt ops true env s = .ok env' s' →
  Does s s' env env' nt (fun K a w => ∀ (id : Nat) (Q : Exit → Act → World → Prop), (∀ a w, K a w → Q .normal a w) → (Code.region id ops true).wp P Q a w)

/-- A loop, from within. -/
def LoopIn (P : Program) (c : Code) (Q : Exit → Act → World → Prop) (a : Act) (w : World) : Prop :=
  ∀ (b : Frame) (k : List Item) (cs : List Frame), ∃ e a' w', Q e a' w' ∧ Arrives P (lone (b.at a (.code c :: .inLoop c :: k)) cs w) b k cs e a' w'
theorem LoopIn.of {c : Code} {Q : Exit → Act → World → Prop} {a : Act} {w : World} (h : c.wp P (Exit.then (LoopIn P c Q) Q) a w) : LoopIn P c Q a w := by
  intro b k cs
  obtain ⟨e, a₁, w₁, hq, harr⟩ := h b (.inLoop c :: k) cs
  cases e with
  | normal =>
    obtain ⟨e₂, a₂, w₂, hq₂, harr₂⟩ := hq b k cs
    exact ⟨e₂, a₂, w₂, hq₂, .of_steps (Steps.trans harr (.one step_inLoop)) harr₂⟩
  | exit id => exact ⟨_, a₁, w₁, hq, .pass (x := .inLoop c) rfl (fun _ _ => .inl (by simp)) harr⟩
  | goto l => exact ⟨_, a₁, w₁, hq, .pass (x := .inLoop c) rfl (fun _ _ => .inl (by simp)) harr⟩
  | ret => exact ⟨_, a₁, w₁, hq, .pass (x := .inLoop c) rfl (fun _ _ => .inl (by simp)) harr⟩
  | panic ch => exact ⟨_, a₁, w₁, hq, .pass (x := .inLoop c) rfl (fun _ _ => .inl (by simp)) harr⟩
  | outgrown => exact ⟨_, a₁, w₁, hq, .pass (x := .inLoop c) rfl (fun _ _ => .inl (by simp)) harr⟩
theorem LoopIn.wp {c : Code} {Q : Exit → Act → World → Prop} {a : Act} {w : World} (h : LoopIn P c Q a w) : (Code.loop c).wp P Q a w := by
  intro b k cs
  obtain ⟨e, a', w', hq, harr⟩ := h b k cs
  exact ⟨e, a', w', hq, .of_steps (.one step_loop) harr⟩

def CodeT (P : Program) (c : Code) (x : Ex) (K : Act → World → Prop) (a : Act) (w : World) : Prop := ∀ Q : Exit → Act → World → Prop, (∀ a w, K a w → Q x.to a w) → c.wp P Q a w
def LoopT (P : Program) (c : Code) (x : Ex) (K : Act → World → Prop) (a : Act) (w : World) : Prop := ∀ Q : Exit → Act → World → Prop, (∀ a w, K a w → Q x.to a w) → LoopIn P c Q a w

theorem Does.mono {nt : Nat} {T T' : (Act → World → Prop) → Act → World → Prop} (h : Does s s' env env' nt T) (hT : ∀ K a w, T K a w → T' K a w) : Does s s' env env' nt T' := by
  obtain ⟨R, W, h1, h2, h3⟩ := h
  exact ⟨R, W, h1, h2, fun φ w a K hp hsz he hf ho hin hK => hT K a w (h3 φ w a K hp hsz he hf ho hin hK)⟩
/-- Ahead of a piece of code something is asked of what is not known. -/
theorem Does.asked {s0 : St} {nt : Nat} {T T' : (Act → World → Prop) → Act → World → Prop} (hq : Quiet s s0 (fun _ => False)) (h : Does s0 s' env env' nt T)
    (hT : ∀ K φ a w, s0.pre → EnvOk φ env a.tmps → T K a w → T' K a w) : Does s s' env env' nt T' := by
  obtain ⟨R, W, h1, h2, h3⟩ := h
  refine ⟨R, W, ?_, ?_, fun φ w a K hp hsz he hf ho hin hK => hT K φ a w (h1.pre hp) he ?_⟩
  · have := hq.sp.trans h1
    exact { next := this.next, same := fun b hb => this.same b (fun h => hb (h.resolve_left id)), sub := h1.sub, rd := h1.rd, wr := h1.wr, rdm := this.rdm, wrm := this.wrm,
            lt := fun b hb hn => this.lt b (.inr hb) hn, made := fun b hb hb' => (this.made b hb hb').resolve_left id, born := this.born, pre := this.pre }
  · intro D hp hD hin hR
    exact h2 D hp (fun i hi hi' => hD i (by rw [← hq.next]; exact hi) hi') hin (fun b o hb hg => hR b o hb (by rw [← hq.get]; exact hg))
  · have hf0 : Fits s0 R φ w := ⟨fun b o hb hg => hf.holds b o hb (by rw [← hq.get]; exact hg), fun b c hb hc hgb hgc => hf.inj b c hb hc (by rw [← hq.get]; exact hgb) (by rw [← hq.get]; exact hgc)⟩
    have ho0 : Old s0 R := fun b o hb hg => by rw [hq.next]; exact ho b o hb (by rw [← hq.get]; exact hg)
    refine h3 φ w a K hp hsz he hf0 ho0 (by rw [hq.next]; exact hin) fun φ' w' a' hm => hK φ' w' a' ?_
    exact ⟨fun j hj => hm.agree j (by rw [hq.next]; exact hj), hm.holds, hm.inj,
        fun b hb hg => (hm.source b hb hg).imp id fun ⟨c, hc, hgc, he⟩ => ⟨c, hc, by rw [← hq.get]; exact hgc, he⟩,
        fun k hk hc => hm.frame k hk fun c hc' hgc => hc c hc' (by rw [← hq.get]; exact hgc), hm.size, hm.kept⟩

theorem evCode_ok {call : FuncId → List AV → St → Res AV} (hn : Named P) (hd : DrawOk P) (hc : CallOk P call) {nt : Nat} :
    ∀ (f : Nat), (∀ (c : Code) (env env' : Env) (s s' : St) (x : Ex), evCode P call nt f c env s = .ok (x, env') s' → Does s s' env env' nt (CodeT P c x)) ∧
      (∀ (c : Code) (env env' : Env) (s s' : St) (x : Ex), evCode P call nt f (.loop c) env s = .ok (x, env') s' → Does s s' env env' nt (LoopT P c x)) := by
  intro f
  induction f with
  | zero => exact ⟨fun c env env' s s' x h => (by cases h), fun c env env' s s' x h => (by cases h)⟩
  | succ f ih =>
    obtain ⟨ih1, ih2⟩ := ih
    have loop : ∀ (c : Code) (env env' : Env) (s s' : St) (x : Ex), evCode P call nt (f + 1) (.loop c) env s = .ok (x, env') s' → Does s s' env env' nt (LoopT P c x) := by
      intro c env env' s s' x h
      simp only [evCode] at h
      split at h
      · rename_i env1 s1 h1
        refine Does.trans (ih1 _ _ _ _ _ _ h1) (ih2 _ _ _ _ _ _ h) fun K a w hT Q hQ => LoopIn.of (hT _ fun a w hL => ?_)
        exact hL Q hQ
      · rename_i hne
        refine (ih1 _ _ _ _ _ _ h).mono fun K a w hT Q hQ => LoopIn.of (hT _ fun a w hK => ?_)
        cases x with
        | normal => exact (hne _ _ h).elim
        | ret => exact hQ a w hK
        | exit id => exact hQ a w hK
    refine ⟨?_, loop⟩
    intro c env env' s s' x h
    cases c with
    | skip => simp only [evCode] at h; cases h; exact Does.refl fun K a w hK Q hQ => wp_skip (hQ a w hK)
    | region id ops draw =>
      simp only [evCode] at h
      split at h
      · rename_i env1 s1 h1
        cases h
        cases draw
        · unfold evRegion at h1
          refine (evText_ok (Q := fun _ _ _ => True) hn hc ops.toList 0 env env' s s' h1 (fun j => by simp)).mono fun K a w hT Q hQ => wp_region ?_
          have := hT Q hQ
          rw [Array.length_toList] at this
          rw [List.range_eq_range']
          exact this
        · exact (hd call nt ops env env' s s' hn hc h1).mono fun K a w hT Q hQ => hT id Q hQ
      · cases h
    | seq c1 c2 =>
      simp only [evCode] at h
      split at h
      · rename_i env1 s1 h1
        exact Does.trans (ih1 _ _ _ _ _ _ h1) (ih1 _ _ _ _ _ _ h) fun K a w hT Q hQ => wp_seq (hT _ fun a w h2 => h2 Q hQ)
      · rename_i hne
        refine (ih1 _ _ _ _ _ _ h).mono fun K a w hT Q hQ => wp_seq (hT _ fun a w hK => ?_)
        cases x with
        | normal => exact (hne _ _ h).elim
        | ret => exact hQ a w hK
        | exit id => exact hQ a w hK
    | cond y c1 c2 =>
      simp only [evCode] at h
      have ev : ∀ {φ : Phi} {a : Act} {u : AV}, EnvOk φ env a.tmps → evA env y = some u → a.eval y = conc φ u := fun he hu => evA_eval (fun t _ u hu => he t u hu) hu
      split at h
      · rename_i hy
        exact Does.asked (Quiet.refl s) (ih1 _ _ _ _ _ _ h) fun K φ a w _ he hT Q hQ => wp_cond_true (ev he hy) (hT Q hQ)
      · rename_i hy
        exact Does.asked (Quiet.refl s) (ih1 _ _ _ _ _ _ h) fun K φ a w _ he hT Q hQ => wp_cond_false (ev he hy) (hT Q hQ)
      · rename_i q hy
        obtain ⟨hp, n, rd, wr, p, oo⟩ := s
        split at h
        · rename_i oo' he
          injection he with e1 e2 e3 e4 e5 e6
          subst e1 e2 e3 e4 e5 e6
          refine Does.asked (s := ⟨hp, n, rd, wr, p, .br true :: oo'⟩) (s0 := ⟨hp, n, rd, wr, p ∧ q = true, oo'⟩) ⟨rfl, rfl, fun _ h => h.elim, fun _ h => h, fun _ h => h, fun h => h.1⟩ (ih1 _ _ _ _ _ _ h) fun K φ a w hpre he hT Q hQ => ?_
          have hq : q = true := hpre.2
          subst hq
          exact wp_cond_true (ev he hy) (hT Q hQ)
        · rename_i oo' he
          injection he with e1 e2 e3 e4 e5 e6
          subst e1 e2 e3 e4 e5 e6
          refine Does.asked (s := ⟨hp, n, rd, wr, p, .br false :: oo'⟩) (s0 := ⟨hp, n, rd, wr, p ∧ q = false, oo'⟩) ⟨rfl, rfl, fun _ h => h.elim, fun _ h => h, fun _ h => h, fun h => h.1⟩ (ih1 _ _ _ _ _ _ h) fun K φ a w hpre he hT Q hQ => ?_
          have hq : q = false := hpre.2
          subst hq
          exact wp_cond_false (ev he hy) (hT Q hQ)
        · cases h
      · cases h
    | block id c1 =>
      simp only [evCode] at h
      split at h
      · rename_i i env1 s1 h1
        split at h
        · rename_i hi
          cases h
          have hi' := Nat.eq_of_beq_eq_true hi
          subst hi'
          refine (ih1 _ _ _ _ _ _ h1).mono fun K a w hT Q hQ => wp_block (hT _ fun a w hK => ?_)
          show (if i = i then Q .normal a w else Q (.exit i) a w)
          rw [if_pos rfl]; exact hQ a w hK
        · rename_i hi
          cases h
          have hi' := Nat.ne_of_beq_eq_false hi
          refine (ih1 _ _ _ _ _ _ h1).mono fun K a w hT Q hQ => wp_block (hT _ fun a w hK => ?_)
          show (if i = id then Q .normal a w else Q (.exit i) a w)
          rw [if_neg hi']; exact hQ a w hK
      · rename_i hne
        refine (ih1 _ _ _ _ _ _ h).mono fun K a w hT Q hQ => wp_block (hT _ fun a w hK => ?_)
        cases x with
        | normal => exact hQ a w hK
        | ret => exact hQ a w hK
        | exit id' => exact (hne _ _ _ h).elim
    | loop c1 => exact (loop c1 env env' s s' x h).mono fun K a w hT Q hQ => LoopIn.wp (hT Q hQ)
    | exit id => simp only [evCode] at h; cases h; exact Does.refl fun K a w hK Q hQ => wp_exit (hQ a w hK)
    | ret => simp only [evCode] at h; cases h; exact Does.refl fun K a w hK Q hQ => wp_ret (hQ a w hK)
    | rangeFunc _ _ _ _ => cases h
    | scope _ => cases h
    | label _ => cases h
    | goto _ => cases h
    | refuse _ => cases h
end Ev
end Go.Proofs.YtpkfimijnkkbjaaGreat
