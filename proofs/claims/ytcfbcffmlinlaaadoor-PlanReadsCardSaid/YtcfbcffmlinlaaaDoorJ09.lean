/-
  A region that draws its order, walked once: each operation is shown alone, in whatever world has come of the region's first one, from what the operations that it waits for have left; then any order serves. A value that is not known beforehand (a slice that a call has made) is told by what holds of it. An operation may also panic, always to one end.
  plan's reader as it lies in memory.
-/
import Derived.Orders
import Derived.Tactics2
import Derived.Deep.DeepCutAuto
import Derived.Test.YtcfbcffmlinlaaaDoorJ07
set_option linter.unusedVariables false
namespace Go.Proofs.YtcfbcffmlinlaaaDoor
namespace RegP

section
variable {P : Program} {ops : Array Oper} {need : List (Nat × Nat)} {G : World → World → Prop} {W : World} {Q : Act → World → Prop} {X : Exit → World → Prop}

/-- What an operation alone must leave: its value is so, the world has gone on. -/
def Post (G : World → World → Prop) (X : Exit → World → Prop) (w : World) (A : Act) (dst : Option Tmp) (R : Value → World → Prop) (e : Exit) (a : Act) (w' : World) : Prop :=
  (e = .normal ∧ a.defers = A.defers ∧ G w w' ∧ ∀ d, dst = some d → R (a.tmps.getD d undef) w') ∨ ((∃ c, e = .panic c) ∧ X e w')

theorem Post.no_out {w : World} {A : Act} {dst : Option Tmp} {R : Value → World → Prop} : ¬ LetsOut (Post G X w A dst R) := by
  rintro ⟨a, w', ⟨h, -⟩ | ⟨⟨c, h⟩, -⟩⟩ <;> cases h

abbrev Fact := Nat × (Value → World → Prop)
def Facts (need : List (Nat × Nat)) (k : Nat) (fs : List Fact) (vs : Nat → Value) (w : World) : Prop := ∀ p ∈ fs, (k, p.1) ∈ need → p.2 (vs p.1) w

/-- The walk in the text's order. -/
def wpV (P : Program) (ops : Array Oper) (need : List (Nat × Nat)) (G : World → World → Prop) (X : Exit → World → Prop) (W : World) (Q : Act → World → Prop) : List Oper → Nat → List Fact → ((Nat → Value) → Act) → Prop
  | [], _, fs, A => ∀ vs w, G W w → (∀ p ∈ fs, p.2 (vs p.1) w) → Q (A vs) w
  | o :: rest, k, fs, A =>
    (∃ v, (∀ vs w, G W w → Facts need k fs vs w → wpList P ops (Post G X w (A vs) o.dst (fun u _ => u = v)) [o] (A vs) w) ∧ wpV P ops need G X W Q rest (k + 1) fs (fun vs => (A vs).put o.dst v)) ∨
    (∃ R : Value → World → Prop, o.dst ≠ none ∧ (∀ v w w', R v w → G w w' → R v w') ∧ (∀ vs w, G W w → Facts need k fs vs w → wpList P ops (Post G X w (A vs) o.dst R) [o] (A vs) w) ∧
      wpV P ops need G X W Q rest (k + 1) ((k, R) :: fs) (fun vs => (A vs).put o.dst (vs k)))

/-- What is known of an operation's value. -/
inductive Sp where
  | det (v : Value)
  | rel (R : Value → World → Prop)
def Sp.holds : Sp → Value → World → Prop
  | .det v, u, _ => u = v
  | .rel R, u, w => R u w
def Sp.val : Sp → Value → Value
  | .det v, _ => v
  | .rel _, u => u
theorem Sp.val_of_holds {s : Sp} {u : Value} {w : World} (h : s.holds u w) : s.val u = u := by
  cases s with
  | det v => exact h.symm
  | rel R => rfl

def dstAt (ops : Array Oper) (i : Nat) : Option Tmp := (ops[i]?).bind (·.dst)

def frameAt (a0 : Act) (ops : Array Oper) (sp : Nat → Sp) (vs : Nat → Value) : Nat → Act
  | 0 => a0
  | k + 1 => (frameAt a0 ops sp vs k).put (dstAt ops k) ((sp k).val (vs k))

def factsAt (sp : Nat → Sp) : Nat → List Fact
  | 0 => []
  | k + 1 => match sp k with
    | .det _ => factsAt sp k
    | .rel R => (k, R) :: factsAt sp k

theorem mem_factsAt {sp : Nat → Sp} {n : Nat} {p : Fact} (h : p ∈ factsAt sp n) : p.1 < n ∧ sp p.1 = .rel p.2 := by
  induction n with
  | zero => cases h
  | succ n ih =>
    unfold factsAt at h
    cases hs : sp n with
    | det v => rw [hs] at h; have := ih h; exact ⟨by omega, this.2⟩
    | rel R =>
      rw [hs] at h
      rcases List.mem_cons.1 h with rfl | h
      · exact ⟨Nat.lt_succ_self _, hs⟩
      · have := ih h; exact ⟨by omega, this.2⟩

def Good (P : Program) (ops : Array Oper) (need : List (Nat × Nat)) (G : World → World → Prop) (X : Exit → World → Prop) (W : World) (a0 : Act) (sp : Nat → Sp) (k : Nat) (o : Oper) : Prop :=
  (∀ v w w', (sp k).holds v w → G w w' → (sp k).holds v w') ∧ (∀ R, sp k = .rel R → o.dst ≠ none) ∧
  ∀ vs w, G W w → Facts need k (factsAt sp k) vs w → wpList P ops (Post G X w (frameAt a0 ops sp vs k) o.dst (sp k).holds) [o] (frameAt a0 ops sp vs k) w

theorem frameAt_congr {a0 : Act} {sp sp' : Nat → Sp} {vs : Nat → Value} : ∀ k, (∀ j, j < k → sp j = sp' j) → frameAt a0 ops sp vs k = frameAt a0 ops sp' vs k
  | 0, _ => rfl
  | k + 1, h => by unfold frameAt; rw [frameAt_congr k (fun j hj => h j (by omega)), h k (by omega)]
theorem factsAt_congr {sp sp' : Nat → Sp} : ∀ k, (∀ j, j < k → sp j = sp' j) → factsAt sp k = factsAt sp' k
  | 0, _ => rfl
  | k + 1, h => by unfold factsAt; rw [factsAt_congr k (fun j hj => h j (by omega)), h k (by omega)]

/-- The walk's words, gathered: one for each operation. -/
theorem gather {a0 : Act} : ∀ (l : List Oper) (k : Nat) (sp : Nat → Sp), (∀ j, l[j]? = ops[k + j]?) →
    wpV P ops need G X W Q l k (factsAt sp k) (fun vs => frameAt a0 ops sp vs k) →
    ∃ sp' : Nat → Sp, (∀ j, j < k → sp' j = sp j) ∧ (∀ j o, k ≤ j → ops[j]? = some o → Good P ops need G X W a0 sp' j o) ∧
      ∀ vs w, G W w → (∀ p ∈ factsAt sp' (k + l.length), p.2 (vs p.1) w) → Q (frameAt a0 ops sp' vs (k + l.length)) w
  | [], k, sp, hl, h => by
    refine ⟨sp, fun _ _ => rfl, fun j o hj ho => ?_, fun vs w hw hf => h vs w hw hf⟩
    have := hl (j - k)
    rw [Nat.add_sub_cancel' hj, ho] at this
    simp at this
  | o :: l, k, sp, hl, h => by
    have h0 : ops[k]? = some o := by simpa using (hl 0).symm
    have hl' : ∀ j, l[j]? = ops[k + 1 + j]? := fun j => by have := hl (j + 1); simpa [Nat.add_assoc, Nat.add_comm 1 j] using this
    have hd : dstAt ops k = o.dst := by unfold dstAt; rw [h0]; rfl
    have key : ∀ (s : Sp), (∀ v w w', s.holds v w → G w w' → s.holds v w') → (∀ R, s = .rel R → o.dst ≠ none) →
        (∀ vs w, G W w → Facts need k (factsAt sp k) vs w → wpList P ops (Post G X w (frameAt a0 ops sp vs k) o.dst s.holds) [o] (frameAt a0 ops sp vs k) w) →
        wpV P ops need G X W Q l (k + 1) (factsAt (fun j => if j = k then s else sp j) (k + 1)) (fun vs => frameAt a0 ops (fun j => if j = k then s else sp j) vs (k + 1)) →
        ∃ sp' : Nat → Sp, (∀ j, j < k → sp' j = sp j) ∧ (∀ j o, k ≤ j → ops[j]? = some o → Good P ops need G X W a0 sp' j o) ∧
          ∀ vs w, G W w → (∀ p ∈ factsAt sp' (k + (o :: l).length), p.2 (vs p.1) w) → Q (frameAt a0 ops sp' vs (k + (o :: l).length)) w := by
      intro s hst hne hrun hrest
      obtain ⟨sp', h1, h2, h3⟩ := gather l (k + 1) _ hl' hrest
      have hlow : ∀ j, j < k → sp' j = sp j := fun j hj => by rw [h1 j (by omega), if_neg (by omega)]
      have hk : sp' k = s := by rw [h1 k (by omega), if_pos rfl]
      refine ⟨sp', hlow, fun j oj hj ho => ?_, fun vs w hw hf => ?_⟩
      · by_cases hjk : j = k
        · subst hjk
          rw [h0] at ho; cases ho
          refine ⟨by rw [hk]; exact hst, by rw [hk]; exact hne, fun vs w hw hf => ?_⟩
          rw [hk, frameAt_congr j hlow]
          rw [factsAt_congr j hlow] at hf
          exact hrun vs w hw hf
        · exact h2 j oj (by omega) ho
      · have e : k + (o :: l).length = k + 1 + l.length := by simp; omega
        rw [e] at hf ⊢
        exact h3 vs w hw hf
    have hfr : ∀ (s : Sp) vs, frameAt a0 ops (fun j => if j = k then s else sp j) vs (k + 1) = (frameAt a0 ops sp vs k).put o.dst (s.val (vs k)) := fun s vs => by
      show (frameAt a0 ops (fun j => if j = k then s else sp j) vs k).put (dstAt ops k) (Sp.val (if k = k then s else sp k) (vs k)) = _
      rw [if_pos rfl, hd, frameAt_congr k (fun j hj => if_neg (by omega))]
    have hfc : ∀ (s : Sp), factsAt (fun j => if j = k then s else sp j) (k + 1) = match s with | .det _ => factsAt sp k | .rel R => (k, R) :: factsAt sp k := fun s => by
      show (match (if k = k then s else sp k) with | .det _ => factsAt (fun j => if j = k then s else sp j) k | .rel R => (k, R) :: factsAt (fun j => if j = k then s else sp j) k) = _
      rw [if_pos rfl, factsAt_congr k (fun j hj => if_neg (by omega))]
    rcases h with ⟨v, hrun, hrest⟩ | ⟨R, hne, hst, hrun, hrest⟩
    · refine key (.det v) (fun u w w' hu _ => hu) (fun R h => by cases h) hrun ?_
      rw [hfc, funext (hfr (.det v))]; exact hrest
    · refine key (.rel R) hst (fun _ _ => hne) hrun ?_
      rw [hfc, funext (hfr (.rel R))]; exact hrest

/-! ### The checks -/

def befB (need : List (Nat × Nat)) (ops : Array Oper) (i j : Nat) : Bool :=
  need.contains (i, j) || ((ops[i]?).map fun o => o.after.any fun e => Region.binds .any e && e.on == j).getD false
def okDst (ops : Array Oper) (size : Nat) : Bool :=
  (List.range ops.size).all fun i => match dstAt ops i with
    | none => true
    | some d => decide (d < size) && (List.range i).all fun j => dstAt ops j != some d
def okEdges (ops : Array Oper) : Bool :=
  (List.range ops.size).all fun i => ((ops[i]?).map fun o => o.after.all fun e => !Region.binds .any e || decide (e.on < i)).getD true
def okNeed (need : List (Nat × Nat)) (ops : Array Oper) : Bool :=
  need.all fun p => ((ops[p.1]?).map fun o => o.after.any fun e => Region.binds .any e && (e.on == p.2 || need.contains (e.on, p.2))).getD false
def okLooks (need : List (Nat × Nat)) (ops : Array Oper) : Bool :=
  (List.range ops.size).all fun i => ((ops[i]?).map fun o => (o.looksAt ops).all fun t => (List.range ops.size).all fun j =>
    dstAt ops j != some t || (decide (j < i) && befB need ops i j) || (decide (i < j) && befB need ops j i)).getD true
def ok (need : List (Nat × Nat)) (ops : Array Oper) (size : Nat) : Bool :=
  okDst ops size && okEdges ops && okNeed need ops && okLooks need ops && Region.noSelect ops

theorem lt_of_some {i : Nat} {o : Oper} (h : ops[i]? = some o) : i < ops.size := (Array.getElem?_eq_some_iff.1 h).1
theorem lt_of_dst {i : Nat} {d : Tmp} (h : dstAt ops i = some d) : i < ops.size := by
  unfold dstAt at h
  cases ho : ops[i]? with
  | none => rw [ho] at h; cases h
  | some o => exact lt_of_some ho

theorem okDst_lt {size i : Nat} {d : Tmp} (h : okDst ops size = true) (hi : dstAt ops i = some d) : d < size := by
  have := List.all_eq_true.1 h i (List.mem_range.2 (lt_of_dst hi))
  rw [hi] at this
  simp only [Bool.and_eq_true, decide_eq_true_eq] at this
  exact this.1
theorem okDst_ne {size i j : Nat} {d : Tmp} (h : okDst ops size = true) (hi : dstAt ops i = some d) (hj : dstAt ops j = some d) : i = j := by
  have key : ∀ i j, j < i → dstAt ops i = some d → dstAt ops j = some d → False := fun i j hji hi hj => by
    have := List.all_eq_true.1 h i (List.mem_range.2 (lt_of_dst hi))
    rw [hi] at this
    simp only [Bool.and_eq_true] at this
    have := List.all_eq_true.1 this.2 j (List.mem_range.2 hji)
    rw [hj] at this
    simp at this
  rcases Nat.lt_trichotomy i j with hlt | rfl | hlt
  · exact (key j i hlt hj hi).elim
  · rfl
  · exact (key i j hlt hi hj).elim
theorem okEdges_lt {i : Nat} {o : Oper} (h : okEdges ops = true) (ho : ops[i]? = some o) {e : Edge} (he : e ∈ o.after) (hb : Region.binds .any e = true) : e.on < i := by
  have := List.all_eq_true.1 h i (List.mem_range.2 (lt_of_some ho))
  rw [ho] at this
  simp only [Option.map_some, Option.getD_some] at this
  have := Array.all_eq_true_iff_forall_mem.1 this e he
  simpa [hb] using this

/-- What has come up, and what it waited for. -/
def Closed (ops : Array Oper) (L : Array Bool) : Prop :=
  ∀ i o, L.getD i false = true → ops[i]? = some o → ∀ e ∈ o.after, Region.binds .any e = true → L.getD e.on false = true

theorem bef_listed {L : Array Bool} (hE : okEdges ops = true) (hN : okNeed need ops = true) (hC : Closed ops L) {j : Nat} : ∀ (i : Nat),
    (∀ o, ops[i]? = some o → ∀ e ∈ o.after, Region.binds .any e = true → L.getD e.on false = true) → befB need ops i j = true → L.getD j false = true := by
  intro i
  induction i using Nat.strongRecOn with
  | _ i ih =>
    intro hr hb
    unfold befB at hb
    rw [Bool.or_eq_true] at hb
    rcases hb with hb | hb
    · have hm : (i, j) ∈ need := by simpa using hb
      have := List.all_eq_true.1 hN (i, j) hm
      cases ho : ops[i]? with
      | none => simp [ho] at this
      | some o =>
        simp only [ho, Option.map_some, Option.getD_some] at this
        obtain ⟨e, he, h2⟩ := Array.any_eq_true'.1 this
        simp only [Bool.and_eq_true, Bool.or_eq_true, beq_iff_eq] at h2
        obtain ⟨h2, h3⟩ := h2
        have hle := hr o ho e he h2
        rcases h3 with h3 | h3
        · rw [← h3]; exact hle
        · refine ih e.on (okEdges_lt hE ho he h2) (fun o' ho' => hC e.on o' hle ho') ?_
          unfold befB
          rw [h3]; rfl
    · cases ho : ops[i]? with
      | none => simp [ho] at hb
      | some o =>
        simp only [ho, Option.map_some, Option.getD_some] at hb
        obtain ⟨e, he, h2⟩ := Array.any_eq_true'.1 hb
        simp only [Bool.and_eq_true, beq_iff_eq] at h2
        rw [← h2.2]; exact hr o ho e he h2.1

/-! ### Frames -/

theorem put_get {a : Act} {dst : Option Tmp} {v : Value} {t : Tmp} (h : dst ≠ some t) : (a.put dst v).tmps[t]? = a.tmps[t]? := by
  cases dst with
  | none => rfl
  | some d => exact Array.getElem?_setIfInBounds_ne (fun e => h (by rw [e]))
theorem put_get_at {a : Act} {v : Value} {t : Tmp} (h : t < a.tmps.size) : (a.put (some t) v).tmps[t]? = some v := by
  unfold Act.put; simp [h]
theorem put_size {a : Act} {dst : Option Tmp} {v : Value} : (a.put dst v).tmps.size = a.tmps.size := by
  cases dst <;> simp [Act.put]
theorem put_defers' {a : Act} {dst : Option Tmp} {v : Value} : (a.put dst v).defers = a.defers := by
  cases dst <;> rfl

theorem frame_size {a0 : Act} {sp : Nat → Sp} {vs : Nat → Value} : ∀ k, (frameAt a0 ops sp vs k).tmps.size = a0.tmps.size
  | 0 => rfl
  | k + 1 => by unfold frameAt; rw [put_size, frame_size k]
theorem frame_defers {a0 : Act} {sp : Nat → Sp} {vs : Nat → Value} : ∀ k, (frameAt a0 ops sp vs k).defers = a0.defers
  | 0 => rfl
  | k + 1 => by unfold frameAt; rw [put_defers', frame_defers k]
theorem frame_out {a0 : Act} {sp : Nat → Sp} {vs : Nat → Value} {t : Tmp} : ∀ k, (∀ j, j < k → dstAt ops j ≠ some t) → (frameAt a0 ops sp vs k).tmps[t]? = a0.tmps[t]?
  | 0, _ => rfl
  | k + 1, h => by unfold frameAt; rw [put_get (h k (by omega)), frame_out k (fun j hj => h j (by omega))]
theorem frame_get {a0 : Act} {sp : Nat → Sp} {vs : Nat → Value} {j : Nat} {d : Tmp} (hD : okDst ops a0.tmps.size = true) (hj : dstAt ops j = some d) : ∀ k, j < k → (frameAt a0 ops sp vs k).tmps[d]? = some ((sp j).val (vs j))
  | 0, h => by omega
  | k + 1, h => by
    unfold frameAt
    by_cases hjk : j = k
    · subst hjk
      rw [hj, put_get_at (by rw [frame_size]; exact okDst_lt hD hj)]
    · rw [put_get (fun e => hjk (okDst_ne hD hj e)), frame_get hD hj k (by omega)]

/-! ### One operation, taken over -/

theorem take_over {i : Nat} {o : Oper} {a A : Act} {w : World} {R : Value → World → Prop} {Q' : Exit → Act → World → Prop} {K : Act → World → Prop} (ho : ops[i]? = some o) (hs : ∀ cs b, o.op ≠ .select cs b)
    (hlook : ∀ t ∈ o.looksAt ops, a.tmps[t]? = A.tmps[t]?) (hsz : ∀ d, o.dst = some d → d < A.tmps.size)
    (h : wpList P ops (Post G X w A o.dst R) [o] A w) (hX : ∀ e w', X e w' → Q' e a w') (hK : ∀ v w', G w w' → (o.dst ≠ none → R v w') → K (a.put o.dst v) w') : wpOp P ops Q' i K a w := by
  have hev : execOp a.eval o = execOp A.eval o := execOp_congr o hs fun x hx => by
    cases x with
    | tmp t =>
      have := hlook t (List.mem_append_left _ (List.mem_filterMap.2 ⟨.tmp t, by simpa using hx, rfl⟩))
      show a.tmps.getD t undef = A.tmps.getD t undef
      rw [Array.getD_eq_getD_getElem?, Array.getD_eq_getD_getElem?, this]
    | _ => rfl
  have hwt : Region.wanted o (yielded ops a.tmps) = Region.wanted o (yielded ops A.tmps) := by
    unfold Region.wanted
    cases hg : o.guard with
    | none => rfl
    | some gw =>
      obtain ⟨g, want⟩ := gw
      have hy : yielded ops a.tmps g = yielded ops A.tmps g := by
        unfold yielded
        cases ht : (ops[g]?).bind (·.dst) with
        | none => rfl
        | some t =>
          have := hlook t (by simp [Oper.looksAt, hg, ht])
          simp only [Option.bind_some, this]
      simp only [hy]
  have fin : ∀ v w', Post G X w A o.dst R .normal (A.put o.dst v) w' → K (a.put o.dst v) w' := fun v w' hp => by
    rcases hp with ⟨_, _, hg, hr⟩ | ⟨⟨c, hc⟩, -⟩
    case inr => cases hc
    refine hK v w' hg fun hne => ?_
    cases hd : o.dst with
    | none => exact absurd hd hne
    | some d =>
      have := hr d hd
      rwa [hd, Array.getD_eq_getD_getElem?, put_get_at (hsz d hd)] at this
  unfold wpOp
  simp only [ho, hwt]
  unfold wpList at h
  split
  · rename_i hw
    rw [if_pos hw] at h
    refine .inl ?_
    rcases h with h | ⟨_, h⟩
    case inr => exact absurd h Post.no_out
    unfold Oper.wp at *
    rw [hev]
    generalize (execOp A.eval o).run P w = r at *
    cases r with
    | ok n w' =>
      cases n <;> simp only [Oper.upon] at h ⊢
      case value u => exact fin u w' h
      case skip => exact fin undef w' h
      case defer d =>
        rcases h with ⟨_, hd, _⟩ | ⟨⟨c, hc⟩, -⟩
        case inr => cases hc
        rw [put_defers'] at hd
        exact absurd (congrArg List.length hd) (by simp)
      case enter f args =>
        refine Calls.mono h fun e w'' he => ?_
        cases e with
        | returned u => exact fin u w'' he
        | panicked c =>
          rcases he with ⟨h1, _⟩ | ⟨_, h1⟩
          · cases h1
          · exact hX _ _ h1
        | outgrown => exact absurd he Post.no_out
      case row row args => exact Rows.mono h fun u w'' he => fin u w'' he
    | halt x w' =>
      cases x <;> simp only [Oper.upon] at h ⊢
      case panic u =>
        rcases h with ⟨h1, _⟩ | ⟨_, h1⟩
        · cases h1
        · exact hX _ _ h1
  · rename_i hw
    rw [if_neg hw] at h
    exact fin undef w h

/-! ### Any order -/

structure Inv (G : World → World → Prop) (W : World) (a0 : Act) (ops : Array Oper) (sp : Nat → Sp) (L : Array Bool) (a : Act) (w : World) : Prop where
  good : G W w
  defs : a.defers = a0.defers
  size : a.tmps.size = a0.tmps.size
  lsize : L.size = ops.size
  don : ∀ j d, L.getD j false = true → dstAt ops j = some d → ∃ v, a.tmps[d]? = some v ∧ (sp j).holds v w
  out : ∀ t, (∀ j, L.getD j false = true → dstAt ops j ≠ some t) → a.tmps[t]? = a0.tmps[t]?
  closed : Closed ops L

def valOf (ops : Array Oper) (a : Act) (j : Nat) : Value := ((dstAt ops j).bind (a.tmps[·]?)).getD undef

theorem Inv.look {a0 : Act} {sp : Nat → Sp} {L : Array Bool} {a : Act} {w : World} (hI : Inv G W a0 ops sp L a w) (hok : ok need ops a0.tmps.size = true) {i : Nat} {o : Oper} (ho : ops[i]? = some o)
    (hun : L.getD i false = false) (hr : ∀ e ∈ o.after, Region.binds .any e = true → L.getD e.on false = true) {t : Tmp} (ht : t ∈ o.looksAt ops) :
    a.tmps[t]? = (frameAt a0 ops sp (valOf ops a) i).tmps[t]? := by
  unfold ok at hok
  simp only [Bool.and_eq_true] at hok
  obtain ⟨⟨⟨⟨hD, hE⟩, hN⟩, hL⟩, hS⟩ := hok
  have h1 := List.all_eq_true.1 hL i (List.mem_range.2 (lt_of_some ho))
  rw [ho] at h1
  simp only [Option.map_some, Option.getD_some] at h1
  have h2 := List.all_eq_true.1 h1 t ht
  by_cases hex : ∃ j, dstAt ops j = some t
  · obtain ⟨j, hj⟩ := hex
    have h3 := List.all_eq_true.1 h2 j (List.mem_range.2 (lt_of_dst hj))
    rw [hj] at h3
    simp only [bne_self_eq_false, Bool.false_or, Bool.or_eq_true, Bool.and_eq_true, decide_eq_true_eq] at h3
    rcases h3 with ⟨hji, hb⟩ | ⟨hij, hb⟩
    · have hl := bef_listed hE hN hI.closed i (fun o' ho' => by rw [ho] at ho'; cases ho'; exact hr) hb
      obtain ⟨v, hv, hh⟩ := hI.don j t hl hj
      rw [frame_get hD hj i hji, hv]
      have : valOf ops a j = v := by unfold valOf; rw [hj]; simp [hv]
      rw [this, Sp.val_of_holds hh]
    · have hnl : L.getD j false = false := by
        cases hlj : L.getD j false with
        | false => rfl
        | true =>
          have := bef_listed hE hN hI.closed j (fun o' ho' => hI.closed j o' hlj ho') hb
          rw [hun] at this; cases this
      rw [frame_out i (fun j' hj' e => by have := okDst_ne hD e hj; omega)]
      refine hI.out t fun j' hl' e => ?_
      have := okDst_ne hD e hj
      subst this
      rw [hnl] at hl'; cases hl'
  · rw [frame_out i (fun j _ e => hex ⟨j, e⟩)]
    exact hI.out t fun j _ e => hex ⟨j, e⟩

theorem any_order {a0 : Act} {sp : Nat → Sp} {Q' : Exit → Act → World → Prop} (hok : ok need ops a0.tmps.size = true) (hG : ∀ a b c : World, G a b → G b c → G a c) (hgood : ∀ j o, ops[j]? = some o → Good P ops need G X W a0 sp j o)
    (hX : ∀ e a' w', a'.defers = a0.defers → X e w' → Q' e a' w') (hend : ∀ vs w, G W w → (∀ p ∈ factsAt sp ops.size, p.2 (vs p.1) w) → Q' .normal (frameAt a0 ops sp vs ops.size) w) :
    ∀ (fuel : Nat) (L : Array Bool) (a : Act) (w : World), Inv G W a0 ops sp L a w → (L.toList.filter (! ·)).length ≤ fuel → wpAny P .any ops Q' fuel L a w := by
  have hok' := hok
  unfold ok at hok'
  simp only [Bool.and_eq_true] at hok'
  obtain ⟨⟨⟨⟨hD, hE⟩, hN⟩, hL⟩, hS⟩ := hok'
  have fin : ∀ (L : Array Bool) (a : Act) (w : World), Inv G W a0 ops sp L a w → Region.ready .any ops L = [] → Q' .normal a w := by
    intro L a w hI hr
    have hall : ∀ i, i < ops.size → L.getD i false = true := by
      intro i
      induction i using Nat.strongRecOn with
      | _ i ih =>
        intro hi
        cases hl : L.getD i false with
        | true => rfl
        | false =>
          exfalso
          have ho : ops[i]? = some ops[i] := Array.getElem?_eq_getElem hi
          have : i ∈ Region.ready .any ops L := mem_ready.2 ⟨by
            have hlt : i < L.size := by rw [hI.lsize]; exact hi
            simp [hlt] at hl ⊢; exact hl, ops[i], ho, fun e he hb => ih e.on (okEdges_lt hE ho he hb) (Nat.lt_trans (okEdges_lt hE ho he hb) hi)⟩
          rw [hr] at this; cases this
    have hfr : a = frameAt a0 ops sp (valOf ops a) ops.size := by
      have h1 : a.tmps = (frameAt a0 ops sp (valOf ops a) ops.size).tmps := by
        apply Array.ext_getElem?
        intro t
        by_cases hex : ∃ j, dstAt ops j = some t
        · obtain ⟨j, hj⟩ := hex
          obtain ⟨v, hv, hh⟩ := hI.don j t (hall j (lt_of_dst hj)) hj
          rw [frame_get hD hj _ (lt_of_dst hj), hv]
          have : valOf ops a j = v := by unfold valOf; rw [hj]; simp [hv]
          rw [this, Sp.val_of_holds hh]
        · rw [frame_out _ (fun j _ e => hex ⟨j, e⟩)]
          exact hI.out t fun j _ e => hex ⟨j, e⟩
      have h2 : a.defers = (frameAt a0 ops sp (valOf ops a) ops.size).defers := by rw [frame_defers]; exact hI.defs
      cases a with
      | mk t d =>
        generalize frameAt a0 ops sp (valOf ops ⟨t, d⟩) ops.size = F at *
        cases F
        simp only at h1 h2
        rw [h1, h2]
    rw [hfr]
    refine hend _ w hI.good fun p hp => ?_
    obtain ⟨hlt, hsp⟩ := mem_factsAt hp
    have ho : ops[p.1]? = some ops[p.1] := Array.getElem?_eq_getElem hlt
    have hne := (hgood p.1 _ ho).2.1 _ hsp
    cases hd : (ops[p.1]).dst with
    | none => exact absurd hd hne
    | some d =>
      have hdst : dstAt ops p.1 = some d := by unfold dstAt; rw [ho]; exact hd
      obtain ⟨v, hv, hh⟩ := hI.don p.1 d (hall _ hlt) hdst
      have : valOf ops a p.1 = v := by unfold valOf; rw [hdst]; simp [hv]
      rw [this]
      rw [hsp] at hh
      exact hh
  intro fuel
  induction fuel with
  | zero =>
    intro L a w hI hf
    have hnil : Region.ready .any ops L = [] := by
      apply List.eq_nil_iff_forall_not_mem.2
      intro i hi
      obtain ⟨h0, o, ho, -⟩ := mem_ready.1 hi
      have hlt : i < L.size := by rw [hI.lsize]; exact lt_of_some ho
      have hm : L[i] ∈ L.toList.filter (! ·) := by
        rw [List.mem_filter]
        refine ⟨by simp, ?_⟩
        simp [hlt] at h0
        simp [h0]
      have : L.toList.filter (! ·) = [] := List.length_eq_zero_iff.1 (by omega)
      rw [this] at hm; cases hm
    exact ⟨hnil, fin L a w hI hnil⟩
  | succ fuel ih =>
    intro L a w hI hf
    refine ⟨fun hr => fin L a w hI hr, fun i hi => ?_⟩
    obtain ⟨h0, o, ho, hr⟩ := mem_ready.1 hi
    have hlt : i < L.size := by rw [hI.lsize]; exact lt_of_some ho
    have hun : L.getD i false = false := by simp [hlt] at h0 ⊢; exact h0
    obtain ⟨hst, hne, hrun⟩ := hgood i o ho
    have hdst : dstAt ops i = o.dst := by unfold dstAt; rw [ho]; rfl
    refine take_over ho (fun cs b => Region.noSelect_spec hS i o cs b ho) (fun t ht => hI.look hok ho hun hr ht) (fun d hd => by rw [frame_size]; exact okDst_lt hD (by rw [hdst]; exact hd))
      (hrun (valOf ops a) w hI.good fun p hp hn => ?_) (fun e w' hx => hX e a w' hI.defs hx) (fun v w' hg hv => ?_)
    · obtain ⟨hlt', hsp⟩ := mem_factsAt hp
      have hl : L.getD p.1 false = true := bef_listed hE hN hI.closed i (fun o' ho' => by rw [ho] at ho'; cases ho'; exact hr) (by unfold befB; rw [Bool.or_eq_true]; left; simpa using hn)
      have hlt2 : p.1 < ops.size := Nat.lt_trans hlt' (lt_of_some ho)
      have ho2 : ops[p.1]? = some ops[p.1] := Array.getElem?_eq_getElem hlt2
      cases hd : (ops[p.1]).dst with
      | none => exact absurd hd ((hgood p.1 _ ho2).2.1 _ hsp)
      | some d =>
        have hdst2 : dstAt ops p.1 = some d := by unfold dstAt; rw [ho2]; exact hd
        obtain ⟨v, hv, hh⟩ := hI.don p.1 d hl hdst2
        have : valOf ops a p.1 = v := by unfold valOf; rw [hdst2]; simp [hv]
        rw [this]
        rw [hsp] at hh
        exact hh
    · have hget : ∀ j, (L.setIfInBounds i true).getD j false = true ↔ (j = i ∨ L.getD j false = true) := fun j => by
        by_cases hji : i = j
        · subst hji; simp [hlt]
        · rw [getD_set_ne false hji]
          constructor
          · exact .inr
          · rintro (h | h)
            · exact absurd h.symm hji
            · exact h
      refine ih _ _ _ ⟨hG _ _ _ hI.good hg, by rw [put_defers']; exact hI.defs, by rw [put_size]; exact hI.size, by simp [hI.lsize], fun j d hj hd => ?_, fun t ht => ?_, fun j oj hj hoj e he hb => ?_⟩ ?_
      · by_cases hji : j = i
        · subst hji
          rw [hdst] at hd
          refine ⟨v, ?_, hv (by rw [hd]; simp)⟩
          rw [hd]
          exact put_get_at (by rw [hI.size]; exact okDst_lt hD (by rw [hdst]; exact hd))
        · have hj' := ((hget j).1 hj).resolve_left hji
          obtain ⟨u, hu, hh⟩ := hI.don j d hj' hd
          refine ⟨u, ?_, (hgood j _ (Array.getElem?_eq_getElem (lt_of_dst hd))).1 _ _ _ hh hg⟩
          rw [put_get (fun e => hji (okDst_ne hD hd (by rw [hdst]; exact e)))]
          exact hu
      · rw [put_get (fun e => ht i ((hget i).2 (.inl rfl)) (by rw [hdst]; exact e))]
        exact hI.out t fun j hj => ht j ((hget j).2 (.inr hj))
      · rw [hget]
        by_cases hji : j = i
        · subst hji
          rw [ho] at hoj; cases hoj
          exact .inr (hr e he hb)
        · exact .inr (hI.closed j oj (((hget j).1 hj).resolve_left hji) hoj e he hb)
      · have key : ∀ (l : List Bool) (i : Nat), l[i]? = some false → ((l.set i true).filter (! ·)).length + 1 = (l.filter (! ·)).length := by
          intro l
          induction l with
          | nil => intro i h; simp at h
          | cons b l ihl =>
            intro i h
            cases i with
            | zero => simp at h; subst h; simp
            | succ i =>
              have := ihl i (by simpa using h)
              cases b <;> simp at this ⊢ <;> omega
        have h1 : L.toList[i]? = some false := by
          rw [Array.getElem?_toList, Array.getElem?_eq_getElem hlt]
          simp [hlt] at hun
          simp [hun]
        have := key L.toList i h1
        rw [Array.toList_setIfInBounds]
        omega

theorem wp_region_v {id : Nat} {a : Act} {w : World} {l : List Oper} {Q' : Exit → Act → World → Prop} (need : List (Nat × Nat)) (G : World → World → Prop) (X : Exit → World → Prop) (hm : P.follows .mixedOrders = true) (hok : ok need l.toArray a.tmps.size = true)
    (hG : ∀ a b c : World, G a b → G b c → G a c) (h0 : G w w.drew)
    (hX : ∀ e a' w', a'.defers = a.defers → X e w' → Q' e a' w') (h : wpV P l.toArray need G X w (Q' .normal) l 0 [] (fun _ => a)) : (Code.region id l.toArray true).wp P Q' a w := by
  refine wp_region_any hm ?_
  obtain ⟨sp', -, h2, h3⟩ := gather (a0 := a) l 0 (fun _ => .det undef) (by simp) h
  refine any_order hok hG (fun j o ho => h2 j o (Nat.zero_le _) ho) hX (fun vs w' hw hf => ?_) _ _ _ _ ⟨h0, rfl, rfl, by simp, fun j d hj => ?_, fun _ _ => rfl, fun i o hi => ?_⟩ ?_
  · have := h3 vs w' hw (by simpa using hf)
    simpa using this
  · exfalso
    by_cases hlt : j < l.length <;> simp [hlt] at hj
  · exfalso
    by_cases hlt : i < l.length <;> simp [hlt] at hi
  · refine Nat.le_trans (List.length_filter_le _ _) ?_
    simp

/-! ### The last operation apart: it waits for all others -/

def lastB (l : List Oper) (ol : Oper) : Bool := (List.range l.length).all fun j => ol.after.any fun e => Region.binds .any e && e.on == j

theorem any_order_last {a0 : Act} {sp : Nat → Sp} {Q' : Exit → Act → World → Prop} {n : Nat} {ol : Oper} (hn : ops.size = n + 1) (hol : ops[n]? = some ol) (hlast : ∀ j, j < n → ∃ e ∈ ol.after, Region.binds .any e = true ∧ e.on = j)
    (hok : ok need ops a0.tmps.size = true) (hG : ∀ a b c : World, G a b → G b c → G a c) (hgood : ∀ j o, j < n → ops[j]? = some o → Good P ops need G X W a0 sp j o)
    (hX : ∀ e a' w', a'.defers = a0.defers → X e w' → Q' e a' w') (hend : ∀ vs w, G W w → (∀ p ∈ factsAt sp n, p.2 (vs p.1) w) → wpList P ops Q' [ol] (frameAt a0 ops sp vs n) w) :
    ∀ (fuel : Nat) (L : Array Bool) (a : Act) (w : World), Inv G W a0 ops sp L a w → L.getD n false = false → (L.toList.filter (! ·)).length ≤ fuel → wpAny P .any ops Q' fuel L a w := by
  have hok' := hok
  unfold ok at hok'
  simp only [Bool.and_eq_true] at hok'
  obtain ⟨⟨⟨⟨hD, hE⟩, hN⟩, hL⟩, hS⟩ := hok'
  have hall : ∀ (L : Array Bool), L.size = ops.size → Region.ready .any ops L = [] → ∀ i, i < ops.size → L.getD i false = true := by
    intro L hs hr i
    induction i using Nat.strongRecOn with
    | _ i ih =>
      intro hi
      cases hl : L.getD i false with
      | true => rfl
      | false =>
        exfalso
        have ho : ops[i]? = some ops[i] := Array.getElem?_eq_getElem hi
        have : i ∈ Region.ready .any ops L := mem_ready.2 ⟨by
          have hlt : i < L.size := by rw [hs]; exact hi
          simp [hlt] at hl ⊢; exact hl, ops[i], ho, fun e he hb => ih e.on (okEdges_lt hE ho he hb) (Nat.lt_trans (okEdges_lt hE ho he hb) hi)⟩
        rw [hr] at this; cases this
  have hfull : ∀ (L : Array Bool) (fuel : Nat) (a : Act) (w : World), L.size = ops.size → (∀ j, j < ops.size → L.getD j false = true) → Q' .normal a w → wpAny P .any ops Q' fuel L a w := by
    intro L fuel a w hs hl hq
    have hnil : Region.ready .any ops L = [] := by
      apply List.eq_nil_iff_forall_not_mem.2
      intro i hi
      obtain ⟨h0, o, ho, -⟩ := mem_ready.1 hi
      have h1 := hl i (lt_of_some ho)
      have hlt : i < L.size := by rw [hs]; exact lt_of_some ho
      simp [hlt] at h0 h1
      rw [h0] at h1; cases h1
    cases fuel with
    | zero => exact ⟨hnil, hq⟩
    | succ fuel => exact ⟨fun _ => hq, fun i hi => by rw [hnil] at hi; cases hi⟩
  intro fuel
  induction fuel with
  | zero =>
    intro L a w hI hln hf
    exfalso
    have hlt : n < L.size := by rw [hI.lsize, hn]; exact Nat.lt_succ_self n
    have hm : L[n] ∈ L.toList.filter (! ·) := by
      rw [List.mem_filter]
      refine ⟨by simp, ?_⟩
      simp [hlt] at hln
      simp [hln]
    have : L.toList.filter (! ·) = [] := List.length_eq_zero_iff.1 (by omega)
    rw [this] at hm; cases hm
  | succ fuel ih =>
    intro L a w hI hln hf
    refine ⟨fun hr => ?_, fun i hi => ?_⟩
    · have := hall L hI.lsize hr n (by omega)
      rw [this] at hln; cases hln
    obtain ⟨h0, o, ho, hr⟩ := mem_ready.1 hi
    have hlt : i < L.size := by rw [hI.lsize]; exact lt_of_some ho
    have hun : L.getD i false = false := by simp [hlt] at h0 ⊢; exact h0
    have hget : ∀ j, (L.setIfInBounds i true).getD j false = true ↔ (j = i ∨ L.getD j false = true) := fun j => by
      by_cases hji : i = j
      · subst hji; simp [hlt]
      · rw [getD_set_ne false hji]
        constructor
        · exact .inr
        · rintro (h | h)
          · exact absurd h.symm hji
          · exact h
    by_cases hin : i = n
    · subst hin
      rw [hol] at ho; cases ho
      have hl : ∀ j, j < i → L.getD j false = true := fun j hj => by
        obtain ⟨e, he, hb, rfl⟩ := hlast j hj
        exact hr e he hb
      have hfr : a = frameAt a0 ops sp (valOf ops a) i := by
        have h1 : a.tmps = (frameAt a0 ops sp (valOf ops a) i).tmps := by
          apply Array.ext_getElem?
          intro t
          by_cases hex : ∃ j, j < i ∧ dstAt ops j = some t
          · obtain ⟨j, hjn, hj⟩ := hex
            obtain ⟨v, hv, hh⟩ := hI.don j t (hl j hjn) hj
            rw [frame_get hD hj _ hjn, hv]
            have : valOf ops a j = v := by unfold valOf; rw [hj]; simp [hv]
            rw [this, Sp.val_of_holds hh]
          · rw [frame_out _ (fun j hj e => hex ⟨j, hj, e⟩)]
            refine hI.out t fun j hj e => ?_
            have hjs := lt_of_dst e
            have hjn : j ≠ i := fun h => by rw [h, hln] at hj; cases hj
            exact hex ⟨j, by omega, e⟩
        have h2 : a.defers = (frameAt a0 ops sp (valOf ops a) i).defers := by rw [frame_defers]; exact hI.defs
        cases a with
        | mk t d =>
          generalize frameAt a0 ops sp (valOf ops ⟨t, d⟩) i = F at *
          cases F
          simp only at h1 h2
          rw [h1, h2]
      have hE := hend (valOf ops a) w hI.good (fun p hp => by
        obtain ⟨hlt', hsp⟩ := mem_factsAt hp
        have ho2 : ops[p.1]? = some ops[p.1] := Array.getElem?_eq_getElem (by omega)
        have hne := (hgood p.1 _ hlt' ho2).2.1 _ hsp
        cases hd : (ops[p.1]).dst with
        | none => exact absurd hd hne
        | some d =>
          have hdst : dstAt ops p.1 = some d := by unfold dstAt; rw [ho2]; exact hd
          obtain ⟨v, hv, hh⟩ := hI.don p.1 d (hl _ hlt') hdst
          have : valOf ops a p.1 = v := by unfold valOf; rw [hdst]; simp [hv]
          rw [this]
          rw [hsp] at hh
          exact hh)
      rw [← hfr] at hE
      have hK : ∀ a' w', Q' .normal a' w' → wpAny P .any ops Q' fuel (L.setIfInBounds i true) a' w' := fun a' w' hq => by
        refine hfull _ fuel a' w' (by simp [hI.lsize]) (fun j hj => (hget j).2 ?_) hq
        by_cases hji : j = i
        · exact .inl hji
        · exact .inr (hl j (by omega))
      unfold wpOp
      simp only [hol]
      unfold wpList at hE
      split
      · rename_i hw
        rw [if_pos hw] at hE
        rcases hE with hE | hE
        · exact .inl (Oper.wp_mono hK hE)
        · exact .inr hE
      · rename_i hw
        rw [if_neg hw] at hE
        exact hK _ _ hE
    have hiN : i < n := by have := lt_of_some ho; omega
    obtain ⟨hst, hne, hrun⟩ := hgood i o hiN ho
    have hdst : dstAt ops i = o.dst := by unfold dstAt; rw [ho]; rfl
    refine take_over ho (fun cs b => Region.noSelect_spec hS i o cs b ho) (fun t ht => hI.look hok ho hun hr ht) (fun d hd => by rw [frame_size]; exact okDst_lt hD (by rw [hdst]; exact hd))
      (hrun (valOf ops a) w hI.good fun p hp hn => ?_) (fun e w' hx => hX e a w' hI.defs hx) (fun v w' hg hv => ?_)
    · obtain ⟨hlt', hsp⟩ := mem_factsAt hp
      have hl : L.getD p.1 false = true := bef_listed hE hN hI.closed i (fun o' ho' => by rw [ho] at ho'; cases ho'; exact hr) (by unfold befB; rw [Bool.or_eq_true]; left; simpa using hn)
      have hlt2 : p.1 < ops.size := Nat.lt_trans hlt' (lt_of_some ho)
      have ho2 : ops[p.1]? = some ops[p.1] := Array.getElem?_eq_getElem hlt2
      cases hd : (ops[p.1]).dst with
      | none => exact absurd hd ((hgood p.1 _ (by omega) ho2).2.1 _ hsp)
      | some d =>
        have hdst2 : dstAt ops p.1 = some d := by unfold dstAt; rw [ho2]; exact hd
        obtain ⟨v, hv, hh⟩ := hI.don p.1 d hl hdst2
        have : valOf ops a p.1 = v := by unfold valOf; rw [hdst2]; simp [hv]
        rw [this]
        rw [hsp] at hh
        exact hh
    · refine ih _ _ _ ⟨hG _ _ _ hI.good hg, by rw [put_defers']; exact hI.defs, by rw [put_size]; exact hI.size, by simp [hI.lsize], fun j d hj hd => ?_, fun t ht => ?_, fun j oj hj hoj e he hb => ?_⟩ ?_ ?_
      · by_cases hji : j = i
        · subst hji
          rw [hdst] at hd
          refine ⟨v, ?_, hv (by rw [hd]; simp)⟩
          rw [hd]
          exact put_get_at (by rw [hI.size]; exact okDst_lt hD (by rw [hdst]; exact hd))
        · have hj' := ((hget j).1 hj).resolve_left hji
          obtain ⟨u, hu, hh⟩ := hI.don j d hj' hd
          have hjn : j < n := by
            have := lt_of_dst hd
            have hne : j ≠ n := fun h => by rw [h, hln] at hj'; cases hj'
            omega
          refine ⟨u, ?_, (hgood j _ hjn (Array.getElem?_eq_getElem (lt_of_dst hd))).1 _ _ _ hh hg⟩
          rw [put_get (fun e => hji (okDst_ne hD hd (by rw [hdst]; exact e)))]
          exact hu
      · rw [put_get (fun e => ht i ((hget i).2 (.inl rfl)) (by rw [hdst]; exact e))]
        exact hI.out t fun j hj => ht j ((hget j).2 (.inr hj))
      · rw [hget]
        by_cases hji : j = i
        · subst hji
          rw [ho] at hoj; cases hoj
          exact .inr (hr e he hb)
        · exact .inr (hI.closed j oj (((hget j).1 hj).resolve_left hji) hoj e he hb)
      · cases hc : (L.setIfInBounds i true).getD n false with
        | false => rfl
        | true =>
          rcases (hget n).1 hc with h | h
          · exact absurd h.symm hin
          · rw [h] at hln; cases hln
      · have key : ∀ (l : List Bool) (i : Nat), l[i]? = some false → ((l.set i true).filter (! ·)).length + 1 = (l.filter (! ·)).length := by
          intro l
          induction l with
          | nil => intro i h; simp at h
          | cons b l ihl =>
            intro i h
            cases i with
            | zero => simp at h; subst h; simp
            | succ i =>
              have := ihl i (by simpa using h)
              cases b <;> simp at this ⊢ <;> omega
        have h1 : L.toList[i]? = some false := by
          rw [Array.getElem?_toList, Array.getElem?_eq_getElem hlt]
          simp [hlt] at hun
          simp [hun]
        have := key L.toList i h1
        rw [Array.toList_setIfInBounds]
        omega

/-- The walk of all but the last operation, then the last one. -/
theorem wp_region_last {id : Nat} {a : Act} {w : World} {lf : List Oper} {Q' : Exit → Act → World → Prop} (n : Nat) (l : List Oper) (ol : Oper) (hl : lf.take n = l) (hol : lf[n]? = some ol) (hln : lf.length = n + 1)
    (need : List (Nat × Nat)) (G : World → World → Prop) (X : Exit → World → Prop) (hm : P.follows .mixedOrders = true)
    (hok : ok need lf.toArray a.tmps.size = true) (hlast : lastB l ol = true)
    (hG : ∀ a b c : World, G a b → G b c → G a c) (h0 : G w w.drew)
    (hX : ∀ e a' w', a'.defers = a.defers → X e w' → Q' e a' w') (h : wpV P lf.toArray need G X w (fun a' w' => wpList P lf.toArray Q' [ol] a' w') l 0 [] (fun _ => a)) : (Code.region id lf.toArray true).wp P Q' a w := by
  refine wp_region_any hm ?_
  have hll : l.length = n := by rw [← hl, List.length_take]; omega
  have hget : ∀ j, l[j]? = if j < n then lf[j]? else none := fun j => by rw [← hl, List.getElem?_take]
  have hgath : ∃ sp' : Nat → Sp, (∀ j o, j < n → lf[j]? = some o → Good P lf.toArray need G X w a sp' j o) ∧
      ∀ vs w', G w w' → (∀ p ∈ factsAt sp' n, p.2 (vs p.1) w') → wpList P lf.toArray Q' [ol] (frameAt a lf.toArray sp' vs n) w' := by
    have gen : ∀ (r : List Oper) (k : Nat) (sp : Nat → Sp), (∀ j, r[j]? = if k + j < n then lf[k + j]? else none) → k + r.length = n →
        wpV P lf.toArray need G X w (fun a' w' => wpList P lf.toArray Q' [ol] a' w') r k (factsAt sp k) (fun vs => frameAt a lf.toArray sp vs k) →
        ∃ sp' : Nat → Sp, (∀ j, j < k → sp' j = sp j) ∧ (∀ j o, k ≤ j → j < n → lf[j]? = some o → Good P lf.toArray need G X w a sp' j o) ∧
          ∀ vs w', G w w' → (∀ p ∈ factsAt sp' n, p.2 (vs p.1) w') → wpList P lf.toArray Q' [ol] (frameAt a lf.toArray sp' vs n) w' := by
      intro r
      induction r with
      | nil =>
        intro k sp hr hk hv
        have hk : k = n := by simpa using hk
        subst hk
        exact ⟨sp, fun _ _ => rfl, fun j o h1 h2 => by omega, fun vs w' hw hf => hv vs w' hw hf⟩
      | cons o r ih =>
        intro k sp hr hk hv
        have hkn : k < n := by simp at hk; omega
        have h0 : lf[k]? = some o := by have := hr 0; rw [Nat.add_zero, if_pos hkn] at this; simpa using this.symm
        have h0' : lf.toArray[k]? = some o := by simpa using h0
        have hr' : ∀ j, r[j]? = if k + 1 + j < n then lf[k + 1 + j]? else none := fun j => by have := hr (j + 1); simpa [Nat.add_assoc, Nat.add_comm 1 j] using this
        have hd : dstAt lf.toArray k = o.dst := by unfold dstAt; rw [h0']; rfl
        have key : ∀ (s : Sp), (∀ v w w', s.holds v w → G w w' → s.holds v w') → (∀ R, s = .rel R → o.dst ≠ none) →
            (∀ vs w1, G w w1 → Facts need k (factsAt sp k) vs w1 → wpList P lf.toArray (Post G X w1 (frameAt a lf.toArray sp vs k) o.dst s.holds) [o] (frameAt a lf.toArray sp vs k) w1) →
            wpV P lf.toArray need G X w (fun a' w' => wpList P lf.toArray Q' [ol] a' w') r (k + 1) (factsAt (fun j => if j = k then s else sp j) (k + 1)) (fun vs => frameAt a lf.toArray (fun j => if j = k then s else sp j) vs (k + 1)) →
            ∃ sp' : Nat → Sp, (∀ j, j < k → sp' j = sp j) ∧ (∀ j o, k ≤ j → j < n → lf[j]? = some o → Good P lf.toArray need G X w a sp' j o) ∧
              ∀ vs w', G w w' → (∀ p ∈ factsAt sp' n, p.2 (vs p.1) w') → wpList P lf.toArray Q' [ol] (frameAt a lf.toArray sp' vs n) w' := by
          intro s hst hne hrun hrest
          obtain ⟨sp', h1, h2, h3⟩ := ih (k + 1) _ hr' (by simp at hk; omega) hrest
          have hlow : ∀ j, j < k → sp' j = sp j := fun j hj => by rw [h1 j (by omega), if_neg (by omega)]
          have hks : sp' k = s := by rw [h1 k (by omega), if_pos rfl]
          refine ⟨sp', hlow, fun j oj hj hjn ho => ?_, h3⟩
          by_cases hjk : j = k
          · subst hjk
            rw [h0] at ho; cases ho
            refine ⟨by rw [hks]; exact hst, by rw [hks]; exact hne, fun vs w1 hw hf => ?_⟩
            rw [hks, frameAt_congr j hlow]
            rw [factsAt_congr j hlow] at hf
            exact hrun vs w1 hw hf
          · exact h2 j oj (by omega) hjn ho
        have hfr : ∀ (s : Sp) vs, frameAt a lf.toArray (fun j => if j = k then s else sp j) vs (k + 1) = (frameAt a lf.toArray sp vs k).put o.dst (s.val (vs k)) := fun s vs => by
          show (frameAt a lf.toArray (fun j => if j = k then s else sp j) vs k).put (dstAt lf.toArray k) (Sp.val (if k = k then s else sp k) (vs k)) = _
          rw [if_pos rfl, hd, frameAt_congr k (fun j hj => if_neg (by omega))]
        have hfc : ∀ (s : Sp), factsAt (fun j => if j = k then s else sp j) (k + 1) = match s with | .det _ => factsAt sp k | .rel R => (k, R) :: factsAt sp k := fun s => by
          show (match (if k = k then s else sp k) with | .det _ => factsAt (fun j => if j = k then s else sp j) k | .rel R => (k, R) :: factsAt (fun j => if j = k then s else sp j) k) = _
          rw [if_pos rfl, factsAt_congr k (fun j hj => if_neg (by omega))]
        rcases hv with ⟨v, hrun, hrest⟩ | ⟨R, hne, hst, hrun, hrest⟩
        · refine key (.det v) (fun u w w' hu _ => hu) (fun R h => by cases h) hrun ?_
          rw [hfc, funext (hfr (.det v))]; exact hrest
        · refine key (.rel R) hst (fun _ _ => hne) hrun ?_
          rw [hfc, funext (hfr (.rel R))]; exact hrest
    obtain ⟨sp', -, h2, h3⟩ := gen l 0 (fun _ => .det undef) (fun j => by rw [hget, Nat.zero_add]) (by omega) h
    exact ⟨sp', fun j o hj ho => h2 j o (Nat.zero_le _) hj ho, h3⟩
  obtain ⟨sp', h2, h3⟩ := hgath
  refine any_order_last (n := n) (ol := ol) (by simpa using hln) (by simpa using hol) (fun j hj => ?_) hok hG (fun j o hj ho => h2 j o hj (by simpa using ho)) hX h3 _ _ _ _ ⟨h0, rfl, rfl, by simp, fun j d hj => ?_, fun _ _ => rfl, fun i o hi => ?_⟩ ?_ ?_
  · have h1 := List.all_eq_true.1 hlast j (List.mem_range.2 (by omega))
    obtain ⟨e, he, hb⟩ := Array.any_eq_true'.1 h1
    simp only [Bool.and_eq_true, beq_iff_eq] at hb
    exact ⟨e, he, hb.1, hb.2⟩
  · exfalso
    by_cases hlt : j < lf.length <;> simp [hlt] at hj
  · exfalso
    by_cases hlt : i < lf.length <;> simp [hlt] at hi
  · by_cases hlt : n < lf.length <;> simp [hlt]
  · refine Nat.le_trans (List.length_filter_le _ _) ?_
    simp

/-! ### The moves -/

theorem step_det {o : Oper} {rest : List Oper} {k : Nat} {fs : List Fact} {A : (Nat → Value) → Act}
    (h : ∃ v, (∀ vs w, G W w → Facts need k fs vs w → wpList P ops (Post G X w (A vs) o.dst (fun u _ => u = v)) [o] (A vs) w) ∧
      ∀ A' : (Nat → Value) → Act, (∀ vs, A' vs = (A vs).put o.dst v) → wpV P ops need G X W Q rest (k + 1) fs A') : wpV P ops need G X W Q (o :: rest) k fs A := by
  obtain ⟨v, h1, h2⟩ := h
  exact .inl ⟨v, h1, h2 _ fun _ => rfl⟩

theorem step_rel {o : Oper} {rest : List Oper} {k : Nat} {fs : List Fact} {A : (Nat → Value) → Act} (R : Value → World → Prop) (hne : o.dst ≠ none) (hst : ∀ v w w', R v w → G w w' → R v w')
    (h1 : ∀ vs w, G W w → Facts need k fs vs w → wpList P ops (Post G X w (A vs) o.dst R) [o] (A vs) w)
    (h2 : ∀ A' : (Nat → Value) → Act, (∀ vs, A' vs = (A vs).put o.dst (vs k)) → wpV P ops need G X W Q rest (k + 1) ((k, R) :: fs) A') : wpV P ops need G X W Q (o :: rest) k fs A :=
  .inr ⟨R, hne, hst, h1, h2 _ fun _ => rfl⟩

theorem post_done {w w' : World} {A a : Act} {dst : Option Tmp} {v : Value} (hd : a.defers = A.defers) (hg : G w w') (hv : ∀ d, dst = some d → a.tmps.getD d undef = v) : Post G X w A dst (fun u _ => u = v) .normal a w' := .inl ⟨rfl, hd, hg, hv⟩
theorem post_rel {w w' : World} {A a : Act} {dst : Option Tmp} {R : Value → World → Prop} (hd : a.defers = A.defers) (hg : G w w') (hv : ∀ d, dst = some d → R (a.tmps.getD d undef) w') : Post G X w A dst R .normal a w' := .inl ⟨rfl, hd, hg, hv⟩
theorem post_at {w w' : World} {A a : Act} {d : Tmp} {v : Value} (hd : a.defers = A.defers) (hg : G w w') (hv : a.tmps.getD d undef = v) : Post G X w A (some d) (fun u _ => u = v) .normal a w' :=
  .inl ⟨rfl, hd, hg, fun e he => by cases he; exact hv⟩
theorem post_rel_at {w w' : World} {A a : Act} {d : Tmp} {R : Value → World → Prop} (u : Value) (hd : a.defers = A.defers) (hg : G w w') (hu : a.tmps.getD d undef = u) (hv : R u w') : Post G X w A (some d) R .normal a w' :=
  .inl ⟨rfl, hd, hg, fun e he => by cases he; rw [hu]; exact hv⟩

theorem post_pan {w w' : World} {A a : Act} {dst : Option Tmp} {R : Value → World → Prop} (c : _) (h : X (.panic c) w') : Post G X w A dst R (.panic c) a w' := .inr ⟨⟨c, rfl⟩, h⟩

end
end RegP
end Go.Proofs.YtcfbcffmlinlaaaDoor

namespace Go.Proofs.YtcfbcffmlinlaaaDoor
open Go.RowKit

theorem own_ne {w : World} {B : Nat} {E E' : TypeId} {size n : Nat} {v : Value} {xs : List Value} (h : w.ownsRow B E size v n xs) {k : Nat} {cs : Array Value} {f : Nat × Nat} (hk : w.heap[k]? = some (.cells cs E' f)) (hE : E ≠ E') : v.ownBlock ≠ some k := by
  rcases h.2 with ⟨rfl, rfl⟩ | ⟨g, cap, cur, rfl, hg, hh, r⟩
  · intro he; cases he
  · intro he
    have : g = k := by simpa [Value.ownBlock] using he
    subst this
    rw [hh] at hk
    simp at hk
    exact hE hk.2.1
theorem own_ne2 {w : World} {B B' : Nat} {E E' : TypeId} {size size' n n' : Nat} {v v' : Value} {xs xs' : List Value} (h : w.ownsRow B E size v n xs) (h' : w.ownsRow B' E' size' v' n' xs') (hE : E ≠ E') : ∀ k, v'.ownBlock = some k → v.ownBlock ≠ some k := by
  intro k hk
  rcases h'.2 with ⟨rfl, rfl⟩ | ⟨g, cap, cur, rfl, hg, hh, r⟩
  · cases hk
  · have : g = k := by simpa [Value.ownBlock] using hk
    subst this
    exact own_ne h hh hE
theorem own_grown {w w' : World} {B B' : Nat} {E E' : TypeId} {size size' n n' : Nat} {v v' : Value} {xs xs' : List Value} (h : w.ownsRow B E size v n xs) (h' : w.ownsRow B' E' size' v' n' xs') (hE : E' ≠ E) (hg : w.grownBy w' v'.ownBlock) : w'.ownsRow B E size v n xs :=
  own_below (B' := B) h (fun k hk => hg.block k (h.lt k hk).2 (fun he => own_ne2 h' h hE k hk he.symm))

/-- plan's reader: how far it has come, and in which line. -/
structure PRd (w : World) (B R : Nat) (r : Pl.St) (line : Int) (sa ca pa : Value) : Prop where
  here : Blk w R #[.int .i64 r.s.n, sa, ca, pa, .int .i64 line, .int .i64 r.part, .bool r.last] 65
  specs : w.ownsRow B 59 3 sa r.s.specs.length (r.s.specs.flatMap spcCells)
  calls : w.ownsRow B 49 6 ca r.s.calls.length (r.s.calls.flatMap cllCells)
  picks : w.ownsRow B 3 1 pa r.s.picks.length (r.s.picks.map (Value.int .i64))
def IsRd (w : World) (B R : Nat) (r : Pl.St) (line : Int) : Prop := ∃ sa ca pa, PRd w B R r line sa ca pa

theorem PRd.ext {w w' : World} {B R : Nat} {r : Pl.St} {line : Int} {sa ca pa : Value} (h : PRd w B R r line sa ca pa) (he : Ext w w') : PRd w' B R r line sa ca pa :=
  ⟨h.here.ext he, own_ext h.specs he, own_ext h.calls he, own_ext h.picks he⟩
theorem IsRd.ext {w w' : World} {B R : Nat} {r : Pl.St} {line : Int} (h : IsRd w B R r line) (he : Ext w w') : IsRd w' B R r line := by
  obtain ⟨sa, ca, pa, h⟩ := h
  exact ⟨sa, ca, pa, h.ext he⟩

/-- Behind an append to one of its rows, and a store of what came of it. -/
theorem PRd.app_specs {w w' : World} {B R : Nat} {r : Pl.St} {line : Int} {sa ca pa sa' : Value} (h : PRd w B R r line sa ca pa) (x : Spc) (hg : w.grownBy w' sa.ownBlock)
    (ho : w'.ownsRow B 59 3 sa' (r.s.specs.length + 1) (r.s.specs.flatMap spcCells ++ spcCells x)) :
    Blk w' R #[.int .i64 r.s.n, sa, ca, pa, .int .i64 line, .int .i64 r.part, .bool r.last] 65 ∧
    PRd (w'.setCell ⟨R, 1, none⟩ sa') B R ⟨⟨r.s.n, r.s.specs ++ [x], r.s.calls, r.s.picks⟩, r.part, r.last⟩ line sa' ca pa := by
  have h1 := h.here.grown hg (own_ne h.specs h.here (by decide))
  refine ⟨h1, h1.set 1 _, ?_, ?_, ?_⟩
  · have := own_set_ne ho (own_ne ho h1 (by decide)) (i := 1) sa'
    rw [List.flatMap_append, List.length_append]
    simpa using this
  · have h2 := own_grown h.calls h.specs (by decide) hg
    exact own_set_ne h2 (own_ne h2 h1 (by decide)) _
  · have h2 := own_grown h.picks h.specs (by decide) hg
    exact own_set_ne h2 (own_ne h2 h1 (by decide)) _
theorem PRd.app_calls {w w' : World} {B R : Nat} {r : Pl.St} {line : Int} {sa ca pa ca' : Value} (h : PRd w B R r line sa ca pa) (x : Cll) (hg : w.grownBy w' ca.ownBlock)
    (ho : w'.ownsRow B 49 6 ca' (r.s.calls.length + 1) (r.s.calls.flatMap cllCells ++ cllCells x)) :
    Blk w' R #[.int .i64 r.s.n, sa, ca, pa, .int .i64 line, .int .i64 r.part, .bool r.last] 65 ∧
    PRd (w'.setCell ⟨R, 2, none⟩ ca') B R ⟨⟨r.s.n, r.s.specs, r.s.calls ++ [x], r.s.picks⟩, r.part, r.last⟩ line sa ca' pa := by
  have h1 := h.here.grown hg (own_ne h.calls h.here (by decide))
  refine ⟨h1, h1.set 2 _, ?_, ?_, ?_⟩
  · have h2 := own_grown h.specs h.calls (by decide) hg
    exact own_set_ne h2 (own_ne h2 h1 (by decide)) _
  · have := own_set_ne ho (own_ne ho h1 (by decide)) (i := 2) ca'
    rw [List.flatMap_append, List.length_append]
    simpa using this
  · have h2 := own_grown h.picks h.calls (by decide) hg
    exact own_set_ne h2 (own_ne h2 h1 (by decide)) _
theorem PRd.app_picks {w w' : World} {B R : Nat} {r : Pl.St} {line : Int} {sa ca pa pa' : Value} (h : PRd w B R r line sa ca pa) (l : List Int) (hg : w.grownBy w' pa.ownBlock)
    (ho : w'.ownsRow B 3 1 pa' (r.s.picks.length + l.length) (r.s.picks.map (Value.int .i64) ++ l.map (Value.int .i64))) :
    Blk w' R #[.int .i64 r.s.n, sa, ca, pa, .int .i64 line, .int .i64 r.part, .bool r.last] 65 ∧
    PRd (w'.setCell ⟨R, 3, none⟩ pa') B R ⟨⟨r.s.n, r.s.specs, r.s.calls, r.s.picks ++ l⟩, r.part, r.last⟩ line sa ca pa' := by
  have h1 := h.here.grown hg (own_ne h.picks h.here (by decide))
  refine ⟨h1, h1.set 3 _, ?_, ?_, ?_⟩
  · have h2 := own_grown h.specs h.picks (by decide) hg
    exact own_set_ne h2 (own_ne h2 h1 (by decide)) _
  · have h2 := own_grown h.calls h.picks (by decide) hg
    exact own_set_ne h2 (own_ne h2 h1 (by decide)) _
  · have := own_set_ne ho (own_ne ho h1 (by decide)) (i := 3) pa'
    rw [List.map_append, List.length_append]
    exact this
theorem PRd.set_n {w : World} {B R : Nat} {r : Pl.St} {line : Int} {sa ca pa : Value} (h : PRd w B R r line sa ca pa) (x : Int) : PRd (w.setCell ⟨R, 0, none⟩ (.int .i64 x)) B R ⟨⟨x, r.s.specs, r.s.calls, r.s.picks⟩, r.part, r.last⟩ line sa ca pa :=
  ⟨h.here.set 0 _, own_set_ne h.specs (own_ne h.specs h.here (by decide)) _, own_set_ne h.calls (own_ne h.calls h.here (by decide)) _, own_set_ne h.picks (own_ne h.picks h.here (by decide)) _⟩
theorem PRd.set_line {w : World} {B R : Nat} {r : Pl.St} {line : Int} {sa ca pa : Value} (h : PRd w B R r line sa ca pa) (x : Int) : PRd (w.setCell ⟨R, 4, none⟩ (.int .i64 x)) B R r x sa ca pa :=
  ⟨h.here.set 4 _, own_set_ne h.specs (own_ne h.specs h.here (by decide)) _, own_set_ne h.calls (own_ne h.calls h.here (by decide)) _, own_set_ne h.picks (own_ne h.picks h.here (by decide)) _⟩
theorem PRd.set_part {w : World} {B R : Nat} {r : Pl.St} {line : Int} {sa ca pa : Value} (h : PRd w B R r line sa ca pa) (x : Int) : PRd (w.setCell ⟨R, 5, none⟩ (.int .i64 x)) B R ⟨r.s, x, r.last⟩ line sa ca pa :=
  ⟨h.here.set 5 _, own_set_ne h.specs (own_ne h.specs h.here (by decide)) _, own_set_ne h.calls (own_ne h.calls h.here (by decide)) _, own_set_ne h.picks (own_ne h.picks h.here (by decide)) _⟩
theorem PRd.set_last {w : World} {B R : Nat} {r : Pl.St} {line : Int} {sa ca pa : Value} (h : PRd w B R r line sa ca pa) (x : Bool) : PRd (w.setCell ⟨R, 6, none⟩ (.bool x)) B R ⟨r.s, r.part, x⟩ line sa ca pa :=
  ⟨h.here.set 6 _, own_set_ne h.specs (own_ne h.specs h.here (by decide)) _, own_set_ne h.calls (own_ne h.calls h.here (by decide)) _, own_set_ne h.picks (own_ne h.picks h.here (by decide)) _⟩

/-- All blocks below B are as they were, but for R. -/
def BB (B R : Nat) (w w' : World) : Prop := w'.os = w.os ∧ w'.tape = w.tape ∧ w'.output = w.output ∧ w.heap.size ≤ w'.heap.size ∧ ∀ k, k < B → k ≠ R → w'.heap[k]? = w.heap[k]?
theorem BB.of {B R : Nat} {w w' : World} (h : Below B w w') : BB B R w w' := ⟨h.os, h.tape, h.output, h.size, fun k hk _ => h.block k hk⟩
theorem BB.ext {B R : Nat} {w w' : World} (h : Ext w w') (hB : B ≤ w.heap.size) : BB B R w w' := .of (h.mono hB)
theorem BB.trans {B R : Nat} {a b c : World} (h : BB B R a b) (k : BB B R b c) : BB B R a c :=
  ⟨k.1.trans h.1, k.2.1.trans h.2.1, k.2.2.1.trans h.2.2.1, Nat.le_trans h.2.2.2.1 k.2.2.2.1, fun i hi hne => (k.2.2.2.2 i hi hne).trans (h.2.2.2.2 i hi hne)⟩
theorem BB.set {B R i : Nat} (w : World) (v : Value) : BB B R w (w.setCell ⟨R, i, none⟩ v) :=
  ⟨rfl, rfl, rfl, by simp, fun k _ hne => heap_setCell_other w _ k v hne⟩

/-- What a line leaves: it gives up, or the reader has come on. -/
def TakePost (w : World) (B R : Nat) (line : Int) (x : Int × Pl.St) (e : Ending) (w' : World) : Prop :=
  BB B R w w' ∧ IsRd w' B R x.2 line ∧ ((x.1 = 0 ∧ e = .returned (.tuple #[])) ∨ (x.1 ≠ 0 ∧ Gave x.1 e))

/-- What of it is bounded. -/
structure Rok (r : Pl.St) : Prop where
  n : 0 < r.part → 1 ≤ r.s.n ∧ r.s.n ≤ 16
  part : 0 ≤ r.part ∧ r.part ≤ 3
  specs : r.s.specs.length ≤ 8
  calls : r.s.calls.length ≤ 1000
  picks : r.s.picks.length ≤ 65536

end Go.Proofs.YtcfbcffmlinlaaaDoor
