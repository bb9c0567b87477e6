/-
  A region that draws its order, walked once: each operation is shown alone, in whatever world has come of the region's first one, from what the operations that it waits for have left; then any order serves. A value that is not known beforehand (a slice that a call has made) is told by what holds of it.
-/
import Derived.Orders
import Derived.Tactics2
import Derived.Deep.DeepCutAuto
set_option linter.unusedVariables false
namespace Go.Proofs.YtcfbcffmlinlaaaDoor
namespace Reg

section
variable {P : Program} {ops : Array Oper} {need : List (Nat × Nat)} {G : World → World → Prop} {W : World} {Q : Act → World → Prop}

/-- What an operation alone must leave: its value is so, the world has gone on. -/
def Post (G : World → World → Prop) (w : World) (A : Act) (dst : Option Tmp) (R : Value → World → Prop) (e : Exit) (a : Act) (w' : World) : Prop :=
  e = .normal ∧ a.defers = A.defers ∧ G w w' ∧ ∀ d, dst = some d → R (a.tmps.getD d undef) w'

theorem Post.no_out {w : World} {A : Act} {dst : Option Tmp} {R : Value → World → Prop} : ¬ LetsOut (Post G w A dst R) := by
  rintro ⟨a, w', h, -⟩; cases h

abbrev Fact := Nat × (Value → World → Prop)
def Facts (need : List (Nat × Nat)) (k : Nat) (fs : List Fact) (vs : Nat → Value) (w : World) : Prop := ∀ p ∈ fs, (k, p.1) ∈ need → p.2 (vs p.1) w

/-- The walk in the text's order. -/
def wpV (P : Program) (ops : Array Oper) (need : List (Nat × Nat)) (G : World → World → Prop) (W : World) (Q : Act → World → Prop) : List Oper → Nat → List Fact → ((Nat → Value) → Act) → Prop
  | [], _, fs, A => ∀ vs w, G W w → (∀ p ∈ fs, p.2 (vs p.1) w) → Q (A vs) w
  | o :: rest, k, fs, A =>
    (∃ v, (∀ vs w, G W w → Facts need k fs vs w → wpList P ops (Post G w (A vs) o.dst (fun u _ => u = v)) [o] (A vs) w) ∧ wpV P ops need G W Q rest (k + 1) fs (fun vs => (A vs).put o.dst v)) ∨
    (∃ R : Value → World → Prop, o.dst ≠ none ∧ (∀ v w w', R v w → G w w' → R v w') ∧ (∀ vs w, G W w → Facts need k fs vs w → wpList P ops (Post G w (A vs) o.dst R) [o] (A vs) w) ∧
      wpV P ops need G W Q rest (k + 1) ((k, R) :: fs) (fun vs => (A vs).put o.dst (vs k)))

/-- What is known of an operation's value. -/
inductive Sp where
  | det (v : Value)
  | rel (R : Value → World → Prop)
def Sp.holds : Sp → Value → World → Prop
  | .det v, u, _ => u = v
  | .rel R, u, w => R u w
def Sp.val : Sp → Value → Value
  | .det v, _ => v
  | .rel _, u => u
theorem Sp.val_of_holds {s : Sp} {u : Value} {w : World} (h : s.holds u w) : s.val u = u := by
  cases s with
  | det v => exact h.symm
  | rel R => rfl

def dstAt (ops : Array Oper) (i : Nat) : Option Tmp := (ops[i]?).bind (·.dst)

def frameAt (a0 : Act) (ops : Array Oper) (sp : Nat → Sp) (vs : Nat → Value) : Nat → Act
  | 0 => a0
  | k + 1 => (frameAt a0 ops sp vs k).put (dstAt ops k) ((sp k).val (vs k))

def factsAt (sp : Nat → Sp) : Nat → List Fact
  | 0 => []
  | k + 1 => match sp k with
    | .det _ => factsAt sp k
    | .rel R => (k, R) :: factsAt sp k

theorem mem_factsAt {sp : Nat → Sp} {n : Nat} {p : Fact} (h : p ∈ factsAt sp n) : p.1 < n ∧ sp p.1 = .rel p.2 := by
  induction n with
  | zero => cases h
  | succ n ih =>
    unfold factsAt at h
    cases hs : sp n with
    | det v => rw [hs] at h; have := ih h; exact ⟨by omega, this.2⟩
    | rel R =>
      rw [hs] at h
      rcases List.mem_cons.1 h with rfl | h
      · exact ⟨Nat.lt_succ_self _, hs⟩
      · have := ih h; exact ⟨by omega, this.2⟩

def Good (P : Program) (ops : Array Oper) (need : List (Nat × Nat)) (G : World → World → Prop) (W : World) (a0 : Act) (sp : Nat → Sp) (k : Nat) (o : Oper) : Prop :=
  (∀ v w w', (sp k).holds v w → G w w' → (sp k).holds v w') ∧ (∀ R, sp k = .rel R → o.dst ≠ none) ∧
  ∀ vs w, G W w → Facts need k (factsAt sp k) vs w → wpList P ops (Post G w (frameAt a0 ops sp vs k) o.dst (sp k).holds) [o] (frameAt a0 ops sp vs k) w

theorem frameAt_congr {a0 : Act} {sp sp' : Nat → Sp} {vs : Nat → Value} : ∀ k, (∀ j, j < k → sp j = sp' j) → frameAt a0 ops sp vs k = frameAt a0 ops sp' vs k
  | 0, _ => rfl
  | k + 1, h => by unfold frameAt; rw [frameAt_congr k (fun j hj => h j (by omega)), h k (by omega)]
theorem factsAt_congr {sp sp' : Nat → Sp} : ∀ k, (∀ j, j < k → sp j = sp' j) → factsAt sp k = factsAt sp' k
  | 0, _ => rfl
  | k + 1, h => by unfold factsAt; rw [factsAt_congr k (fun j hj => h j (by omega)), h k (by omega)]

/-- The walk's words, gathered: one for each operation. -/
theorem gather {a0 : Act} : ∀ (l : List Oper) (k : Nat) (sp : Nat → Sp), (∀ j, l[j]? = ops[k + j]?) →
    wpV P ops need G W Q l k (factsAt sp k) (fun vs => frameAt a0 ops sp vs k) →
    ∃ sp' : Nat → Sp, (∀ j, j < k → sp' j = sp j) ∧ (∀ j o, k ≤ j → ops[j]? = some o → Good P ops need G W a0 sp' j o) ∧
      ∀ vs w, G W w → (∀ p ∈ factsAt sp' (k + l.length), p.2 (vs p.1) w) → Q (frameAt a0 ops sp' vs (k + l.length)) w
  | [], k, sp, hl, h => by
    refine ⟨sp, fun _ _ => rfl, fun j o hj ho => ?_, fun vs w hw hf => h vs w hw hf⟩
    have := hl (j - k)
    rw [Nat.add_sub_cancel' hj, ho] at this
    simp at this
  | o :: l, k, sp, hl, h => by
    have h0 : ops[k]? = some o := by simpa using (hl 0).symm
    have hl' : ∀ j, l[j]? = ops[k + 1 + j]? := fun j => by have := hl (j + 1); simpa [Nat.add_assoc, Nat.add_comm 1 j] using this
    have hd : dstAt ops k = o.dst := by unfold dstAt; rw [h0]; rfl
    have key : ∀ (s : Sp), (∀ v w w', s.holds v w → G w w' → s.holds v w') → (∀ R, s = .rel R → o.dst ≠ none) →
        (∀ vs w, G W w → Facts need k (factsAt sp k) vs w → wpList P ops (Post G w (frameAt a0 ops sp vs k) o.dst s.holds) [o] (frameAt a0 ops sp vs k) w) →
        wpV P ops need G W Q l (k + 1) (factsAt (fun j => if j = k then s else sp j) (k + 1)) (fun vs => frameAt a0 ops (fun j => if j = k then s else sp j) vs (k + 1)) →
        ∃ sp' : Nat → Sp, (∀ j, j < k → sp' j = sp j) ∧ (∀ j o, k ≤ j → ops[j]? = some o → Good P ops need G W a0 sp' j o) ∧
          ∀ vs w, G W w → (∀ p ∈ factsAt sp' (k + (o :: l).length), p.2 (vs p.1) w) → Q (frameAt a0 ops sp' vs (k + (o :: l).length)) w := by
      intro s hst hne hrun hrest
      obtain ⟨sp', h1, h2, h3⟩ := gather l (k + 1) _ hl' hrest
      have hlow : ∀ j, j < k → sp' j = sp j := fun j hj => by rw [h1 j (by omega), if_neg (by omega)]
      have hk : sp' k = s := by rw [h1 k (by omega), if_pos rfl]
      refine ⟨sp', hlow, fun j oj hj ho => ?_, fun vs w hw hf => ?_⟩
      · by_cases hjk : j = k
        · subst hjk
          rw [h0] at ho; cases ho
          refine ⟨by rw [hk]; exact hst, by rw [hk]; exact hne, fun vs w hw hf => ?_⟩
          rw [hk, frameAt_congr j hlow]
          rw [factsAt_congr j hlow] at hf
          exact hrun vs w hw hf
        · exact h2 j oj (by omega) ho
      · have e : k + (o :: l).length = k + 1 + l.length := by simp; omega
        rw [e] at hf ⊢
        exact h3 vs w hw hf
    have hfr : ∀ (s : Sp) vs, frameAt a0 ops (fun j => if j = k then s else sp j) vs (k + 1) = (frameAt a0 ops sp vs k).put o.dst (s.val (vs k)) := fun s vs => by
      show (frameAt a0 ops (fun j => if j = k then s else sp j) vs k).put (dstAt ops k) (Sp.val (if k = k then s else sp k) (vs k)) = _
      rw [if_pos rfl, hd, frameAt_congr k (fun j hj => if_neg (by omega))]
    have hfc : ∀ (s : Sp), factsAt (fun j => if j = k then s else sp j) (k + 1) = match s with | .det _ => factsAt sp k | .rel R => (k, R) :: factsAt sp k := fun s => by
      show (match (if k = k then s else sp k) with | .det _ => factsAt (fun j => if j = k then s else sp j) k | .rel R => (k, R) :: factsAt (fun j => if j = k then s else sp j) k) = _
      rw [if_pos rfl, factsAt_congr k (fun j hj => if_neg (by omega))]
    rcases h with ⟨v, hrun, hrest⟩ | ⟨R, hne, hst, hrun, hrest⟩
    · refine key (.det v) (fun u w w' hu _ => hu) (fun R h => by cases h) hrun ?_
      rw [hfc, funext (hfr (.det v))]; exact hrest
    · refine key (.rel R) hst (fun _ _ => hne) hrun ?_
      rw [hfc, funext (hfr (.rel R))]; exact hrest

/-! ### The checks -/

def befB (need : List (Nat × Nat)) (ops : Array Oper) (i j : Nat) : Bool :=
  need.contains (i, j) || ((ops[i]?).map fun o => o.after.any fun e => Region.binds .any e && e.on == j).getD false
def okDst (ops : Array Oper) (size : Nat) : Bool :=
  (List.range ops.size).all fun i => match dstAt ops i with
    | none => true
    | some d => decide (d < size) && (List.range i).all fun j => dstAt ops j != some d
def okEdges (ops : Array Oper) : Bool :=
  (List.range ops.size).all fun i => ((ops[i]?).map fun o => o.after.all fun e => !Region.binds .any e || decide (e.on < i)).getD true
def okNeed (need : List (Nat × Nat)) (ops : Array Oper) : Bool :=
  need.all fun p => ((ops[p.1]?).map fun o => o.after.any fun e => Region.binds .any e && (e.on == p.2 || need.contains (e.on, p.2))).getD false
def okLooks (need : List (Nat × Nat)) (ops : Array Oper) : Bool :=
  (List.range ops.size).all fun i => ((ops[i]?).map fun o => (o.looksAt ops).all fun t => (List.range ops.size).all fun j =>
    dstAt ops j != some t || (decide (j < i) && befB need ops i j) || (decide (i < j) && befB need ops j i)).getD true
def ok (need : List (Nat × Nat)) (ops : Array Oper) (size : Nat) : Bool :=
  okDst ops size && okEdges ops && okNeed need ops && okLooks need ops && Region.noSelect ops

theorem lt_of_some {i : Nat} {o : Oper} (h : ops[i]? = some o) : i < ops.size := (Array.getElem?_eq_some_iff.1 h).1
theorem lt_of_dst {i : Nat} {d : Tmp} (h : dstAt ops i = some d) : i < ops.size := by
  unfold dstAt at h
  cases ho : ops[i]? with
  | none => rw [ho] at h; cases h
  | some o => exact lt_of_some ho

theorem okDst_lt {size i : Nat} {d : Tmp} (h : okDst ops size = true) (hi : dstAt ops i = some d) : d < size := by
  have := List.all_eq_true.1 h i (List.mem_range.2 (lt_of_dst hi))
  rw [hi] at this
  simp only [Bool.and_eq_true, decide_eq_true_eq] at this
  exact this.1
theorem okDst_ne {size i j : Nat} {d : Tmp} (h : okDst ops size = true) (hi : dstAt ops i = some d) (hj : dstAt ops j = some d) : i = j := by
  have key : ∀ i j, j < i → dstAt ops i = some d → dstAt ops j = some d → False := fun i j hji hi hj => by
    have := List.all_eq_true.1 h i (List.mem_range.2 (lt_of_dst hi))
    rw [hi] at this
    simp only [Bool.and_eq_true] at this
    have := List.all_eq_true.1 this.2 j (List.mem_range.2 hji)
    rw [hj] at this
    simp at this
  rcases Nat.lt_trichotomy i j with hlt | rfl | hlt
  · exact (key j i hlt hj hi).elim
  · rfl
  · exact (key i j hlt hi hj).elim
theorem okEdges_lt {i : Nat} {o : Oper} (h : okEdges ops = true) (ho : ops[i]? = some o) {e : Edge} (he : e ∈ o.after) (hb : Region.binds .any e = true) : e.on < i := by
  have := List.all_eq_true.1 h i (List.mem_range.2 (lt_of_some ho))
  rw [ho] at this
  simp only [Option.map_some, Option.getD_some] at this
  have := Array.all_eq_true_iff_forall_mem.1 this e he
  simpa [hb] using this

/-- What has come up, and what it waited for. -/
def Closed (ops : Array Oper) (L : Array Bool) : Prop :=
  ∀ i o, L.getD i false = true → ops[i]? = some o → ∀ e ∈ o.after, Region.binds .any e = true → L.getD e.on false = true

theorem bef_listed {L : Array Bool} (hE : okEdges ops = true) (hN : okNeed need ops = true) (hC : Closed ops L) {j : Nat} : ∀ (i : Nat),
    (∀ o, ops[i]? = some o → ∀ e ∈ o.after, Region.binds .any e = true → L.getD e.on false = true) → befB need ops i j = true → L.getD j false = true := by
  intro i
  induction i using Nat.strongRecOn with
  | _ i ih =>
    intro hr hb
    unfold befB at hb
    rw [Bool.or_eq_true] at hb
    rcases hb with hb | hb
    · have hm : (i, j) ∈ need := by simpa using hb
      have := List.all_eq_true.1 hN (i, j) hm
      cases ho : ops[i]? with
      | none => simp [ho] at this
      | some o =>
        simp only [ho, Option.map_some, Option.getD_some] at this
        obtain ⟨e, he, h2⟩ := Array.any_eq_true'.1 this
        simp only [Bool.and_eq_true, Bool.or_eq_true, beq_iff_eq] at h2
        obtain ⟨h2, h3⟩ := h2
        have hle := hr o ho e he h2
        rcases h3 with h3 | h3
        · rw [← h3]; exact hle
        · refine ih e.on (okEdges_lt hE ho he h2) (fun o' ho' => hC e.on o' hle ho') ?_
          unfold befB
          rw [h3]; rfl
    · cases ho : ops[i]? with
      | none => simp [ho] at hb
      | some o =>
        simp only [ho, Option.map_some, Option.getD_some] at hb
        obtain ⟨e, he, h2⟩ := Array.any_eq_true'.1 hb
        simp only [Bool.and_eq_true, beq_iff_eq] at h2
        rw [← h2.2]; exact hr o ho e he h2.1

/-! ### Frames -/

theorem put_get {a : Act} {dst : Option Tmp} {v : Value} {t : Tmp} (h : dst ≠ some t) : (a.put dst v).tmps[t]? = a.tmps[t]? := by
  cases dst with
  | none => rfl
  | some d => exact Array.getElem?_setIfInBounds_ne (fun e => h (by rw [e]))
theorem put_get_at {a : Act} {v : Value} {t : Tmp} (h : t < a.tmps.size) : (a.put (some t) v).tmps[t]? = some v := by
  unfold Act.put; simp [h]
theorem put_size {a : Act} {dst : Option Tmp} {v : Value} : (a.put dst v).tmps.size = a.tmps.size := by
  cases dst <;> simp [Act.put]
theorem put_defers' {a : Act} {dst : Option Tmp} {v : Value} : (a.put dst v).defers = a.defers := by
  cases dst <;> rfl

theorem frame_size {a0 : Act} {sp : Nat → Sp} {vs : Nat → Value} : ∀ k, (frameAt a0 ops sp vs k).tmps.size = a0.tmps.size
  | 0 => rfl
  | k + 1 => by unfold frameAt; rw [put_size, frame_size k]
theorem frame_defers {a0 : Act} {sp : Nat → Sp} {vs : Nat → Value} : ∀ k, (frameAt a0 ops sp vs k).defers = a0.defers
  | 0 => rfl
  | k + 1 => by unfold frameAt; rw [put_defers', frame_defers k]
theorem frame_out {a0 : Act} {sp : Nat → Sp} {vs : Nat → Value} {t : Tmp} : ∀ k, (∀ j, j < k → dstAt ops j ≠ some t) → (frameAt a0 ops sp vs k).tmps[t]? = a0.tmps[t]?
  | 0, _ => rfl
  | k + 1, h => by unfold frameAt; rw [put_get (h k (by omega)), frame_out k (fun j hj => h j (by omega))]
theorem frame_get {a0 : Act} {sp : Nat → Sp} {vs : Nat → Value} {j : Nat} {d : Tmp} (hD : okDst ops a0.tmps.size = true) (hj : dstAt ops j = some d) : ∀ k, j < k → (frameAt a0 ops sp vs k).tmps[d]? = some ((sp j).val (vs j))
  | 0, h => by omega
  | k + 1, h => by
    unfold frameAt
    by_cases hjk : j = k
    · subst hjk
      rw [hj, put_get_at (by rw [frame_size]; exact okDst_lt hD hj)]
    · rw [put_get (fun e => hjk (okDst_ne hD hj e)), frame_get hD hj k (by omega)]

/-! ### One operation, taken over -/

theorem take_over {i : Nat} {o : Oper} {a A : Act} {w : World} {R : Value → World → Prop} {Q' : Exit → Act → World → Prop} {K : Act → World → Prop} (ho : ops[i]? = some o) (hs : ∀ cs b, o.op ≠ .select cs b)
    (hlook : ∀ t ∈ o.looksAt ops, a.tmps[t]? = A.tmps[t]?) (hsz : ∀ d, o.dst = some d → d < A.tmps.size)
    (h : wpList P ops (Post G w A o.dst R) [o] A w) (hK : ∀ v w', G w w' → (o.dst ≠ none → R v w') → K (a.put o.dst v) w') : wpOp P ops Q' i K a w := by
  have hev : execOp a.eval o = execOp A.eval o := execOp_congr o hs fun x hx => by
    cases x with
    | tmp t =>
      have := hlook t (List.mem_append_left _ (List.mem_filterMap.2 ⟨.tmp t, by simpa using hx, rfl⟩))
      show a.tmps.getD t undef = A.tmps.getD t undef
      rw [Array.getD_eq_getD_getElem?, Array.getD_eq_getD_getElem?, this]
    | _ => rfl
  have hwt : Region.wanted o (yielded ops a.tmps) = Region.wanted o (yielded ops A.tmps) := by
    unfold Region.wanted
    cases hg : o.guard with
    | none => rfl
    | some gw =>
      obtain ⟨g, want⟩ := gw
      have hy : yielded ops a.tmps g = yielded ops A.tmps g := by
        unfold yielded
        cases ht : (ops[g]?).bind (·.dst) with
        | none => rfl
        | some t =>
          have := hlook t (by simp [Oper.looksAt, hg, ht])
          simp only [Option.bind_some, this]
      simp only [hy]
  have fin : ∀ v w', Post G w A o.dst R .normal (A.put o.dst v) w' → K (a.put o.dst v) w' := fun v w' ⟨_, _, hg, hr⟩ => by
    refine hK v w' hg fun hne => ?_
    cases hd : o.dst with
    | none => exact absurd hd hne
    | some d =>
      have := hr d hd
      rwa [hd, Array.getD_eq_getD_getElem?, put_get_at (hsz d hd)] at this
  unfold wpOp
  simp only [ho, hwt]
  unfold wpList at h
  split
  · rename_i hw
    rw [if_pos hw] at h
    refine .inl ?_
    rcases h with h | ⟨_, h⟩
    case inr => exact absurd h Post.no_out
    unfold Oper.wp at *
    rw [hev]
    generalize (execOp A.eval o).run P w = r at *
    cases r with
    | ok n w' =>
      cases n <;> simp only [Oper.upon] at h ⊢
      case value u => exact fin u w' h
      case skip => exact fin undef w' h
      case defer d =>
        obtain ⟨_, hd, _⟩ := h
        rw [put_defers'] at hd
        exact absurd (congrArg List.length hd) (by simp)
      case enter f args =>
        refine Calls.mono h fun e w'' he => ?_
        cases e with
        | returned u => exact fin u w'' he
        | panicked c => cases he.1
        | outgrown => exact absurd he Post.no_out
      case row row args => exact Rows.mono h fun u w'' he => fin u w'' he
    | halt x w' =>
      cases x <;> simp only [Oper.upon] at h ⊢
      case panic u => cases h.1
  · rename_i hw
    rw [if_neg hw] at h
    exact fin undef w h

/-! ### Any order -/

structure Inv (G : World → World → Prop) (W : World) (a0 : Act) (ops : Array Oper) (sp : Nat → Sp) (L : Array Bool) (a : Act) (w : World) : Prop where
  good : G W w
  defs : a.defers = a0.defers
  size : a.tmps.size = a0.tmps.size
  lsize : L.size = ops.size
  don : ∀ j d, L.getD j false = true → dstAt ops j = some d → ∃ v, a.tmps[d]? = some v ∧ (sp j).holds v w
  out : ∀ t, (∀ j, L.getD j false = true → dstAt ops j ≠ some t) → a.tmps[t]? = a0.tmps[t]?
  closed : Closed ops L

def valOf (ops : Array Oper) (a : Act) (j : Nat) : Value := ((dstAt ops j).bind (a.tmps[·]?)).getD undef

theorem Inv.look {a0 : Act} {sp : Nat → Sp} {L : Array Bool} {a : Act} {w : World} (hI : Inv G W a0 ops sp L a w) (hok : ok need ops a0.tmps.size = true) {i : Nat} {o : Oper} (ho : ops[i]? = some o)
    (hun : L.getD i false = false) (hr : ∀ e ∈ o.after, Region.binds .any e = true → L.getD e.on false = true) {t : Tmp} (ht : t ∈ o.looksAt ops) :
    a.tmps[t]? = (frameAt a0 ops sp (valOf ops a) i).tmps[t]? := by
  unfold ok at hok
  simp only [Bool.and_eq_true] at hok
  obtain ⟨⟨⟨⟨hD, hE⟩, hN⟩, hL⟩, hS⟩ := hok
  have h1 := List.all_eq_true.1 hL i (List.mem_range.2 (lt_of_some ho))
  rw [ho] at h1
  simp only [Option.map_some, Option.getD_some] at h1
  have h2 := List.all_eq_true.1 h1 t ht
  by_cases hex : ∃ j, dstAt ops j = some t
  · obtain ⟨j, hj⟩ := hex
    have h3 := List.all_eq_true.1 h2 j (List.mem_range.2 (lt_of_dst hj))
    rw [hj] at h3
    simp only [bne_self_eq_false, Bool.false_or, Bool.or_eq_true, Bool.and_eq_true, decide_eq_true_eq] at h3
    rcases h3 with ⟨hji, hb⟩ | ⟨hij, hb⟩
    · have hl := bef_listed hE hN hI.closed i (fun o' ho' => by rw [ho] at ho'; cases ho'; exact hr) hb
      obtain ⟨v, hv, hh⟩ := hI.don j t hl hj
      rw [frame_get hD hj i hji, hv]
      have : valOf ops a j = v := by unfold valOf; rw [hj]; simp [hv]
      rw [this, Sp.val_of_holds hh]
    · have hnl : L.getD j false = false := by
        cases hlj : L.getD j false with
        | false => rfl
        | true =>
          have := bef_listed hE hN hI.closed j (fun o' ho' => hI.closed j o' hlj ho') hb
          rw [hun] at this; cases this
      rw [frame_out i (fun j' hj' e => by have := okDst_ne hD e hj; omega)]
      refine hI.out t fun j' hl' e => ?_
      have := okDst_ne hD e hj
      subst this
      rw [hnl] at hl'; cases hl'
  · rw [frame_out i (fun j _ e => hex ⟨j, e⟩)]
    exact hI.out t fun j _ e => hex ⟨j, e⟩

theorem any_order {a0 : Act} {sp : Nat → Sp} {Q' : Exit → Act → World → Prop} (hok : ok need ops a0.tmps.size = true) (hG : ∀ a b c : World, G a b → G b c → G a c) (hgood : ∀ j o, ops[j]? = some o → Good P ops need G W a0 sp j o)
    (hend : ∀ vs w, G W w → (∀ p ∈ factsAt sp ops.size, p.2 (vs p.1) w) → Q' .normal (frameAt a0 ops sp vs ops.size) w) :
    ∀ (fuel : Nat) (L : Array Bool) (a : Act) (w : World), Inv G W a0 ops sp L a w → (L.toList.filter (! ·)).length ≤ fuel → wpAny P .any ops Q' fuel L a w := by
  have hok' := hok
  unfold ok at hok'
  simp only [Bool.and_eq_true] at hok'
  obtain ⟨⟨⟨⟨hD, hE⟩, hN⟩, hL⟩, hS⟩ := hok'
  have fin : ∀ (L : Array Bool) (a : Act) (w : World), Inv G W a0 ops sp L a w → Region.ready .any ops L = [] → Q' .normal a w := by
    intro L a w hI hr
    have hall : ∀ i, i < ops.size → L.getD i false = true := by
      intro i
      induction i using Nat.strongRecOn with
      | _ i ih =>
        intro hi
        cases hl : L.getD i false with
        | true => rfl
        | false =>
          exfalso
          have ho : ops[i]? = some ops[i] := Array.getElem?_eq_getElem hi
          have : i ∈ Region.ready .any ops L := mem_ready.2 ⟨by
            have hlt : i < L.size := by rw [hI.lsize]; exact hi
            simp [hlt] at hl ⊢; exact hl, ops[i], ho, fun e he hb => ih e.on (okEdges_lt hE ho he hb) (Nat.lt_trans (okEdges_lt hE ho he hb) hi)⟩
          rw [hr] at this; cases this
    have hfr : a = frameAt a0 ops sp (valOf ops a) ops.size := by
      have h1 : a.tmps = (frameAt a0 ops sp (valOf ops a) ops.size).tmps := by
        apply Array.ext_getElem?
        intro t
        by_cases hex : ∃ j, dstAt ops j = some t
        · obtain ⟨j, hj⟩ := hex
          obtain ⟨v, hv, hh⟩ := hI.don j t (hall j (lt_of_dst hj)) hj
          rw [frame_get hD hj _ (lt_of_dst hj), hv]
          have : valOf ops a j = v := by unfold valOf; rw [hj]; simp [hv]
          rw [this, Sp.val_of_holds hh]
        · rw [frame_out _ (fun j _ e => hex ⟨j, e⟩)]
          exact hI.out t fun j _ e => hex ⟨j, e⟩
      have h2 : a.defers = (frameAt a0 ops sp (valOf ops a) ops.size).defers := by rw [frame_defers]; exact hI.defs
      cases a with
      | mk t d =>
        generalize frameAt a0 ops sp (valOf ops ⟨t, d⟩) ops.size = F at *
        cases F
        simp only at h1 h2
        rw [h1, h2]
    rw [hfr]
    refine hend _ w hI.good fun p hp => ?_
    obtain ⟨hlt, hsp⟩ := mem_factsAt hp
    have ho : ops[p.1]? = some ops[p.1] := Array.getElem?_eq_getElem hlt
    have hne := (hgood p.1 _ ho).2.1 _ hsp
    cases hd : (ops[p.1]).dst with
    | none => exact absurd hd hne
    | some d =>
      have hdst : dstAt ops p.1 = some d := by unfold dstAt; rw [ho]; exact hd
      obtain ⟨v, hv, hh⟩ := hI.don p.1 d (hall _ hlt) hdst
      have : valOf ops a p.1 = v := by unfold valOf; rw [hdst]; simp [hv]
      rw [this]
      rw [hsp] at hh
      exact hh
  intro fuel
  induction fuel with
  | zero =>
    intro L a w hI hf
    have hnil : Region.ready .any ops L = [] := by
      apply List.eq_nil_iff_forall_not_mem.2
      intro i hi
      obtain ⟨h0, o, ho, -⟩ := mem_ready.1 hi
      have hlt : i < L.size := by rw [hI.lsize]; exact lt_of_some ho
      have hm : L[i] ∈ L.toList.filter (! ·) := by
        rw [List.mem_filter]
        refine ⟨by simp, ?_⟩
        simp [hlt] at h0
        simp [h0]
      have : L.toList.filter (! ·) = [] := List.length_eq_zero_iff.1 (by omega)
      rw [this] at hm; cases hm
    exact ⟨hnil, fin L a w hI hnil⟩
  | succ fuel ih =>
    intro L a w hI hf
    refine ⟨fun hr => fin L a w hI hr, fun i hi => ?_⟩
    obtain ⟨h0, o, ho, hr⟩ := mem_ready.1 hi
    have hlt : i < L.size := by rw [hI.lsize]; exact lt_of_some ho
    have hun : L.getD i false = false := by simp [hlt] at h0 ⊢; exact h0
    obtain ⟨hst, hne, hrun⟩ := hgood i o ho
    have hdst : dstAt ops i = o.dst := by unfold dstAt; rw [ho]; rfl
    refine take_over ho (fun cs b => Region.noSelect_spec hS i o cs b ho) (fun t ht => hI.look hok ho hun hr ht) (fun d hd => by rw [frame_size]; exact okDst_lt hD (by rw [hdst]; exact hd))
      (hrun (valOf ops a) w hI.good fun p hp hn => ?_) (fun v w' hg hv => ?_)
    · obtain ⟨hlt', hsp⟩ := mem_factsAt hp
      have hl : L.getD p.1 false = true := bef_listed hE hN hI.closed i (fun o' ho' => by rw [ho] at ho'; cases ho'; exact hr) (by unfold befB; rw [Bool.or_eq_true]; left; simpa using hn)
      have hlt2 : p.1 < ops.size := Nat.lt_trans hlt' (lt_of_some ho)
      have ho2 : ops[p.1]? = some ops[p.1] := Array.getElem?_eq_getElem hlt2
      cases hd : (ops[p.1]).dst with
      | none => exact absurd hd ((hgood p.1 _ ho2).2.1 _ hsp)
      | some d =>
        have hdst2 : dstAt ops p.1 = some d := by unfold dstAt; rw [ho2]; exact hd
        obtain ⟨v, hv, hh⟩ := hI.don p.1 d hl hdst2
        have : valOf ops a p.1 = v := by unfold valOf; rw [hdst2]; simp [hv]
        rw [this]
        rw [hsp] at hh
        exact hh
    · have hget : ∀ j, (L.setIfInBounds i true).getD j false = true ↔ (j = i ∨ L.getD j false = true) := fun j => by
        by_cases hji : i = j
        · subst hji; simp [hlt]
        · rw [getD_set_ne false hji]
          constructor
          · exact .inr
          · rintro (h | h)
            · exact absurd h.symm hji
            · exact h
      refine ih _ _ _ ⟨hG _ _ _ hI.good hg, by rw [put_defers']; exact hI.defs, by rw [put_size]; exact hI.size, by simp [hI.lsize], fun j d hj hd => ?_, fun t ht => ?_, fun j oj hj hoj e he hb => ?_⟩ ?_
      · by_cases hji : j = i
        · subst hji
          rw [hdst] at hd
          refine ⟨v, ?_, hv (by rw [hd]; simp)⟩
          rw [hd]
          exact put_get_at (by rw [hI.size]; exact okDst_lt hD (by rw [hdst]; exact hd))
        · have hj' := ((hget j).1 hj).resolve_left hji
          obtain ⟨u, hu, hh⟩ := hI.don j d hj' hd
          refine ⟨u, ?_, (hgood j _ (Array.getElem?_eq_getElem (lt_of_dst hd))).1 _ _ _ hh hg⟩
          rw [put_get (fun e => hji (okDst_ne hD hd (by rw [hdst]; exact e)))]
          exact hu
      · rw [put_get (fun e => ht i ((hget i).2 (.inl rfl)) (by rw [hdst]; exact e))]
        exact hI.out t fun j hj => ht j ((hget j).2 (.inr hj))
      · rw [hget]
        by_cases hji : j = i
        · subst hji
          rw [ho] at hoj; cases hoj
          exact .inr (hr e he hb)
        · exact .inr (hI.closed j oj (((hget j).1 hj).resolve_left hji) hoj e he hb)
      · have key : ∀ (l : List Bool) (i : Nat), l[i]? = some false → ((l.set i true).filter (! ·)).length + 1 = (l.filter (! ·)).length := by
          intro l
          induction l with
          | nil => intro i h; simp at h
          | cons b l ihl =>
            intro i h
            cases i with
            | zero => simp at h; subst h; simp
            | succ i =>
              have := ihl i (by simpa using h)
              cases b <;> simp at this ⊢ <;> omega
        have h1 : L.toList[i]? = some false := by
          rw [Array.getElem?_toList, Array.getElem?_eq_getElem hlt]
          simp [hlt] at hun
          simp [hun]
        have := key L.toList i h1
        rw [Array.toList_setIfInBounds]
        omega

theorem wp_region_v {id : Nat} {a : Act} {w : World} {l : List Oper} {Q' : Exit → Act → World → Prop} (need : List (Nat × Nat)) (G : World → World → Prop) (hm : P.follows .mixedOrders = true) (hok : ok need l.toArray a.tmps.size = true)
    (hG : ∀ a b c : World, G a b → G b c → G a c) (h0 : G w w.drew)
    (h : wpV P l.toArray need G w (Q' .normal) l 0 [] (fun _ => a)) : (Code.region id l.toArray true).wp P Q' a w := by
  refine wp_region_any hm ?_
  obtain ⟨sp', -, h2, h3⟩ := gather (a0 := a) l 0 (fun _ => .det undef) (by simp) h
  refine any_order hok hG (fun j o ho => h2 j o (Nat.zero_le _) ho) (fun vs w' hw hf => ?_) _ _ _ _ ⟨h0, rfl, rfl, by simp, fun j d hj => ?_, fun _ _ => rfl, fun i o hi => ?_⟩ ?_
  · have := h3 vs w' hw (by simpa using hf)
    simpa using this
  · exfalso
    by_cases hlt : j < l.length <;> simp [hlt] at hj
  · exfalso
    by_cases hlt : i < l.length <;> simp [hlt] at hi
  · refine Nat.le_trans (List.length_filter_le _ _) ?_
    simp

/-! ### The moves -/

theorem step_det {o : Oper} {rest : List Oper} {k : Nat} {fs : List Fact} {A : (Nat → Value) → Act}
    (h : ∃ v, (∀ vs w, G W w → Facts need k fs vs w → wpList P ops (Post G w (A vs) o.dst (fun u _ => u = v)) [o] (A vs) w) ∧
      ∀ A' : (Nat → Value) → Act, (∀ vs, A' vs = (A vs).put o.dst v) → wpV P ops need G W Q rest (k + 1) fs A') : wpV P ops need G W Q (o :: rest) k fs A := by
  obtain ⟨v, h1, h2⟩ := h
  exact .inl ⟨v, h1, h2 _ fun _ => rfl⟩

theorem step_rel {o : Oper} {rest : List Oper} {k : Nat} {fs : List Fact} {A : (Nat → Value) → Act} (R : Value → World → Prop) (hne : o.dst ≠ none) (hst : ∀ v w w', R v w → G w w' → R v w')
    (h1 : ∀ vs w, G W w → Facts need k fs vs w → wpList P ops (Post G w (A vs) o.dst R) [o] (A vs) w)
    (h2 : ∀ A' : (Nat → Value) → Act, (∀ vs, A' vs = (A vs).put o.dst (vs k)) → wpV P ops need G W Q rest (k + 1) ((k, R) :: fs) A') : wpV P ops need G W Q (o :: rest) k fs A :=
  .inr ⟨R, hne, hst, h1, h2 _ fun _ => rfl⟩

theorem post_done {w w' : World} {A a : Act} {dst : Option Tmp} {v : Value} (hd : a.defers = A.defers) (hg : G w w') (hv : ∀ d, dst = some d → a.tmps.getD d undef = v) : Post G w A dst (fun u _ => u = v) .normal a w' := ⟨rfl, hd, hg, hv⟩
theorem post_rel {w w' : World} {A a : Act} {dst : Option Tmp} {R : Value → World → Prop} (hd : a.defers = A.defers) (hg : G w w') (hv : ∀ d, dst = some d → R (a.tmps.getD d undef) w') : Post G w A dst R .normal a w' := ⟨rfl, hd, hg, hv⟩
theorem post_at {w w' : World} {A a : Act} {d : Tmp} {v : Value} (hd : a.defers = A.defers) (hg : G w w') (hv : a.tmps.getD d undef = v) : Post G w A (some d) (fun u _ => u = v) .normal a w' :=
  ⟨rfl, hd, hg, fun e he => by cases he; exact hv⟩
theorem post_rel_at {w w' : World} {A a : Act} {d : Tmp} {R : Value → World → Prop} (u : Value) (hd : a.defers = A.defers) (hg : G w w') (hu : a.tmps.getD d undef = u) (hv : R u w') : Post G w A (some d) R .normal a w' :=
  ⟨rfl, hd, hg, fun e he => by cases he; rw [hu]; exact hv⟩

end
end Reg
end Go.Proofs.YtcfbcffmlinlaaaDoor
