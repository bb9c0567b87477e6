/-
  A region that draws its order, and that ends in operations that come one behind the other: its first operation is taken first, those between in any order, then the others in the text's order.
  The reference's line that is taken: an object, a call.
  The reference's line that is taken, whatever word it bears.
-/
import Derived.Test.YtcfbcffmlinlaaaDoorJ09
import Derived.Test.YtcfbcffmlinlaaaDoorJ15
import Derived.Test.YtcfbcffmlinlaaaDoorJ11
set_option linter.unusedVariables false
namespace Go.Proofs.YtcfbcffmlinlaaaDoor
namespace RegP

section
variable {P : Program} {ops : Array Oper} {need : List (Nat × Nat)} {G : World → World → Prop} {W : World} {X : Exit → World → Prop}

def Waits (ops : Array Oper) (j i : Nat) : Prop := ∃ o, ops[j]? = some o ∧ ∃ e ∈ o.after, Region.binds .any e = true ∧ e.on = i
def waitsB (ops : Array Oper) (j i : Nat) : Bool := ((ops[j]?).map fun o => o.after.any fun e => Region.binds .any e && e.on == i).getD false
theorem waits_of {j i : Nat} (h : waitsB ops j i = true) : Waits ops j i := by
  unfold waitsB at h
  cases ho : ops[j]? with
  | none => rw [ho] at h; simp at h
  | some o =>
    rw [ho] at h
    simp only [Option.map_some, Option.getD_some] at h
    obtain ⟨e, he, hb⟩ := Array.any_eq_true'.1 h
    simp only [Bool.and_eq_true, beq_iff_eq] at hb
    exact ⟨o, ho, e, he, hb.1, hb.2⟩
def sinkB (ops : Array Oper) (n : Nat) : Bool := (List.range n).all fun i => i == 0 || (List.range (n + 1)).any fun j => decide (i < j) && waitsB ops j i
def chainB (ops : Array Oper) (n : Nat) : Bool := (List.range ops.size).all fun t => decide (t ≤ n) || waitsB ops t (t - 1)

theorem filter_set : ∀ (l : List Bool) (i : Nat), l[i]? = some false → ((l.set i true).filter (! ·)).length + 1 = (l.filter (! ·)).length := by
  intro l
  induction l with
  | nil => intro i h; simp at h
  | cons b l ihl =>
    intro i h
    cases i with
    | zero => simp at h; subst h; simp
    | succ i =>
      have := ihl i (by simpa using h)
      cases b <;> simp at this ⊢ <;> omega
theorem filter_less {L : Array Bool} {i fuel : Nat} (hlt : i < L.size) (hun : L.getD i false = false) (hf : (L.toList.filter (! ·)).length ≤ fuel + 1) : ((L.setIfInBounds i true).toList.filter (! ·)).length ≤ fuel := by
  have h1 : L.toList[i]? = some false := by
    rw [Array.getElem?_toList, Array.getElem?_eq_getElem hlt]
    simp [hlt] at hun
    simp [hun]
  have := filter_set L.toList i h1
  rw [Array.toList_setIfInBounds]
  omega
theorem get_set {L : Array Bool} {i : Nat} (hlt : i < L.size) (j : Nat) : (L.setIfInBounds i true).getD j false = true ↔ (j = i ∨ L.getD j false = true) := by
  by_cases hji : i = j
  · subst hji; simp [hlt]
  · rw [getD_set_ne false hji]
    constructor
    · exact .inr
    · rintro (h | h)
      · exact absurd h.symm hji
      · exact h

theorem tail_run {Q' : Exit → Act → World → Prop} {n : Nat} (hE : okEdges ops = true) (hchain : ∀ t, n < t → t < ops.size → Waits ops t (t - 1)) :
    ∀ (fuel t : Nat) (L : Array Bool) (a : Act) (w : World), n ≤ t → t ≤ ops.size → L.size = ops.size → (∀ j, j < t → L.getD j false = true) → (∀ j, t ≤ j → j < ops.size → L.getD j false = false) →
      (L.toList.filter (! ·)).length ≤ fuel → wpList P ops Q' (ops.toList.drop t) a w → wpAny P .any ops Q' fuel L a w := by
  have done : ∀ (fuel t : Nat) (L : Array Bool) (a : Act) (w : World), t = ops.size → L.size = ops.size → (∀ j, j < t → L.getD j false = true) → wpList P ops Q' (ops.toList.drop t) a w → wpAny P .any ops Q' fuel L a w := by
    intro fuel t L a w ht hs hl h
    subst ht
    refine wpAny_done ?_ ?_ fuel
    · apply List.eq_nil_iff_forall_not_mem.2
      intro i hi
      obtain ⟨h0, o, ho, -⟩ := mem_ready.1 hi
      have h1 := hl i (lt_of_some ho)
      have hlt : i < L.size := by rw [hs]; exact lt_of_some ho
      simp [hlt] at h0 h1
      rw [h0] at h1; cases h1
    · rw [List.drop_of_length_le (by simp)] at h
      exact h
  intro fuel
  induction fuel with
  | zero =>
    intro t L a w hnt ht hs hl hu hf h
    by_cases hts : t = ops.size
    · exact done 0 t L a w hts hs hl h
    · exfalso
      have hlt : t < L.size := by omega
      have h1 := hu t (Nat.le_refl t) (by omega)
      have hm : L[t] ∈ L.toList.filter (! ·) := by
        rw [List.mem_filter]
        refine ⟨by simp, ?_⟩
        simp [hlt] at h1
        simp [h1]
      have : L.toList.filter (! ·) = [] := List.length_eq_zero_iff.1 (by omega)
      rw [this] at hm; cases hm
  | succ fuel ih =>
    intro t L a w hnt ht hs hl hu hf h
    by_cases hts : t = ops.size
    · exact done _ t L a w hts hs hl h
    · have htl : t < ops.size := by omega
      have hlt : t < L.size := by omega
      have ho : ops[t]? = some ops[t] := Array.getElem?_eq_getElem htl
      have hun := hu t (Nat.le_refl t) htl
      have htr : t ∈ Region.ready .any ops L := mem_ready.2 ⟨by simp [hlt] at hun ⊢; exact hun, ops[t], ho, fun e he hb => hl e.on (okEdges_lt hE ho he hb)⟩
      refine ⟨fun hr => absurd (hr ▸ htr) (by simp), fun i hi => ?_⟩
      obtain ⟨h0, o, hoi, hr⟩ := mem_ready.1 hi
      have hil : i < ops.size := lt_of_some hoi
      have hiu : L.getD i false = false := by
        have : i < L.size := by omega
        simp [this] at h0 ⊢; exact h0
      have hti : t ≤ i := by
        rcases Nat.lt_or_ge i t with h' | h'
        · rw [hl i h'] at hiu; cases hiu
        · exact h'
      have hit : i = t := by
        rcases Nat.eq_or_lt_of_le hti with h' | h'
        · exact h'.symm
        · exfalso
          obtain ⟨o', ho', e, he, hb, hon⟩ := hchain i (by omega) hil
          rw [hoi] at ho'; cases ho'
          have h1 := hr e he hb
          rw [hon, hu (i - 1) (by omega) (by omega)] at h1; cases h1
      subst hit
      have hd : ops.toList.drop i = ops[i] :: ops.toList.drop (i + 1) := by
        rw [List.drop_eq_getElem_cons (by simpa using htl)]; simp
      rw [hd] at h
      have hK : ∀ a' w', wpList P ops Q' (ops.toList.drop (i + 1)) a' w' → wpAny P .any ops Q' fuel (L.setIfInBounds i true) a' w' := fun a' w' hq => by
        refine ih (i + 1) _ a' w' (by omega) htl (by simp [hs]) (fun j hj => (get_set hlt j).2 ?_) (fun j hj hjs => ?_) (filter_less hlt hun hf) hq
        · by_cases hji : j = i
          · exact .inl hji
          · exact .inr (hl j (by omega))
        · cases hc : (L.setIfInBounds i true).getD j false with
          | false => rfl
          | true =>
            rcases (get_set hlt j).1 hc with h' | h'
            · omega
            · rw [hu j (by omega) hjs] at h'; cases h'
      unfold wpOp
      simp only [ho]
      unfold wpList at h
      split
      · rename_i hw
        rw [if_pos hw] at h
        rcases h with h | h
        · exact .inl (Oper.wp_mono hK h)
        · exact .inr h
      · rename_i hw
        rw [if_neg hw] at h
        exact hK _ _ h

theorem any_order_tail {a0 : Act} {sp : Nat → Sp} {Q' : Exit → Act → World → Prop} {n : Nat} {v0 : Value} (hn : n < ops.size) (hsp : sp 0 = .det v0) (hsink : ∀ i, i < n → i ≠ 0 → ∃ j, i < j ∧ j ≤ n ∧ Waits ops j i) (hchain : ∀ t, n < t → t < ops.size → Waits ops t (t - 1))
    (hok : ok need ops a0.tmps.size = true) (hG : ∀ a b c : World, G a b → G b c → G a c) (hgood : ∀ j o, 0 < j → j < n → ops[j]? = some o → Good P ops need G X W a0 sp j o)
    (hX : ∀ e a' w', a'.defers = a0.defers → X e w' → Q' e a' w') (hend : ∀ vs w, G W w → (∀ p ∈ factsAt sp n, p.2 (vs p.1) w) → wpList P ops Q' (ops.toList.drop n) (frameAt a0 ops sp vs n) w) :
    ∀ (fuel : Nat) (L : Array Bool) (a : Act) (w : World), Inv G W a0 ops sp L a w → L.getD 0 false = true → L.getD n false = false → (L.toList.filter (! ·)).length ≤ fuel → wpAny P .any ops Q' fuel L a w := by
  have hok' := hok
  unfold ok at hok'
  simp only [Bool.and_eq_true] at hok'
  obtain ⟨⟨⟨⟨hD, hE⟩, hN⟩, hL⟩, hS⟩ := hok'
  have hall : ∀ (L : Array Bool), L.size = ops.size → Region.ready .any ops L = [] → ∀ i, i < ops.size → L.getD i false = true := by
    intro L hs hr i
    induction i using Nat.strongRecOn with
    | _ i ih =>
      intro hi
      cases hl : L.getD i false with
      | true => rfl
      | false =>
        exfalso
        have ho : ops[i]? = some ops[i] := Array.getElem?_eq_getElem hi
        have : i ∈ Region.ready .any ops L := mem_ready.2 ⟨by
          have hlt : i < L.size := by rw [hs]; exact hi
          simp [hlt] at hl ⊢; exact hl, ops[i], ho, fun e he hb => ih e.on (okEdges_lt hE ho he hb) (Nat.lt_trans (okEdges_lt hE ho he hb) hi)⟩
        rw [hr] at this; cases this
  intro fuel
  induction fuel with
  | zero =>
    intro L a w hI h00 hln hf
    exfalso
    have hlt : n < L.size := by rw [hI.lsize]; exact hn
    have hm : L[n] ∈ L.toList.filter (! ·) := by
      rw [List.mem_filter]
      refine ⟨by simp, ?_⟩
      simp [hlt] at hln
      simp [hln]
    have : L.toList.filter (! ·) = [] := List.length_eq_zero_iff.1 (by omega)
    rw [this] at hm; cases hm
  | succ fuel ih =>
    intro L a w hI h00 hln hf
    have htail : ∀ d t, t = n + d → t < ops.size → L.getD t false = false := by
      intro d
      induction d with
      | zero => intro t ht _; rw [ht, Nat.add_zero]; exact hln
      | succ d ihd =>
        intro t ht hts
        cases hl : L.getD t false with
        | false => rfl
        | true =>
          obtain ⟨o, ho, e, he, hb, hon⟩ := hchain t (by omega) hts
          have h1 := hI.closed t o hl ho e he hb
          rw [hon, ihd (t - 1) (by omega) (by omega)] at h1; cases h1
    refine ⟨fun hr => ?_, fun i hi => ?_⟩
    · have := hall L hI.lsize hr n hn
      rw [this] at hln; cases hln
    obtain ⟨h0, o, ho, hr⟩ := mem_ready.1 hi
    have hlt : i < L.size := by rw [hI.lsize]; exact lt_of_some ho
    have hun : L.getD i false = false := by simp [hlt] at h0 ⊢; exact h0
    have hin' : i ≤ n := by
      rcases Nat.lt_or_ge n i with h' | h'
      · exfalso
        obtain ⟨o', ho', e, he, hb, hon⟩ := hchain i h' (lt_of_some ho)
        rw [ho] at ho'; cases ho'
        have h1 := hr e he hb
        have hi2 := lt_of_some ho
        rw [hon, htail (i - 1 - n) (i - 1) (by omega) (by omega)] at h1; cases h1
      · exact h'
    by_cases hin : i = n
    · subst hin
      have hl : ∀ d j, j + d = i → j < i → L.getD j false = true := by
        intro d
        induction d using Nat.strongRecOn with
        | _ d ihd =>
          intro j hjd hj
          by_cases hj0 : j = 0
          · rw [hj0]; exact h00
          · obtain ⟨j', hlt', hle', o', ho', e, he, hb, hon⟩ := hsink j hj hj0
            rcases Nat.eq_or_lt_of_le hle' with h' | h'
            · subst h'
              rw [ho] at ho'; cases ho'
              rw [← hon]; exact hr e he hb
            · have := ihd (i - j') (by omega) j' (by omega) h'
              rw [← hon]; exact hI.closed j' o' this ho' e he hb
      have hl : ∀ j, j < i → L.getD j false = true := fun j hj => hl (i - j) j (by omega) hj
      have hfr : a = frameAt a0 ops sp (valOf ops a) i := by
        have h1 : a.tmps = (frameAt a0 ops sp (valOf ops a) i).tmps := by
          apply Array.ext_getElem?
          intro t
          by_cases hex : ∃ j, j < i ∧ dstAt ops j = some t
          · obtain ⟨j, hjn, hj⟩ := hex
            obtain ⟨v, hv, hh⟩ := hI.don j t (hl j hjn) hj
            rw [frame_get hD hj _ hjn, hv]
            have : valOf ops a j = v := by unfold valOf; rw [hj]; simp [hv]
            rw [this, Sp.val_of_holds hh]
          · rw [frame_out _ (fun j hj e => hex ⟨j, hj, e⟩)]
            refine hI.out t fun j hj e => ?_
            have hjs := lt_of_dst e
            rcases Nat.lt_or_ge j i with h' | h'
            · exact hex ⟨j, h', e⟩
            · rw [htail (j - i) j (by omega) hjs] at hj; cases hj
        have h2 : a.defers = (frameAt a0 ops sp (valOf ops a) i).defers := by rw [frame_defers]; exact hI.defs
        cases a with
        | mk t d =>
          generalize frameAt a0 ops sp (valOf ops ⟨t, d⟩) i = F at *
          cases F
          simp only at h1 h2
          rw [h1, h2]
      have hE' := hend (valOf ops a) w hI.good (fun p hp => by
        obtain ⟨hlt', hspp⟩ := mem_factsAt hp
        have hp0 : 0 < p.1 := by
          rcases Nat.eq_zero_or_pos p.1 with h' | h'
          · rw [h', hsp] at hspp; cases hspp
          · exact h'
        have ho2 : ops[p.1]? = some ops[p.1] := Array.getElem?_eq_getElem (by omega)
        have hne := (hgood p.1 _ hp0 hlt' ho2).2.1 _ hspp
        cases hd : (ops[p.1]).dst with
        | none => exact absurd hd hne
        | some d =>
          have hdst : dstAt ops p.1 = some d := by unfold dstAt; rw [ho2]; exact hd
          obtain ⟨v, hv, hh⟩ := hI.don p.1 d (hl _ hlt') hdst
          have : valOf ops a p.1 = v := by unfold valOf; rw [hdst]; simp [hv]
          rw [this]
          rw [hspp] at hh
          exact hh)
      rw [← hfr] at hE'
      have hrun := tail_run (P := P) (Q' := Q') hE hchain (fuel + 1) i L a w (Nat.le_refl i) (Nat.le_of_lt hn) hI.lsize hl (fun j hj hjs => htail (j - i) j (by omega) hjs) hf hE'
      exact hrun.2 i hi
    have hiN : i < n := by omega
    have hi0 : 0 < i := by
      rcases Nat.eq_zero_or_pos i with h' | h'
      · rw [h', h00] at hun; cases hun
      · exact h'
    obtain ⟨hst, hne, hrun⟩ := hgood i o hi0 hiN ho
    have hdst : dstAt ops i = o.dst := by unfold dstAt; rw [ho]; rfl
    refine take_over ho (fun cs b => Region.noSelect_spec hS i o cs b ho) (fun t ht => hI.look hok ho hun hr ht) (fun d hd => by rw [frame_size]; exact okDst_lt hD (by rw [hdst]; exact hd))
      (hrun (valOf ops a) w hI.good fun p hp hn => ?_) (fun e w' hx => hX e a w' hI.defs hx) (fun v w' hg hv => ?_)
    · obtain ⟨hlt', hspp⟩ := mem_factsAt hp
      have hp0 : 0 < p.1 := by
        rcases Nat.eq_zero_or_pos p.1 with h' | h'
        · rw [h', hsp] at hspp; cases hspp
        · exact h'
      have hl : L.getD p.1 false = true := bef_listed hE hN hI.closed i (fun o' ho' => by rw [ho] at ho'; cases ho'; exact hr) (by unfold befB; rw [Bool.or_eq_true]; left; simpa using hn)
      have hlt2 : p.1 < ops.size := Nat.lt_trans hlt' (lt_of_some ho)
      have ho2 : ops[p.1]? = some ops[p.1] := Array.getElem?_eq_getElem hlt2
      cases hd : (ops[p.1]).dst with
      | none => exact absurd hd ((hgood p.1 _ hp0 (by omega) ho2).2.1 _ hspp)
      | some d =>
        have hdst2 : dstAt ops p.1 = some d := by unfold dstAt; rw [ho2]; exact hd
        obtain ⟨v, hv, hh⟩ := hI.don p.1 d hl hdst2
        have : valOf ops a p.1 = v := by unfold valOf; rw [hdst2]; simp [hv]
        rw [this]
        rw [hspp] at hh
        exact hh
    · have hget := get_set hlt
      refine ih _ _ _ ⟨hG _ _ _ hI.good hg, by rw [put_defers']; exact hI.defs, by rw [put_size]; exact hI.size, by simp [hI.lsize], fun j d hj hd => ?_, fun t ht => ?_, fun j oj hj hoj e he hb => ?_⟩ ((hget 0).2 (.inr h00)) ?_ (filter_less hlt hun hf)
      · by_cases hji : j = i
        · subst hji
          rw [hdst] at hd
          refine ⟨v, ?_, hv (by rw [hd]; simp)⟩
          rw [hd]
          exact put_get_at (by rw [hI.size]; exact okDst_lt hD (by rw [hdst]; exact hd))
        · have hj' := ((hget j).1 hj).resolve_left hji
          obtain ⟨u, hu, hh⟩ := hI.don j d hj' hd
          have hstab : (sp j).holds u w' := by
            rcases Nat.eq_zero_or_pos j with hj0 | hj0
            · subst hj0; rw [hsp] at hh ⊢; exact hh
            · have hjn : j < n := by
                rcases Nat.lt_or_ge j n with h' | h'
                · exact h'
                · rw [htail (j - n) j (by omega) (lt_of_dst hd)] at hj'; cases hj'
              exact (hgood j _ hj0 hjn (Array.getElem?_eq_getElem (lt_of_dst hd))).1 _ _ _ hh hg
          refine ⟨u, ?_, hstab⟩
          rw [put_get (fun e => hji (okDst_ne hD hd (by rw [hdst]; exact e)))]
          exact hu
      · rw [put_get (fun e => ht i ((hget i).2 (.inl rfl)) (by rw [hdst]; exact e))]
        exact hI.out t fun j hj => ht j ((hget j).2 (.inr hj))
      · rw [hget]
        by_cases hji : j = i
        · subst hji
          rw [ho] at hoj; cases hoj
          exact .inr (hr e he hb)
        · exact .inr (hI.closed j oj (((hget j).1 hj).resolve_left hji) hoj e he hb)
      · cases hc : (L.setIfInBounds i true).getD n false with
        | false => rfl
        | true =>
          rcases (hget n).1 hc with h | h
          · exact absurd h.symm hin
          · rw [h] at hln; cases hln

/-- The walk: the first operation has been taken (its value is v0); then those up to the n-th in any order; then the others. -/
theorem wpAny_tail {a : Act} {w W : World} {fuel : Nat} {lf : List Oper} {Q' : Exit → Act → World → Prop} (n : Nat) (l tl : List Oper) (d0 : Tmp) (v0 : Value) (hl : (lf.take n).drop 1 = l) (htl : lf.drop n = tl) (hnl : n < lf.length) (hn1 : 1 ≤ n)
    (hd0 : dstAt lf.toArray 0 = some d0) (hsz : d0 < a.tmps.size)
    (need : List (Nat × Nat)) (G : World → World → Prop) (X : Exit → World → Prop)
    (hok : ok need lf.toArray a.tmps.size = true) (hsink : sinkB lf.toArray n = true) (hchain : chainB lf.toArray n = true) (hno : ((lf[0]?).map fun o => o.after.all fun e => !Region.binds .any e).getD false = true)
    (hG : ∀ a b c : World, G a b → G b c → G a c) (h0 : G W w) (hfu : lf.length ≤ fuel + 1)
    (hX : ∀ e a' w', a'.defers = a.defers → X e w' → Q' e a' w') (h : wpV P lf.toArray need G X W (fun a' w' => wpList P lf.toArray Q' tl a' w') l 1 [] (fun _ => a.put (some d0) v0)) :
    wpAny P .any lf.toArray Q' fuel ((Array.replicate lf.length false).setIfInBounds 0 true) (a.put (some d0) v0) w := by
  have hll : l.length = n - 1 := by rw [← hl, List.length_drop, List.length_take]; omega
  have hget : ∀ j, l[j]? = if 1 + j < n then lf[1 + j]? else none := fun j => by rw [← hl, List.getElem?_drop, List.getElem?_take]
  have hput : (a.put (some d0) v0).put (some d0) v0 = a.put (some d0) v0 := by
    unfold Act.put
    simp only
    congr 1
    apply Array.ext_getElem?
    intro t
    by_cases ht : t = d0
    · subst ht; simp [hsz]
    · simp [Array.getElem?_setIfInBounds]
  have hgath : ∃ sp' : Nat → Sp, sp' 0 = .det v0 ∧ (∀ j o, 0 < j → j < n → lf[j]? = some o → Good P lf.toArray need G X W (a.put (some d0) v0) sp' j o) ∧
      ∀ vs w', G W w' → (∀ p ∈ factsAt sp' n, p.2 (vs p.1) w') → wpList P lf.toArray Q' tl (frameAt (a.put (some d0) v0) lf.toArray sp' vs n) w' := by
    have gen : ∀ (r : List Oper) (k : Nat) (sp : Nat → Sp), 1 ≤ k → sp 0 = .det v0 → (∀ j, r[j]? = if k + j < n then lf[k + j]? else none) → k + r.length = n →
        wpV P lf.toArray need G X W (fun a' w' => wpList P lf.toArray Q' tl a' w') r k (factsAt sp k) (fun vs => frameAt (a.put (some d0) v0) lf.toArray sp vs k) →
        ∃ sp' : Nat → Sp, (∀ j, j < k → sp' j = sp j) ∧ (∀ j o, k ≤ j → j < n → lf[j]? = some o → Good P lf.toArray need G X W (a.put (some d0) v0) sp' j o) ∧
          ∀ vs w', G W w' → (∀ p ∈ factsAt sp' n, p.2 (vs p.1) w') → wpList P lf.toArray Q' tl (frameAt (a.put (some d0) v0) lf.toArray sp' vs n) w' := by
      intro r
      induction r with
      | nil =>
        intro k sp hk1 hs0 hr hk hv
        have hk : k = n := by simpa using hk
        subst hk
        exact ⟨sp, fun _ _ => rfl, fun j o h1 h2 => by omega, fun vs w' hw hf => hv vs w' hw hf⟩
      | cons o r ih =>
        intro k sp hk1 hs0 hr hk hv
        have hkn : k < n := by simp at hk; omega
        have h0 : lf[k]? = some o := by have := hr 0; rw [Nat.add_zero, if_pos hkn] at this; simpa using this.symm
        have h0' : lf.toArray[k]? = some o := by simpa using h0
        have hr' : ∀ j, r[j]? = if k + 1 + j < n then lf[k + 1 + j]? else none := fun j => by have := hr (j + 1); simpa [Nat.add_assoc, Nat.add_comm 1 j] using this
        have hd : dstAt lf.toArray k = o.dst := by unfold dstAt; rw [h0']; rfl
        have key : ∀ (s : Sp), (∀ v w w', s.holds v w → G w w' → s.holds v w') → (∀ R, s = .rel R → o.dst ≠ none) →
            (∀ vs w1, G W w1 → Facts need k (factsAt sp k) vs w1 → wpList P lf.toArray (Post G X w1 (frameAt (a.put (some d0) v0) lf.toArray sp vs k) o.dst s.holds) [o] (frameAt (a.put (some d0) v0) lf.toArray sp vs k) w1) →
            wpV P lf.toArray need G X W (fun a' w' => wpList P lf.toArray Q' tl a' w') r (k + 1) (factsAt (fun j => if j = k then s else sp j) (k + 1)) (fun vs => frameAt (a.put (some d0) v0) lf.toArray (fun j => if j = k then s else sp j) vs (k + 1)) →
            ∃ sp' : Nat → Sp, (∀ j, j < k → sp' j = sp j) ∧ (∀ j o, k ≤ j → j < n → lf[j]? = some o → Good P lf.toArray need G X W (a.put (some d0) v0) sp' j o) ∧
              ∀ vs w', G W w' → (∀ p ∈ factsAt sp' n, p.2 (vs p.1) w') → wpList P lf.toArray Q' tl (frameAt (a.put (some d0) v0) lf.toArray sp' vs n) w' := by
          intro s hst hne hrun hrest
          obtain ⟨sp', h1, h2, h3⟩ := ih (k + 1) _ (by omega) (by rw [if_neg (by omega)]; exact hs0) hr' (by simp at hk; omega) hrest
          have hlow : ∀ j, j < k → sp' j = sp j := fun j hj => by rw [h1 j (by omega), if_neg (by omega)]
          have hks : sp' k = s := by rw [h1 k (by omega), if_pos rfl]
          refine ⟨sp', hlow, fun j oj hj hjn ho => ?_, h3⟩
          by_cases hjk : j = k
          · subst hjk
            rw [h0] at ho; cases ho
            refine ⟨by rw [hks]; exact hst, by rw [hks]; exact hne, fun vs w1 hw hf => ?_⟩
            rw [hks, frameAt_congr j hlow]
            rw [factsAt_congr j hlow] at hf
            exact hrun vs w1 hw hf
          · exact h2 j oj (by omega) hjn ho
        have hfr : ∀ (s : Sp) vs, frameAt (a.put (some d0) v0) lf.toArray (fun j => if j = k then s else sp j) vs (k + 1) = (frameAt (a.put (some d0) v0) lf.toArray sp vs k).put o.dst (s.val (vs k)) := fun s vs => by
          show (frameAt (a.put (some d0) v0) lf.toArray (fun j => if j = k then s else sp j) vs k).put (dstAt lf.toArray k) (Sp.val (if k = k then s else sp k) (vs k)) = _
          rw [if_pos rfl, hd, frameAt_congr k (fun j hj => if_neg (by omega))]
        have hfc : ∀ (s : Sp), factsAt (fun j => if j = k then s else sp j) (k + 1) = match s with | .det _ => factsAt sp k | .rel R => (k, R) :: factsAt sp k := fun s => by
          show (match (if k = k then s else sp k) with | .det _ => factsAt (fun j => if j = k then s else sp j) k | .rel R => (k, R) :: factsAt (fun j => if j = k then s else sp j) k) = _
          rw [if_pos rfl, factsAt_congr k (fun j hj => if_neg (by omega))]
        rcases hv with ⟨v, hrun, hrest⟩ | ⟨R, hne, hst, hrun, hrest⟩
        · refine key (.det v) (fun u w w' hu _ => hu) (fun R h => by cases h) hrun ?_
          rw [hfc, funext (hfr (.det v))]; exact hrest
        · refine key (.rel R) hst (fun _ _ => hne) hrun ?_
          rw [hfc, funext (hfr (.rel R))]; exact hrest
    have hone : (fun vs => frameAt (a.put (some d0) v0) lf.toArray (fun _ => Sp.det v0) vs 1) = fun _ => a.put (some d0) v0 := by
      funext vs
      show (a.put (some d0) v0).put (dstAt lf.toArray 0) v0 = _
      rw [hd0, hput]
    obtain ⟨sp', h1, h2, h3⟩ := gen l 1 (fun _ => .det v0) (Nat.le_refl 1) rfl (fun j => hget j) (by omega) (by rw [hone]; exact h)
    exact ⟨sp', h1 0 (by omega), fun j o hj hjn ho => h2 j o hj hjn ho, h3⟩
  obtain ⟨sp', hs0, h2, h3⟩ := hgath
  have hL : ∀ j, ((Array.replicate lf.length false).setIfInBounds 0 true).getD j false = true ↔ j = 0 := fun j => by
    rw [get_set (by simp; omega)]
    constructor
    · rintro (h | h)
      · exact h
      · exfalso
        by_cases hlt : j < lf.length <;> simp [hlt] at h
    · exact .inl
  refine any_order_tail (n := n) (v0 := v0) (a0 := a.put (some d0) v0) (by simpa using hnl) hs0 (fun i hi hi0 => ?_) (fun t ht hts => ?_) (by rw [put_size]; exact hok) hG (fun j o hj hjn ho => h2 j o hj hjn (by simpa using ho)) (fun e a' w' hd hx => hX e a' w' (by rw [hd, put_defers']) hx)
    (fun vs w' hw hf => by have := h3 vs w' hw hf; rw [← htl] at this; simpa using this) fuel _ _ w ⟨h0, rfl, rfl, by simp, fun j d hj hd => ?_, fun t ht => rfl, fun j o hj ho e he hb => ?_⟩ ((hL 0).2 rfl) ?_ ?_
  · have h1 := List.all_eq_true.1 hsink i (List.mem_range.2 hi)
    rw [Bool.or_eq_true] at h1
    rcases h1 with h1 | h1
    · exact absurd (by simpa using h1) hi0
    · obtain ⟨j, hj, hj2⟩ := List.any_eq_true.1 h1
      simp only [Bool.and_eq_true, decide_eq_true_eq] at hj2
      exact ⟨j, hj2.1, by have := List.mem_range.1 hj; omega, waits_of hj2.2⟩
  · have h1 := List.all_eq_true.1 hchain t (List.mem_range.2 hts)
    rw [Bool.or_eq_true] at h1
    rcases h1 with h1 | h1
    · exact absurd (by simpa using h1) (by omega)
    · exact waits_of h1
  · have hj0 := (hL j).1 hj
    subst hj0
    rw [hd0] at hd; cases hd
    refine ⟨v0, put_get_at hsz, ?_⟩
    rw [hs0]; exact rfl
  · have hj0 := (hL j).1 hj
    subst hj0
    exfalso
    have ho' : lf[0]? = some o := by simpa using ho
    rw [ho'] at hno
    simp only [Option.map_some, Option.getD_some] at hno
    have := Array.all_eq_true'.1 hno e he
    rw [hb] at this; simp at this
  · cases hc : ((Array.replicate lf.length false).setIfInBounds 0 true).getD n false with
    | false => rfl
    | true => have := (hL n).1 hc; omega
  · have h1 : (Array.replicate lf.length false).toList[0]? = some false := by
      rw [Array.toList_replicate, List.getElem?_replicate, if_pos (by omega)]
    have := filter_set _ 0 h1
    rw [Array.toList_setIfInBounds]
    have h2 := List.length_filter_le (! ·) (Array.replicate lf.length false).toList
    have h3 : (Array.replicate lf.length false).toList.length = lf.length := by simp
    omega

end
end RegP
end Go.Proofs.YtcfbcffmlinlaaaDoor

namespace Go.Proofs.YtcfbcffmlinlaaaDoor
open Go.RowKit

def cLine (W : List UInt8) (a : Option Addr) (n c : Nat) : Value := .agg #[.string (St W), .slice a n c, .bool true]

set_option maxRecDepth 100000 in
set_option maxHeartbeats 4000000 in
theorem rtake_O (w : World) (B R : Nat) (r : Pl.St) (b off c : Nat) (x0 x1 x2 : Int) (h : IsRPl w B R r) (hB : B ≤ w.heap.size)
    (c0 : w.cell? ⟨b, off, none⟩ = some (.int .u64 x0)) (c1 : w.cell? ⟨b, off + 1, none⟩ = some (.int .u64 x1)) (c2 : w.cell? ⟨b, off + 2, none⟩ = some (.int .u64 x2))
    (g0 : 0 ≤ x0) (g1 : 0 ≤ x1) (g2 : 0 ≤ x2) (hx0 : x0 ≤ 255) (hx1 : x1 ≤ 65535) (hx2 : x2 ≤ 65535) (hs8 : r.s.specs.length < 8) :
    Calls Tryd.prog 30 #[.pointer (some ⟨R, 0, none⟩), .agg #[.string (St [111, 98, 106, 101, 99, 116]), .slice (some ⟨b, off, none⟩) 3 c, .bool true]] w
      (fun e w' => e = .returned (.tuple #[]) ∧ BB B R w w' ∧ IsRPl w' B R ⟨⟨r.s.n, r.s.specs ++ [⟨x0, x1, x2⟩], r.s.calls, r.s.picks⟩, r.part, r.last⟩) := by
  obtain ⟨sa, ca, pa, h⟩ := h
  obtain ⟨va, vc, rfl, -⟩ := own_slice h.specs
  have HE0 := (Ext.refl w).alloc (.cells #[.string (St [111, 98, 106, 101, 99, 116]), .slice (some ⟨b, off, none⟩) 3 c, .bool true] 78)
  have H := Lib.hid (h.x.ext HE0)
  have hb := Blk.new w #[.string (St [111, 98, 106, 101, 99, 116]), .slice (some ⟨b, off, none⟩) 3 c, .bool true] 78
  replace c0 := HE0.cell c0
  replace c1 := HE0.cell c1
  replace c2 := HE0.cell c2
  have HE := Lib.hid HE0
  clear HE0 h
  have g0 := Lib.hid g0
  have g1 := Lib.hid g1
  have g2 := Lib.hid g2
  go_enter Tryd.func30, Tryd.ntmps30
  go_upto_region 1 with (fail)
  generalize w.alloc (.cells #[.string (St [111, 98, 106, 101, 99, 116]), .slice (some ⟨b, off, none⟩) 3 c, .bool true] 78) = W0 at *
  have q0 := hb.cell 0 (v := .string (St [111, 98, 106, 101, 99, 116])) rfl
  have q1 := hb.cell 1 (v := .slice (some ⟨b, off, none⟩) 3 c) rfl
  clear hb
  have HBw : Hid (B ≤ W0.heap.size) := Lib.hid (Nat.le_trans hB HE.out.size)
  go_wp2_with fail
  clear q0 q1
  have d0 := fun w' (hw : Ext W0 w') => hw.cell c0
  have d1 := fun w' (hw : Ext W0 w') => hw.cell c1
  have d2 := fun w' (hw : Ext W0 w') => hw.cell c2
  have dR := fun w' (hw : Ext W0 w') => (H.out.ext hw).here.cell 1 (v := .slice va r.s.specs.length vc) rfl
  have HBo := Lib.hid hB
  clear c0 c1 c2 hB
  replace g0 := g0.out
  replace g1 := g1.out
  replace g2 := g2.out
  refine wp_region_any (by kernel_rfl) ?_
  refine wpAny_take (i := 0) (v := .pointer (some ⟨R, 0, none⟩)) rfl (by kernel_rfl) (by kernel_rfl) (by kernel_rfl) (fun _ _ _ h => h) (Or.inl ⟨by rfl, by intro w; go_simp⟩) ?_
  refine RegP.wpAny_tail 20 _ _ 56 (.pointer (some ⟨R, 0, none⟩)) rfl rfl (by decide) (by decide) rfl (by show 56 < 118; decide) [] Ext (fun _ _ => False) (by kernel_rfl) (by kernel_rfl) (by kernel_rfl) (by kernel_rfl) (fun _ _ _ => Ext.trans) (Ext.refl _).drew (by decide) (fun _ _ _ _ h => h.elim) ?_
  repeat (refine RegP.step_det ?_; apply Exists.intro; refine And.intro ?_ ?_; (focus (intro vs w' hw hf; go_wp2_with fail; exact RegP.post_at rfl (Ext.refl _) rfl)); intro A' hA'; simp only [Act.put, List.setIfInBounds_toArray, List.set_cons_zero, List.set_cons_succ] at hA'; have e := funext hA'; subst e; clear hA')
  refine RegP.step_rel (fun v w2 => ∃ k, v = .slice (some ⟨k, 0, none⟩) 1 1 ∧ W0.heap.size ≤ k ∧ Blk w2 k #[.int .i64 x0, .int .i64 x1, .int .i64 x2] 59) (by simp) (fun v a b ⟨k, e, h1, h2⟩ hx => ⟨k, e, h1, h2.ext hx⟩) ?_ ?_
  focus
    intro vs w' hw hf
    go_wp2_with fail
    exact RegP.post_rel_at _ rfl ((Ext.refl _).alloc _) rfl ⟨w'.heap.size, rfl, hw.size, Blk.new _ _ _⟩
  intro A' hA'; simp only [Act.put, List.setIfInBounds_toArray, List.set_cons_zero, List.set_cons_succ] at hA'; have e := funext hA'; subst e; clear hA'
  intro vs w' hw hf
  obtain ⟨k, hv, hk, hb⟩ := hf (19, fun v w2 => ∃ k, v = .slice (some ⟨k, 0, none⟩) 1 1 ∧ W0.heap.size ≤ k ∧ Blk w2 k #[.int .i64 x0, .int .i64 x1, .int .i64 x2] 59) (by simp)
  clear hf d0 d1 d2 dR
  have hv : vs 19 = .slice (some ⟨k, 0, none⟩) 1 1 := hv
  simp only [Nat.reduceAdd, hv]
  clear hv
  have HR2 := Lib.hid (H.out.ext hw)
  have HW := Lib.hid hw
  have HB := Lib.hid hb
  have hbb : B ≤ w'.heap.size := Nat.le_trans HBw.out hw.size
  clear hw hb hk H
  refine wpList_appS rfl (.tmp 61) (.tmp 75) 22 rfl B 59 _ 3 24 Tryd.underlying22 Tryd.infoSpec rfl (by decide) (.slice va r.s.specs.length vc) r.s.specs.length (r.s.specs.flatMap spcCells) (spcCells ⟨x0, x1, x2⟩) k rfl HR2.out.specs rfl rfl ?_ (spcCells_one _) ?_ ?_ ?_ ?_
  · intro j' hj'
    rcases (show j' = 0 ∨ j' = 1 ∨ j' = 2 by omega) with rfl | rfl | rfl
    · exact HB.out.cell 0 rfl
    · exact HB.out.cell 1 rfl
    · exact HB.out.cell 2 rfl
  · unfold maxLen; omega
  · omega
  · exact hbb
  intro v' w4 ho4 hg4 hb4
  obtain ⟨sa', cap', rfl, -⟩ := own_slice ho4
  obtain ⟨hb4', hp4⟩ := HR2.out.app_specs ⟨x0, x1, x2⟩ hg4 ho4
  have k2 := hb4'.fz 1
  have k3 := hb4'.lt
  have k1 := hb4'.cell 1 (v := .slice va r.s.specs.length vc) rfl
  have HP4 := Lib.hid hp4
  have HB4 := Lib.hid (BB.of (R := R) hb4)
  clear hb4' hp4 ho4 hg4 hb4 HB HR2
  go_wp2_with fail
  go_end0
  exact ⟨rfl, ((BB.ext HE.out HBo.out).trans (BB.ext HW.out HBw.out)).trans (HB4.out.trans (BB.set _ _)), HP4.out.pl rfl rfl rfl⟩

set_option maxRecDepth 100000 in
set_option maxHeartbeats 4000000 in
theorem rtake_C (w : World) (B R : Nat) (r : Pl.St) (b off c : Nat) (x0 x1 x2 x3 x4 x5 : Int) (h : IsRPl w B R r) (hB : B ≤ w.heap.size)
    (c0 : w.cell? ⟨b, off, none⟩ = some (.int .u64 x0)) (c1 : w.cell? ⟨b, off + 1, none⟩ = some (.int .u64 x1)) (c2 : w.cell? ⟨b, off + 2, none⟩ = some (.int .u64 x2)) (c3 : w.cell? ⟨b, off + 3, none⟩ = some (.int .u64 x3)) (c4 : w.cell? ⟨b, off + 4, none⟩ = some (.int .u64 x4)) (c5 : w.cell? ⟨b, off + 5, none⟩ = some (.int .u64 x5))
    (g0 : 0 ≤ x0) (g1 : 0 ≤ x1) (g2 : 0 ≤ x2) (hx0 : x0 ≤ 255) (hx1 : x1 ≤ 255) (hx2 : x2 ≤ 255) (hs8 : r.s.calls.length < 1000) (hp3 : r.part ≠ 3) :
    Calls Tryd.prog 30 #[.pointer (some ⟨R, 0, none⟩), .agg #[.string (St [99, 97, 108, 108]), .slice (some ⟨b, off, none⟩) 6 c, .bool true]] w
      (fun e w' => e = .returned (.tuple #[]) ∧ BB B R w w' ∧ IsRPl w' B R ⟨⟨r.s.n, r.s.specs, r.s.calls ++ [⟨x0, x1, x2, x3, x4, x5⟩], r.s.picks⟩, 2, r.last⟩) := by
  have HFU : Hid (fullOf r = false) := Lib.hid (by unfold fullOf; simp [hp3])
  clear hp3
  obtain ⟨sa, ca, pa, h⟩ := h
  obtain ⟨va, vc, rfl, -⟩ := own_slice h.calls
  have HE0 := (Ext.refl w).alloc (.cells #[.string (St [99, 97, 108, 108]), .slice (some ⟨b, off, none⟩) 6 c, .bool true] 78)
  have H := Lib.hid (h.x.ext HE0)
  have hb := Blk.new w #[.string (St [99, 97, 108, 108]), .slice (some ⟨b, off, none⟩) 6 c, .bool true] 78
  replace c0 := HE0.cell c0
  replace c1 := HE0.cell c1
  replace c2 := HE0.cell c2
  replace c3 := HE0.cell c3
  replace c4 := HE0.cell c4
  replace c5 := HE0.cell c5
  have HE := Lib.hid HE0
  clear HE0 h
  have g0 := Lib.hid g0
  have g1 := Lib.hid g1
  have g2 := Lib.hid g2
  go_enter Tryd.func30, Tryd.ntmps30
  go_upto_region 1 with (fail)
  generalize w.alloc (.cells #[.string (St [99, 97, 108, 108]), .slice (some ⟨b, off, none⟩) 6 c, .bool true] 78) = W0 at *
  have q0 := hb.cell 0 (v := .string (St [99, 97, 108, 108])) rfl
  have q1 := hb.cell 1 (v := .slice (some ⟨b, off, none⟩) 6 c) rfl
  clear hb
  have HBw : Hid (B ≤ W0.heap.size) := Lib.hid (Nat.le_trans hB HE.out.size)
  go_wp2_with fail
  clear q0 q1
  have d0 := fun w' (hw : Ext W0 w') => hw.cell c0
  have d1 := fun w' (hw : Ext W0 w') => hw.cell c1
  have d2 := fun w' (hw : Ext W0 w') => hw.cell c2
  have d3 := fun w' (hw : Ext W0 w') => hw.cell c3
  have d4 := fun w' (hw : Ext W0 w') => hw.cell c4
  have d5 := fun w' (hw : Ext W0 w') => hw.cell c5
  have dR := fun w' (hw : Ext W0 w') => (H.out.ext hw).here.cell 2 (v := .slice va r.s.calls.length vc) rfl
  have HBo := Lib.hid hB
  clear c0 c1 c2 c3 c4 c5 hB
  replace g0 := g0.out
  replace g1 := g1.out
  replace g2 := g2.out
  refine wp_region_any (by kernel_rfl) ?_
  refine wpAny_take (i := 0) (v := .pointer (some ⟨R, 0, none⟩)) rfl (by kernel_rfl) (by kernel_rfl) (by kernel_rfl) (fun _ _ _ h => h) (Or.inl ⟨by rfl, by intro w; go_simp⟩) ?_
  refine RegP.wpAny_tail 29 _ _ 82 (.pointer (some ⟨R, 0, none⟩)) rfl rfl (by decide) (by decide) rfl (by show 82 < 118; decide) [] Ext (fun _ _ => False) (by kernel_rfl) (by kernel_rfl) (by kernel_rfl) (by kernel_rfl) (fun _ _ _ => Ext.trans) (Ext.refl _).drew (by decide) (fun _ _ _ _ h => h.elim) ?_
  repeat (refine RegP.step_det ?_; apply Exists.intro; refine And.intro ?_ ?_; (focus (intro vs w' hw hf; go_wp2_with fail; exact RegP.post_at rfl (Ext.refl _) rfl)); intro A' hA'; simp only [Act.put, List.setIfInBounds_toArray, List.set_cons_zero, List.set_cons_succ] at hA'; have e := funext hA'; subst e; clear hA')
  refine RegP.step_rel (fun v w2 => ∃ k, v = .slice (some ⟨k, 0, none⟩) 1 1 ∧ W0.heap.size ≤ k ∧ Blk w2 k #[.int .i64 x0, .int .i64 x1, .int .i64 x2, .int .u64 x3, .int .u64 x4, .int .u64 x5] 49) (by simp) (fun v a b ⟨k, e, h1, h2⟩ hx => ⟨k, e, h1, h2.ext hx⟩) ?_ ?_
  focus
    intro vs w' hw hf
    go_wp2_with fail
    exact RegP.post_rel_at _ rfl ((Ext.refl _).alloc _) rfl ⟨w'.heap.size, rfl, hw.size, Blk.new _ _ _⟩
  intro A' hA'; simp only [Act.put, List.setIfInBounds_toArray, List.set_cons_zero, List.set_cons_succ] at hA'; have e := funext hA'; subst e; clear hA'
  intro vs w' hw hf
  obtain ⟨k, hv, hk, hb⟩ := hf (28, fun v w2 => ∃ k, v = .slice (some ⟨k, 0, none⟩) 1 1 ∧ W0.heap.size ≤ k ∧ Blk w2 k #[.int .i64 x0, .int .i64 x1, .int .i64 x2, .int .u64 x3, .int .u64 x4, .int .u64 x5] 49) (by simp)
  clear hf d0 d1 d2 d3 d4 d5 dR
  have hv : vs 28 = .slice (some ⟨k, 0, none⟩) 1 1 := hv
  simp only [Nat.reduceAdd, hv]
  clear hv
  have HR2 := Lib.hid (H.out.ext hw)
  have HW := Lib.hid hw
  have HB := Lib.hid hb
  have hbb : B ≤ w'.heap.size := Nat.le_trans HBw.out hw.size
  clear hw hb hk H
  refine wpList_appS rfl (.tmp 87) (.tmp 110) 23 rfl B 49 _ 6 48 Tryd.underlying23 Tryd.infoCall rfl (by decide) (.slice va r.s.calls.length vc) r.s.calls.length (r.s.calls.flatMap cllCells) (cllCells ⟨x0, x1, x2, x3, x4, x5⟩) k rfl HR2.out.calls rfl rfl ?_ (cllCells_one _) ?_ ?_ ?_ ?_
  · intro j' hj'
    rcases (show j' = 0 ∨ j' = 1 ∨ j' = 2 ∨ j' = 3 ∨ j' = 4 ∨ j' = 5 by omega) with rfl | rfl | rfl | rfl | rfl | rfl
    · exact HB.out.cell 0 rfl
    · exact HB.out.cell 1 rfl
    · exact HB.out.cell 2 rfl
    · exact HB.out.cell 3 rfl
    · exact HB.out.cell 4 rfl
    · exact HB.out.cell 5 rfl
  · unfold maxLen; omega
  · omega
  · exact hbb
  intro v' w4 ho4 hg4 hb4
  obtain ⟨sa', cap', rfl, -⟩ := own_slice ho4
  obtain ⟨hb4', hp4⟩ := HR2.out.app_calls ⟨x0, x1, x2, x3, x4, x5⟩ hg4 ho4
  have k2 := hb4'.fz 2
  have k3 := hb4'.lt
  have k1 := hb4'.cell 2 (v := .slice va r.s.calls.length vc) rfl
  have HP4 := Lib.hid hp4
  have HB4 := Lib.hid (BB.of (R := R) hb4)
  clear hb4' hp4 ho4 hg4 hb4 HB HR2
  go_upto_region 17 with (fail)
  have HB5 := Lib.hid (HB4.out.trans (BB.set (i := 2) w4 (.slice sa' (r.s.calls.length + 1) cap')))
  clear k1 k2 k3 HB4
  generalize w4.setCell ⟨R, 2, none⟩ (.slice sa' (r.s.calls.length + 1) cap') = W5 at *
  have k1 := HP4.out.here.cell 4 (v := .int .i64 r.part) rfl
  have k2 := HP4.out.here.fz 4
  have k3 := HP4.out.here.lt
  go_wp2_with fail
  go_end0
  exact ⟨rfl, ((BB.ext HE.out HBo.out).trans (BB.ext HW.out HBw.out)).trans (HB5.out.trans (BB.set _ _)), (HP4.out.set_part 2).pl rfl rfl (by rw [HFU.out]; rfl)⟩

set_option maxRecDepth 100000 in
set_option maxHeartbeats 4000000 in
theorem rtake_T (w : World) (B R : Nat) (r : Pl.St) (b off c : Nat) (x0 : Int) (h : IsRPl w B R r) (hB : B ≤ w.heap.size)
    (c0 : w.cell? ⟨b, off, none⟩ = some (.int .u64 x0)) (g0 : 0 ≤ x0) (hx0 : x0 ≤ 255) (hp3 : r.part = 0) :
    Calls Tryd.prog 30 #[.pointer (some ⟨R, 0, none⟩), .agg #[.string (St [116, 104, 114, 101, 97, 100, 115]), .slice (some ⟨b, off, none⟩) 1 c, .bool true]] w
      (fun e w' => e = .returned (.tuple #[]) ∧ BB B R w w' ∧ IsRPl w' B R ⟨⟨x0, r.s.specs, r.s.calls, r.s.picks⟩, 1, r.last⟩) := by
  have HFU : Hid (fullOf r = false) := Lib.hid (by unfold fullOf; simp [hp3])
  clear hp3
  obtain ⟨sa, ca, pa, h⟩ := h
  have HE0 := (Ext.refl w).alloc (.cells #[.string (St [116, 104, 114, 101, 97, 100, 115]), .slice (some ⟨b, off, none⟩) 1 c, .bool true] 78)
  have H := Lib.hid (h.x.ext HE0)
  have hb := Blk.new w #[.string (St [116, 104, 114, 101, 97, 100, 115]), .slice (some ⟨b, off, none⟩) 1 c, .bool true] 78
  replace c0 := HE0.cell c0
  have HE := Lib.hid HE0
  have HBo := Lib.hid hB
  clear HE0 h hB
  go_enter Tryd.func30, Tryd.ntmps30
  go_upto_region 1 with (fail)
  generalize w.alloc (.cells #[.string (St [116, 104, 114, 101, 97, 100, 115]), .slice (some ⟨b, off, none⟩) 1 c, .bool true] 78) = W0 at *
  have q0 := hb.cell 0 (v := .string (St [116, 104, 114, 101, 97, 100, 115])) rfl
  have q1 := hb.cell 1 (v := .slice (some ⟨b, off, none⟩) 1 c) rfl
  clear hb
  have k1 := H.out.here.cell 0 (v := .int .i64 r.s.n) rfl
  have k2 := H.out.here.fz 0
  have k3 := H.out.here.lt
  go_upto_region 12 with (fail)
  have HP := Lib.hid (H.out.set_n x0)
  have HB1 := Lib.hid (BB.set (B := B) (R := R) (i := 0) W0 (.int .i64 x0))
  clear q0 q1 k1 k2 k3 c0
  generalize W0.setCell ⟨R, 0, none⟩ (.int .i64 x0) = W1 at *
  have k1 := HP.out.here.cell 4 (v := .int .i64 r.part) rfl
  have k2 := HP.out.here.fz 4
  have k3 := HP.out.here.lt
  go_wp2_with fail
  go_end0
  exact ⟨rfl, (BB.ext HE.out HBo.out).trans (HB1.out.trans (BB.set _ _)), (HP.out.set_part 1).pl rfl rfl (by rw [HFU.out]; rfl)⟩

set_option maxRecDepth 100000 in
set_option maxHeartbeats 4000000 in
theorem rtake_P (w : World) (B R : Nat) (r : Pl.St) (a : Option Addr) (c : Nat) (l : List Int) (B' : Nat) (h : IsRPl w B R r) (hB : B ≤ w.heap.size) (hl1 : 1 ≤ l.length) (hl : l.length ≤ 16)
    (ho : w.ownsRow B' 47 1 (.slice a l.length c) l.length (l.map (Value.int .u64))) (hg : ∀ x ∈ l, 0 ≤ x ∧ x ≤ 255) (hs8 : r.s.picks.length + l.length ≤ 65536) :
    Calls Tryd.prog 30 #[.pointer (some ⟨R, 0, none⟩), .agg #[.string (St [112, 105, 99, 107, 115]), .slice a l.length c, .bool true]] w
      (fun e w' => e = .returned (.tuple #[]) ∧ BB B R w w' ∧ IsRPl w' B R ⟨⟨r.s.n, r.s.specs, r.s.calls, r.s.picks ++ l⟩, 3, decide (l.length < 16)⟩) := by
  have HG := Lib.hid hg
  have HFU : Hid (decide ((l.length : Int) = 16) = fullOf ⟨⟨r.s.n, r.s.specs, r.s.calls, r.s.picks ++ l⟩, 3, decide (l.length < 16)⟩) := Lib.hid (by
    show _ = (true && !decide (l.length < 16))
    rw [Bool.true_and, ← decide_not, decide_eq_decide]
    omega)
  obtain ⟨sa, ca, pa, h⟩ := h
  have HE0 := (Ext.refl w).alloc (.cells #[.string (St [112, 105, 99, 107, 115]), .slice a l.length c, .bool true] 78)
  have H := Lib.hid (h.x.ext HE0)
  have HO := Lib.hid (own_ext ho HE0)
  have hb := Blk.new w #[.string (St [112, 105, 99, 107, 115]), .slice a l.length c, .bool true] 78
  have HE := Lib.hid HE0
  have HBo := Lib.hid hB
  have HBw : Hid (B ≤ (w.alloc (.cells #[.string (St [112, 105, 99, 107, 115]), .slice a l.length c, .bool true] 78)).heap.size) := Lib.hid (Nat.le_trans hB HE.out.size)
  clear HE0 h ho hB hg
  go_enter Tryd.func30, Tryd.ntmps30
  go_upto_region 1 with (fail)
  generalize w.alloc (.cells #[.string (St [112, 105, 99, 107, 115]), .slice a l.length c, .bool true] 78) = W0 at *
  have q0 := hb.cell 0 (v := .string (St [112, 105, 99, 107, 115])) rfl
  have q1 := hb.cell 1 (v := .slice a l.length c) rfl
  clear hb
  go_wp2_with fail
  clear q0 q1
  go_loopw [12] (fun u wr => ∃ i : Nat, i ≤ l.length ∧ u = .int .i64 (i : Int) ∧ Hid (BB B R W0 wr) ∧ Hid (wr.ownsRow B' 47 1 (.slice a l.length c) l.length (l.map (Value.int .u64))) ∧ Hid (∃ pa', RPx wr B R ⟨r.s.n, r.s.specs, r.s.calls, r.s.picks ++ l.take i⟩ r.part (fullOf r) sa ca pa')) (fun u _ => l.length - (intOf u).toNat)
  case atStart => exact ⟨0, Nat.zero_le _, rfl, Lib.hid (BB.ext (Ext.refl _) HBw.out), HO, Lib.hid ⟨pa, by rw [List.take_zero, List.append_nil]; exact H.out⟩⟩
  case round =>
    obtain ⟨i, hil, rfl, HB1, HO1, HR1⟩ := hrel
    clear H HO
    obtain ⟨pa', hr1⟩ := HR1.out
    clear HR1
    have htl : (r.s.picks ++ l.take i).length = r.s.picks.length + i := by rw [List.length_append, List.length_take]; omega
    by_cases hlt : i < l.length
    · obtain ⟨va, vc, e1, -⟩ := own_slice hr1.picks
      subst e1
      obtain ⟨a', c', e1, -, -, hin, -⟩ := IsInts.ownK HO1.out
      simp only [Value.slice.injEq] at e1
      obtain ⟨rfl, -, rfl⟩ := e1
      obtain ⟨b, off, rfl, e1⟩ := hin.at hlt
      clear hin
      obtain ⟨x0, x1⟩ := HG.out _ (nth_mem l i hlt)
      have HS := Lib.hid (take_snoc l i hlt)
      generalize nth l i = x at *
      have HR1 := Lib.hid hr1
      clear hr1
      simp only [htl] at HR1
      go_wp2_with fail
      have d1 := fun w' (hw : Ext wr w') => hw.cell e1
      have dR := fun w' (hw : Ext wr w') => (HR1.out.ext hw).here.cell 3 (v := .slice va (r.s.picks.length + i) vc) rfl
      clear e1
      refine wp_region_any (by kernel_rfl) ?_
      refine wpAny_take (i := 0) (v := .pointer (some ⟨R, 0, none⟩)) rfl (by kernel_rfl) (by kernel_rfl) (by kernel_rfl) (fun _ _ _ h => h) (Or.inl ⟨by rfl, by intro w; go_simp⟩) ?_
      refine RegP.wpAny_tail 12 _ _ 15 (.pointer (some ⟨R, 0, none⟩)) rfl rfl (by decide) (by decide) rfl (by show 15 < 118; decide) [] Ext (fun _ _ => False) (by kernel_rfl) (by kernel_rfl) (by kernel_rfl) (by kernel_rfl) (fun _ _ _ => Ext.trans) (Ext.refl _).drew (by decide) (fun _ _ _ _ h => h.elim) ?_
      repeat (refine RegP.step_det ?_; apply Exists.intro; refine And.intro ?_ ?_; (focus (intro vs w' hw hf; go_wp2_with fail; exact RegP.post_at rfl (Ext.refl _) rfl)); intro A' hA'; simp only [Act.put, List.setIfInBounds_toArray, List.set_cons_zero, List.set_cons_succ] at hA'; have e := funext hA'; subst e; clear hA')
      refine RegP.step_rel (fun v w2 => ∃ k, v = .slice (some ⟨k, 0, none⟩) 1 1 ∧ wr.heap.size ≤ k ∧ Blk w2 k #[.int .i64 x] 3) (by simp) (fun v a b ⟨k, e, h1, h2⟩ hx => ⟨k, e, h1, h2.ext hx⟩) ?_ ?_
      focus
        intro vs w' hw hf
        go_wp2_with fail
        exact RegP.post_rel_at _ rfl ((Ext.refl _).alloc _) rfl ⟨w'.heap.size, rfl, hw.size, Blk.new _ _ _⟩
      intro A' hA'; simp only [Act.put, List.setIfInBounds_toArray, List.set_cons_zero, List.set_cons_succ] at hA'; have e := funext hA'; subst e; clear hA'
      intro vs w' hw hf
      obtain ⟨k, hv, hk, hb⟩ := hf (11, fun v w2 => ∃ k, v = .slice (some ⟨k, 0, none⟩) 1 1 ∧ wr.heap.size ≤ k ∧ Blk w2 k #[.int .i64 x] 3) (by simp)
      clear hf d1 dR
      have hv : vs 11 = .slice (some ⟨k, 0, none⟩) 1 1 := hv
      simp only [Nat.reduceAdd, hv]
      clear hv
      have HR2 := Lib.hid (HR1.out.ext hw)
      have HO2 := Lib.hid (own_ext HO1.out hw)
      have HW := Lib.hid hw
      have hbr : B ≤ wr.heap.size := Nat.le_trans HBw.out HB1.out.2.2.2.1
      have HBR := Lib.hid hbr
      have hbb : B ≤ w'.heap.size := Nat.le_trans hbr hw.size
      clear hw hk
      have hpl := HR2.out.picks
      simp only [htl] at hpl
      refine wpList_app1 rfl (.tmp 20) (.tmp 26) 24 rfl B 3 _ 8 Tryd.underlying24 Tryd.infoInt rfl (.slice va (r.s.picks.length + i) vc) (r.s.picks.length + i) ((r.s.picks ++ l.take i).map (Value.int .i64)) (.int .i64 x) k rfl hpl rfl (hb.cell 0 rfl) rfl ?_ ?_ ?_ ?_
      · unfold maxLen; omega
      · omega
      · exact hbb
      intro v' w4 ho4 hg4 hb4
      obtain ⟨sa', cap', rfl, -⟩ := own_slice ho4
      have HO4 := Lib.hid (own_grown HO2.out hpl (by decide) hg4)
      obtain ⟨hb4', hp4⟩ := HR2.out.app_pick x hg4 (by simp only [htl]; exact ho4)
      have k2 := hb4'.fz 3
      have k3 := hb4'.lt
      have k1 := hb4'.cell 3 (v := .slice va (r.s.picks.length + i) vc) rfl
      have HO5 := Lib.hid (own_set_ne HO4.out (own_ne HO4.out hb4' (by decide)) (i := 3) (.slice sa' (r.s.picks.length + i + 1) cap'))
      have HP4 := Lib.hid hp4
      have HB4 := Lib.hid (BB.of (R := R) hb4)
      clear hb4' hp4 ho4 hg4 hb4 hb HR2 HO4 HO2 HO1 HR1 hpl
      go_wp2_with fail
      go_roundw
      case rel =>
        refine ⟨i + 1, by omega, by go_num, Lib.hid (HB1.out.trans ((BB.ext HW.out HBR.out).trans (HB4.out.trans (BB.set _ _)))), HO5, Lib.hid ⟨.slice sa' (r.s.picks.length + i + 1) cap', ?_⟩⟩
        rw [HS.out, ← List.append_assoc]
        exact HP4.out
      case measure => simp [intOf]; omega
    · obtain rfl : i = l.length := by omega
      rw [List.take_length] at hr1
      have HR1 := Lib.hid hr1
      clear hr1
      have k1 := HR1.out.here.cell 4 (v := .int .i64 r.part) rfl
      have k2 := HR1.out.here.fz 4
      have k3 := HR1.out.here.lt
      go_upto_region 9 with (fail)
      have HP := Lib.hid (HR1.out.set_part 3)
      have HB2 := Lib.hid (HB1.out.trans (BB.set (i := 4) wr (.int .i64 3)))
      clear k1 k2 k3 HR1 HO1
      generalize wr.setCell ⟨R, 4, none⟩ (.int .i64 3) = W1 at *
      have k1 := HP.out.here.cell 5 (v := .bool (fullOf r)) rfl
      have k2 := HP.out.here.fz 5
      have k3 := HP.out.here.lt
      go_wp2_with fail
      go_end0
      exact ⟨rfl, (BB.ext HE.out HBo.out).trans (HB2.out.trans (BB.set _ _)), (HP.out.set_full _).pl rfl rfl HFU.out.symm⟩

end Go.Proofs.YtcfbcffmlinlaaaDoor

namespace Go.Proofs.YtcfbcffmlinlaaaDoor
open Go.RowKit

theorem rtake_any (w : World) (B R : Nat) (r : Pl.St) (wd : List UInt8) (a : Option Addr) (c : Nat) (l : List Int) (B' : Nat) (h : IsRPl w B R r) (hok : Rok r) (hla : Rlast r) (hB : B ≤ w.heap.size)
    (ho : w.ownsRow B' 47 1 (.slice a l.length c) l.length (l.map (Value.int .u64))) (hg : ∀ x ∈ l, 0 ≤ x ∧ x ≤ 18446744073709551615) (h0 : (Pl.takeL r wd l).1 = 0) :
    Calls Tryd.prog 30 #[.pointer (some ⟨R, 0, none⟩), .agg #[.string (St wd), .slice a l.length c, .bool true]] w
      (fun e w' => e = .returned (.tuple #[]) ∧ BB B R w w' ∧ IsRPl w' B R (Pl.takeL r wd l).2) := by
  have hi : IsInts .u64 w a l := by
    obtain ⟨a', c', e1, -, -, hin, -⟩ := IsInts.ownK ho
    simp only [Value.slice.injEq] at e1
    obtain ⟨rfl, -, rfl⟩ := e1
    exact hin
  by_cases hT : wd = Pl.wT
  · subst hT
    by_cases hp : r.part = 0
    · by_cases hl : l.length = 1
      · rw [takeL_T hp hl] at h0 ⊢
        by_cases h1 : 1 ≤ nth l 0 ∧ nth l 0 ≤ 16
        · rw [if_pos h1]
          obtain ⟨b, off, rfl, k0⟩ := hi.at (i := 0) (by omega)
          rw [hl]
          exact rtake_T w B R r b off c _ h hB (by simpa using k0) (by omega) (by omega) hp
        · rw [if_neg h1] at h0; exact absurd h0 (by show ¬ (1 : Int) = 0; decide)
      · rw [takeL_no (fun g => hl g.2.2) (fun g => absurd g.1 (by decide)) (fun g => absurd g.1 (by decide)) (fun g => absurd g.1 (by decide))] at h0
        exact absurd h0 (by show ¬ (5 : Int) = 0; decide)
    · rw [takeL_no (fun g => hp g.2.1) (fun g => absurd g.1 (by decide)) (fun g => absurd g.1 (by decide)) (fun g => absurd g.1 (by decide))] at h0
      exact absurd h0 (by show ¬ (5 : Int) = 0; decide)
  by_cases hO : wd = Pl.wO
  · subst hO
    by_cases hpl : r.part = 1 ∧ l.length = 3
    · obtain ⟨hp, hl⟩ := hpl
      rw [takeL_O hp hl] at h0 ⊢
      unfold objT at h0 ⊢
      by_cases h1 : 255 < nth l 0 ∨ 65535 < nth l 1 ∨ 65535 < nth l 2
      · rw [if_pos h1] at h0; exact absurd h0 (by show ¬ (10 : Int) = 0; decide)
      rw [if_neg h1] at h0 ⊢
      by_cases h2 : 8 ≤ r.s.specs.length
      · rw [if_pos h2] at h0; exact absurd h0 (by show ¬ (3 : Int) = 0; decide)
      rw [if_neg h2]
      obtain ⟨b, off, rfl, k0⟩ := hi.at (i := 0) (by omega)
      obtain ⟨b', off', e1, k1⟩ := hi.at (i := 1) (by omega)
      obtain ⟨b'', off'', e2, k2⟩ := hi.at (i := 2) (by omega)
      simp only [Option.some.injEq, Addr.mk.injEq, and_true] at e1 e2
      obtain ⟨rfl, rfl⟩ := e1
      obtain ⟨rfl, rfl⟩ := e2
      have g0 := (hg _ (nth_mem l 0 (by omega))).1
      have g1 := (hg _ (nth_mem l 1 (by omega))).1
      have g2 := (hg _ (nth_mem l 2 (by omega))).1
      rw [hl]
      have := rtake_O w B R r b off c (nth l 0) (nth l 1) (nth l 2) h hB (by simpa using k0) k1 k2 g0 g1 g2 (by omega) (by omega) (by omega) (by omega)
      rw [hp] at this
      exact this
    · rw [takeL_no (fun g => absurd g.1 (by decide)) (fun g => hpl g.2) (fun g => absurd g.1 (by decide)) (fun g => absurd g.1 (by decide))] at h0
      exact absurd h0 (by show ¬ (5 : Int) = 0; decide)
  by_cases hC : wd = Pl.wC
  · subst hC
    by_cases hpl : (r.part = 1 ∨ r.part = 2) ∧ l.length = 6
    · obtain ⟨hp, hl⟩ := hpl
      have hn := hok.n (by omega)
      rw [takeL_C hp hl] at h0 ⊢
      unfold callTk at h0 ⊢
      by_cases h1 : r.s.n ≤ nth l 0 ∨ 255 < nth l 1 ∨ 255 < nth l 2
      · rw [if_pos h1] at h0; exact absurd h0 (by show ¬ (10 : Int) = 0; decide)
      rw [if_neg h1] at h0 ⊢
      by_cases h2 : 1000 ≤ r.s.calls.length
      · rw [if_pos h2] at h0; exact absurd h0 (by show ¬ (3 : Int) = 0; decide)
      rw [if_neg h2]
      obtain ⟨b, off, rfl, k0⟩ := hi.at (i := 0) (by omega)
      obtain ⟨b1, off1, e1, k1⟩ := hi.at (i := 1) (by omega)
      obtain ⟨b2, off2, e2, k2⟩ := hi.at (i := 2) (by omega)
      obtain ⟨b3, off3, e3, k3⟩ := hi.at (i := 3) (by omega)
      obtain ⟨b4, off4, e4, k4⟩ := hi.at (i := 4) (by omega)
      obtain ⟨b5, off5, e5, k5⟩ := hi.at (i := 5) (by omega)
      simp only [Option.some.injEq, Addr.mk.injEq, and_true] at e1 e2 e3 e4 e5
      obtain ⟨rfl, rfl⟩ := e1
      obtain ⟨rfl, rfl⟩ := e2
      obtain ⟨rfl, rfl⟩ := e3
      obtain ⟨rfl, rfl⟩ := e4
      obtain ⟨rfl, rfl⟩ := e5
      have g0 := (hg _ (nth_mem l 0 (by omega))).1
      have g1 := (hg _ (nth_mem l 1 (by omega))).1
      have g2 := (hg _ (nth_mem l 2 (by omega))).1
      rw [hl]
      exact rtake_C w B R r b off c (nth l 0) (nth l 1) (nth l 2) (nth l 3) (nth l 4) (nth l 5) h hB (by simpa using k0) k1 k2 k3 k4 k5 g0 g1 g2 (by omega) (by omega) (by omega) (by omega) (by omega)
    · rw [takeL_no (fun g => absurd g.1 (by decide)) (fun g => absurd g.1 (by decide)) (fun g => hpl g.2) (fun g => absurd g.1 (by decide))] at h0
      exact absurd h0 (by show ¬ (5 : Int) = 0; decide)
  by_cases hP : wd = Pl.wP
  · subst hP
    by_cases hpl : 0 < r.part ∧ r.last = false ∧ 1 ≤ l.length ∧ l.length ≤ 16
    · obtain ⟨hp, hs, h1, h2⟩ := hpl
      rw [takeL_P hp hs h1 h2] at h0 ⊢
      unfold picksTk at h0 ⊢
      by_cases hany : l.any (fun x => decide (255 < x)) = true
      · rw [if_pos hany] at h0; exact absurd h0 (by show ¬ (10 : Int) = 0; decide)
      rw [if_neg hany] at h0 ⊢
      by_cases hbig : 65536 < r.s.picks.length + l.length
      · rw [if_pos hbig] at h0; exact absurd h0 (by show ¬ (3 : Int) = 0; decide)
      rw [if_neg hbig]
      refine rtake_P w B R r a c l B' h hB h1 h2 ho (fun x hx => ⟨(hg x hx).1, ?_⟩) (by omega)
      have := mt (fun h => List.any_eq_true.2 ⟨x, hx, h⟩) hany
      simpa using this
    · rw [takeL_no (fun g => absurd g.1 (by decide)) (fun g => absurd g.1 (by decide)) (fun g => absurd g.1 (by decide)) (fun g => hpl g.2)] at h0
      exact absurd h0 (by show ¬ (5 : Int) = 0; decide)
  rw [takeL_no (fun g => hT g.1) (fun g => hO g.1) (fun g => hC g.1) (fun g => hP g.1)] at h0
  exact absurd h0 (by show ¬ (5 : Int) = 0; decide)

end Go.Proofs.YtcfbcffmlinlaaaDoor
