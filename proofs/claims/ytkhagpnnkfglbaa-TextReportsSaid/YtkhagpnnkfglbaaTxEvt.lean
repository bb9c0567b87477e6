/-
  text's lines of events and of calls.
-/
import Derived.Test.YtkhagpnnkfglbaaTxList
import Derived.Test.YtkhagpnnkfglbaaBlks
import Derived.Test.YtkhagpnnkfglbaaReg
namespace Go.Proofs.Ytkhagpnnkfglbaa
open Go.RowKit

/-- Where an event's two lists lie. -/
structure EvM where
  la : Option Addr
  lc : Nat
  ka : Option Addr
  kc : Nat

def evCells (e : Tx.Evt) (m : EvM) : Array Value := #[.int .i64 e.call, .int .i64 e.inv, .int .i64 e.resp, .int .i64 e.steps, .int .i64 e.err, .int .u64 e.val, .slice m.la e.list.length m.lc, .slice m.ka e.key.length m.kc]

structure EvAt (e : Tx.Evt) (m : EvM) (w : World) : Prop where
  list : IsInts .u64 w m.la e.list
  key : IsInts .i64 w m.ka e.key
theorem EvAt.ext {e : Tx.Evt} {m : EvM} {w w' : World} (h : EvAt e m w) (he : Ext w w') : EvAt e m w' := ⟨h.list.ext he, h.key.ext he⟩

/-- Its numbers are those of their types, its lists are not too long. -/
structure EvFit (e : Tx.Evt) : Prop where
  ok : e.ok
  ll : e.list.length ≤ 10000
  kl : e.key.length ≤ 10000

theorem join_words (ws : List (List UInt8)) : Lib.join ((ws.map St).map (·.data.toList)) (St [32]).data.toList = Tx.jn ws := by
  rw [List.map_map, St_list, ← lib_join]
  congr 1
  have : ((fun x : ByteArray => x.data.toList) ∘ St) = id := by funext x; exact St_list x
  rw [this, List.map_id]

/-- strings.Join of words that lie at the head of a block. -/
theorem join_any (ws : List (List UInt8)) (g c : Nat) (w : World) (hc : ∀ (i : Nat) x, ws[i]? = some x → w.cell? ⟨g, i, none⟩ = some (.string (St x))) (hg : g < w.heap.size) (hn : ws.length ≤ c) (h1 : ws.length ≤ 100000) (hl : (Tx.jn ws).length ≤ 1000000) :
    Calls Try.prog 17 #[.slice (some ⟨g, 0, none⟩) ws.length c, .string (St [32])] w fun e w' => e = .returned (.string (St (Tx.jn ws))) ∧ Ext w w' := by
  have h := Try.strings_Join g 0 c (ws.map St) (St [32]) w (fun i x hx => by
    rw [List.getElem?_map, Option.map_eq_some_iff] at hx
    obtain ⟨y, hy, rfl⟩ := hx
    rw [Nat.zero_add]
    exact hc i y hy) hg (by rw [List.length_map]; omega) (by rw [List.length_map]; omega) (by rw [join_words]; omega)
  rw [List.length_map, join_words] at h
  exact h

theorem listT_len (l : List Int) : (Tx.listT l).length ≤ 2 + 23 * l.length := by
  have := jnum_len l
  unfold Tx.listT
  simp only [List.length_cons, List.length_append, List.length_nil]
  omega

theorem evT_len (e : Tx.Evt) (h : EvFit e) : (Tx.evT e).length ≤ 500000 := by
  have h1 := h.ll
  have h2 := h.kl
  have a := listT_len e.list
  have b := listT_len e.key
  rw [Tx.evT_eq]
  have n1 := numT_len e.call
  have n2 := numT_len e.inv
  have n3 := numT_len e.resp
  have n4 := numT_len e.steps
  have n5 := numT_len e.err
  have n6 := numT_len e.val
  simp only [List.length_append, List.length_cons, List.length_nil]
  omega

/-- A new block of words. -/
def IsWords (ws : List (List UInt8)) (v : Value) (w : World) : Prop :=
  ∃ g, v = .slice (some ⟨g, 0, none⟩) ws.length ws.length ∧ g < w.heap.size ∧ ∀ (i : Nat) x, ws[i]? = some x → w.cell? ⟨g, i, none⟩ = some (.string (St x))
theorem IsWords.ext {ws : List (List UInt8)} {v : Value} {w w' : World} (h : IsWords ws v w) (he : Ext w w') : IsWords ws v w' := by
  obtain ⟨g, rfl, hg, hc⟩ := h
  exact ⟨g, rfl, Nat.lt_of_lt_of_le hg he.size, fun i x hx => he.cell (hc i x hx)⟩
theorem IsWords.new (ws : List (List UInt8)) (w : World) (cs : Array Value) (hcs : cs = (ws.map fun x => Value.string (St x)).toArray) : IsWords ws (.slice (some ⟨w.heap.size, 0, none⟩) ws.length ws.length) (w.alloc (.cells cs 9)) := by
  refine ⟨_, rfl, by simp, fun i x hx => ?_⟩
  rw [World.cell?_alloc_at _ _ _ _ rfl, hcs]
  simp [hx]

set_option maxRecDepth 100000 in
set_option maxHeartbeats 2000000 in
theorem tevent_any (e : Tx.Evt) (m : EvM) (w : World) (hf : EvFit e) (hm : EvAt e m w) :
    Calls Try.prog 8 #[.agg #[.int .i64 e.call, .int .i64 e.inv, .int .i64 e.resp, .int .i64 e.steps, .int .i64 e.err, .int .u64 e.val, .slice m.la e.list.length m.lc, .slice m.ka e.key.length m.kc]] w fun x w' => x = .returned (.string (St (Tx.evT e))) ∧ Ext w w' := by
  have hlen := evT_len e hf
  obtain ⟨⟨⟨a1, a2⟩, ⟨b1, b2⟩, ⟨c1, c2⟩, ⟨d1, d2⟩, ⟨e1, e2⟩, ⟨v1, v2⟩, hl, hk⟩, hll, hkl⟩ := hf
  obtain ⟨la, lc, ka, kc⟩ := m
  simp only at hm ⊢
  have hb := Blk.new w #[.int .i64 e.call, .int .i64 e.inv, .int .i64 e.resp, .int .i64 e.steps, .int .i64 e.err, .int .u64 e.val, .slice la e.list.length lc, .slice ka e.key.length kc] 29
  have hx0 := (Ext.refl w).alloc (.cells #[.int .i64 e.call, .int .i64 e.inv, .int .i64 e.resp, .int .i64 e.steps, .int .i64 e.err, .int .u64 e.val, .slice la e.list.length lc, .slice ka e.key.length kc] 29)
  have HM := Lib.hid (hm.ext hx0)
  have HL := Lib.hid hl
  have HK := Lib.hid hk
  clear hm hl hk
  go_enter Try.func8, Try.ntmps8
  go_upto_region 1 with (fail)
  generalize w.alloc (.cells #[.int .i64 e.call, .int .i64 e.inv, .int .i64 e.resp, .int .i64 e.steps, .int .i64 e.err, .int .u64 e.val, .slice la e.list.length lc, .slice ka e.key.length kc] 29) = W0 at *
  have HX0 := Lib.hid hx0; clear hx0
  have HB := Lib.hid hb; clear hb
  generalize w.heap.size = B at *
  have q0 := fun w' (hw : Ext W0 w') => (HB.out.ext hw).cell 0 (v := .int .i64 e.call) rfl
  have q1 := fun w' (hw : Ext W0 w') => (HB.out.ext hw).cell 1 (v := .int .i64 e.inv) rfl
  have q2 := fun w' (hw : Ext W0 w') => (HB.out.ext hw).cell 2 (v := .int .i64 e.resp) rfl
  have q3 := fun w' (hw : Ext W0 w') => (HB.out.ext hw).cell 3 (v := .int .i64 e.steps) rfl
  have q4 := fun w' (hw : Ext W0 w') => (HB.out.ext hw).cell 4 (v := .int .i64 e.err) rfl
  have q5 := fun w' (hw : Ext W0 w') => (HB.out.ext hw).cell 5 (v := .int .u64 e.val) rfl
  have q6 := fun w' (hw : Ext W0 w') => (HB.out.ext hw).cell 6 (v := .slice la e.list.length lc) rfl
  have q7 := fun w' (hw : Ext W0 w') => (HB.out.ext hw).cell 7 (v := .slice ka e.key.length kc) rfl
  refine Reg.wp_region_v [(28, 27)] Ext (by kernel_rfl) (by kernel_rfl) (fun _ _ _ => Ext.trans) (Ext.refl _).drew ?_
  repeat (refine Reg.step_det ?_; apply Exists.intro; refine And.intro ?_ ?_; (focus (intro vs w' hw hf; go_wp2_with fail; exact Reg.post_at rfl (Ext.refl _) rfl)); intro A' hA'; simp only [Act.put, List.setIfInBounds_toArray, List.set_cons_zero, List.set_cons_succ] at hA'; have e := funext hA'; subst e; clear hA')
  refine Reg.step_det ?_; apply Exists.intro; refine And.intro ?_ ?_
  focus
    intro vs w' hw hf
    have hcon := num_int_any e.call w' a1 a2
    have HCON := Lib.hid hcon; clear hcon
    go_wp2_with fail
    refine HCON.out.mono ?_
    rintro e' wn ⟨rfl, rfl⟩
    go_wp2_with fail
    exact Reg.post_at rfl (Ext.refl _) rfl
  intro A' hA'; simp only [Act.put, List.setIfInBounds_toArray, List.set_cons_zero, List.set_cons_succ] at hA'; have e := funext hA'; subst e; clear hA'
  repeat (refine Reg.step_det ?_; apply Exists.intro; refine And.intro ?_ ?_; (focus (intro vs w' hw hf; go_wp2_with fail; exact Reg.post_at rfl (Ext.refl _) rfl)); intro A' hA'; simp only [Act.put, List.setIfInBounds_toArray, List.set_cons_zero, List.set_cons_succ] at hA'; have e := funext hA'; subst e; clear hA')
  refine Reg.step_det ?_; apply Exists.intro; refine And.intro ?_ ?_
  focus
    intro vs w' hw hf
    have hcon := num_int_any e.inv w' b1 b2
    have HCON := Lib.hid hcon; clear hcon
    go_wp2_with fail
    refine HCON.out.mono ?_
    rintro e' wn ⟨rfl, rfl⟩
    go_wp2_with fail
    exact Reg.post_at rfl (Ext.refl _) rfl
  intro A' hA'; simp only [Act.put, List.setIfInBounds_toArray, List.set_cons_zero, List.set_cons_succ] at hA'; have e := funext hA'; subst e; clear hA'
  repeat (refine Reg.step_det ?_; apply Exists.intro; refine And.intro ?_ ?_; (focus (intro vs w' hw hf; go_wp2_with fail; exact Reg.post_at rfl (Ext.refl _) rfl)); intro A' hA'; simp only [Act.put, List.setIfInBounds_toArray, List.set_cons_zero, List.set_cons_succ] at hA'; have e := funext hA'; subst e; clear hA')
  refine Reg.step_det ?_; apply Exists.intro; refine And.intro ?_ ?_
  focus
    intro vs w' hw hf
    have hcon := num_int_any e.resp w' c1 c2
    have HCON := Lib.hid hcon; clear hcon
    go_wp2_with fail
    refine HCON.out.mono ?_
    rintro e' wn ⟨rfl, rfl⟩
    go_wp2_with fail
    exact Reg.post_at rfl (Ext.refl _) rfl
  intro A' hA'; simp only [Act.put, List.setIfInBounds_toArray, List.set_cons_zero, List.set_cons_succ] at hA'; have e := funext hA'; subst e; clear hA'
  repeat (refine Reg.step_det ?_; apply Exists.intro; refine And.intro ?_ ?_; (focus (intro vs w' hw hf; go_wp2_with fail; exact Reg.post_at rfl (Ext.refl _) rfl)); intro A' hA'; simp only [Act.put, List.setIfInBounds_toArray, List.set_cons_zero, List.set_cons_succ] at hA'; have e := funext hA'; subst e; clear hA')
  refine Reg.step_det ?_; apply Exists.intro; refine And.intro ?_ ?_
  focus
    intro vs w' hw hf
    have hcon := num_int_any e.steps w' d1 d2
    have HCON := Lib.hid hcon; clear hcon
    go_wp2_with fail
    refine HCON.out.mono ?_
    rintro e' wn ⟨rfl, rfl⟩
    go_wp2_with fail
    exact Reg.post_at rfl (Ext.refl _) rfl
  intro A' hA'; simp only [Act.put, List.setIfInBounds_toArray, List.set_cons_zero, List.set_cons_succ] at hA'; have e := funext hA'; subst e; clear hA'
  repeat (refine Reg.step_det ?_; apply Exists.intro; refine And.intro ?_ ?_; (focus (intro vs w' hw hf; go_wp2_with fail; exact Reg.post_at rfl (Ext.refl _) rfl)); intro A' hA'; simp only [Act.put, List.setIfInBounds_toArray, List.set_cons_zero, List.set_cons_succ] at hA'; have e := funext hA'; subst e; clear hA')
  refine Reg.step_det ?_; apply Exists.intro; refine And.intro ?_ ?_
  focus
    intro vs w' hw hf
    have hcon := num_err_any e.err w' e1 e2
    have HCON := Lib.hid hcon; clear hcon
    go_wp2_with fail
    refine HCON.out.mono ?_
    rintro e' wn ⟨rfl, rfl⟩
    go_wp2_with fail
    exact Reg.post_at rfl (Ext.refl _) rfl
  intro A' hA'; simp only [Act.put, List.setIfInBounds_toArray, List.set_cons_zero, List.set_cons_succ] at hA'; have e := funext hA'; subst e; clear hA'
  repeat (refine Reg.step_det ?_; apply Exists.intro; refine And.intro ?_ ?_; (focus (intro vs w' hw hf; go_wp2_with fail; exact Reg.post_at rfl (Ext.refl _) rfl)); intro A' hA'; simp only [Act.put, List.setIfInBounds_toArray, List.set_cons_zero, List.set_cons_succ] at hA'; have e := funext hA'; subst e; clear hA')
  refine Reg.step_det ?_; apply Exists.intro; refine And.intro ?_ ?_
  focus
    intro vs w' hw hf
    have hcon := num_u64_any e.val w' v1 v2
    have HCON := Lib.hid hcon; clear hcon
    go_wp2_with fail
    refine HCON.out.mono ?_
    rintro e' wn ⟨rfl, rfl⟩
    go_wp2_with fail
    exact Reg.post_at rfl (Ext.refl _) rfl
  intro A' hA'; simp only [Act.put, List.setIfInBounds_toArray, List.set_cons_zero, List.set_cons_succ] at hA'; have e := funext hA'; subst e; clear hA'
  repeat (refine Reg.step_det ?_; apply Exists.intro; refine And.intro ?_ ?_; (focus (intro vs w' hw hf; go_wp2_with fail; exact Reg.post_at rfl (Ext.refl _) rfl)); intro A' hA'; simp only [Act.put, List.setIfInBounds_toArray, List.set_cons_zero, List.set_cons_succ] at hA'; have e := funext hA'; subst e; clear hA')
  refine Reg.step_det ?_; apply Exists.intro; refine And.intro ?_ ?_
  focus
    intro vs w' hw hf
    have hcon := list_u64_any e.list la lc w' (HM.out.ext hw).list HL.out hll
    have HCON := Lib.hid hcon; clear hcon
    go_wp2_with fail
    refine HCON.out.mono ?_
    rintro e' wn ⟨rfl, hx⟩
    have HX := Lib.hid hx; clear hx
    go_wp2_with fail
    exact Reg.post_at rfl HX.out rfl
  intro A' hA'; simp only [Act.put, List.setIfInBounds_toArray, List.set_cons_zero, List.set_cons_succ] at hA'; have e := funext hA'; subst e; clear hA'
  repeat (refine Reg.step_det ?_; apply Exists.intro; refine And.intro ?_ ?_; (focus (intro vs w' hw hf; go_wp2_with fail; exact Reg.post_at rfl (Ext.refl _) rfl)); intro A' hA'; simp only [Act.put, List.setIfInBounds_toArray, List.set_cons_zero, List.set_cons_succ] at hA'; have e := funext hA'; subst e; clear hA')
  refine Reg.step_det ?_; apply Exists.intro; refine And.intro ?_ ?_
  focus
    intro vs w' hw hf
    have hcon := list_int_any e.key ka kc w' (HM.out.ext hw).key HK.out hkl
    have HCON := Lib.hid hcon; clear hcon
    go_wp2_with fail
    refine HCON.out.mono ?_
    rintro e' wn ⟨rfl, hx⟩
    have HX := Lib.hid hx; clear hx
    go_wp2_with fail
    exact Reg.post_at rfl HX.out rfl
  intro A' hA'; simp only [Act.put, List.setIfInBounds_toArray, List.set_cons_zero, List.set_cons_succ] at hA'; have e := funext hA'; subst e; clear hA'
  refine Reg.step_rel (IsWords [Tx.numT e.call, Tx.numT e.inv, Tx.numT e.resp, Tx.numT e.steps, Tx.numT e.err, Tx.numT e.val, Tx.listT e.list, Tx.listT e.key]) (by decide) (fun v w1 w2 h hx => h.ext hx) ?_ ?_
  · intro vs w' hw hf
    have hnew := IsWords.new [Tx.numT e.call, Tx.numT e.inv, Tx.numT e.resp, Tx.numT e.steps, Tx.numT e.err, Tx.numT e.val, Tx.listT e.list, Tx.listT e.key] w' _ rfl
    have HN := Lib.hid hnew; clear hnew
    go_wp2_with fail
    exact Reg.post_rel_at _ rfl ((Ext.refl _).alloc _) rfl HN.out
  intro A' hA'; simp only [Act.put, List.setIfInBounds_toArray, List.set_cons_zero, List.set_cons_succ] at hA'; have e := funext hA'; subst e; clear hA'
  refine Reg.step_det ?_; apply Exists.intro; refine And.intro ?_ ?_
  focus
    intro vs w' hw hf
    obtain ⟨g, h27, hg, hc⟩ := hf _ (List.mem_cons_self ..) (by simp)
    have hcon := join_any [Tx.numT e.call, Tx.numT e.inv, Tx.numT e.resp, Tx.numT e.steps, Tx.numT e.err, Tx.numT e.val, Tx.listT e.list, Tx.listT e.key] g 8 w' hc hg (by simp) (by simp) (by show (Tx.evT e).length ≤ _; omega)
    simp only at h27
    have H27 := Lib.hid h27; clear h27
    have HC := Lib.hid hcon; clear hcon
    clear hf hc
    simp only [H27.out]
    go_wp2_with fail
    refine HC.out.mono ?_
    rintro e' wn ⟨rfl, hx⟩
    have HX := Lib.hid hx; clear hx
    go_wp2_with fail
    exact Reg.post_at rfl HX.out rfl
  intro A' hA'; simp only [Act.put, List.setIfInBounds_toArray, List.set_cons_zero, List.set_cons_succ] at hA'; have e := funext hA'; subst e; clear hA'
  repeat (refine Reg.step_det ?_; apply Exists.intro; refine And.intro ?_ ?_; (focus (intro vs w' hw hf; go_wp2_with fail; exact Reg.post_at rfl (Ext.refl _) rfl)); intro A' hA'; simp only [Act.put, List.setIfInBounds_toArray, List.set_cons_zero, List.set_cons_succ] at hA'; have e := funext hA'; subst e; clear hA')
  intro vs w' hw hf
  have HV := Lib.hid hw; clear hw hf
  go_wp2_with fail
  go_ret
  exact ⟨rfl, HX0.out.trans HV.out⟩

end Go.Proofs.Ytkhagpnnkfglbaa
