/-
  What the reckoner finds of a function holds in any memory, whatever order the regions draw.
  The reckoner in use: a great heap of which a function touches a part.
-/
import Derived.Test.YtpkfimijnkkbjaaGreatJ12
set_option linter.unusedVariables false
namespace Go.Proofs.YtpkfimijnkkbjaaGreat
namespace Ev

variable {P : Program} {ops : Array Oper} {nt : Nat}

theorem filter_set' : ∀ (l : List Bool) (i : Nat), l[i]? = some false → ((l.set i true).filter (! ·)).length + 1 = (l.filter (! ·)).length := by
  intro l
  induction l with
  | nil => intro i h; simp at h
  | cons b l ihl =>
    intro i h
    cases i with
    | zero => simp at h; subst h; simp
    | succ i =>
      have := ihl i (by simpa using h)
      cases b <;> simp [List.filter_cons] at this ⊢ <;> omega
theorem filter_less' {L : Array Bool} {i fuel : Nat} (hlt : i < L.size) (hun : L.getD i false = false) (hf : (L.toList.filter (! ·)).length ≤ fuel + 1) : ((L.setIfInBounds i true).toList.filter (! ·)).length ≤ fuel := by
  have h1 : L.toList[i]? = some false := by
    rw [Array.getElem?_toList, Array.getElem?_eq_getElem hlt]
    simp [hlt] at hun
    simp [hun]
  have := filter_set' L.toList i h1
  rw [Array.toList_setIfInBounds]
  omega
theorem get_set' {L : Array Bool} {i : Nat} (hlt : i < L.size) (j : Nat) : (L.setIfInBounds i true).getD j false = true ↔ (L.getD j false = true ∨ j = i) := by
  by_cases hji : i = j
  · subst hji; simp [hlt]
  · simp [Array.getElem?_setIfInBounds_ne hji]
    intro e; exact absurd e.symm hji

theorem mem_ready' {listed : Array Bool} {i : Nat} : i ∈ Region.ready .any ops listed ↔ i < ops.size ∧ listed.getD i true = false ∧ ∃ r, ops[i]? = some r ∧ ∀ e ∈ r.after, Region.binds .any e = true → listed.getD e.on false = true := by
  unfold Region.ready
  rw [List.mem_filter, List.mem_range]
  constructor
  · rintro ⟨h1, h2⟩
    simp only [Bool.and_eq_true, Bool.not_eq_true'] at h2
    refine ⟨h1, h2.1, ?_⟩
    cases ho : ops[i]? with
    | none => rw [ho] at h2; simp at h2
    | some r =>
      refine ⟨r, rfl, fun e he hb => ?_⟩
      rw [ho] at h2
      have h3 := h2.2
      simp only [Option.map_some, Option.getD_some] at h3
      have := Array.all_eq_true_iff_forall_mem.1 h3 e he
      rw [hb] at this
      simpa using this
  · rintro ⟨h1, h2, r, hr, h3⟩
    refine ⟨h1, ?_⟩
    rw [h2, hr]
    simp only [Bool.not_false, Bool.true_and, Option.map_some, Option.getD_some]
    refine Array.all_eq_true_iff_forall_mem.2 fun e he => ?_
    cases hb : Region.binds .any e with
    | false => simp
    | true => simpa using h3 e he hb

section
variable {S : Nat → St} {E : Nat → Env} {V : Nat → AV} {R W : Nat → Nat → Prop} {n : Nat}

theorem inv_any (seg : Seg P ops nt 0 n S E V R W) (hn : n = ops.size) (hb : Back ops) (hslot : ∀ i j ri rj, i < j → ops[i]? = some ri → ops[j]? = some rj → ¬ Before ops j i → (∀ d, ri.dst = some d → d ∉ looks ops rj) ∧ (∀ d, ri.dst = some d → rj.dst ≠ some d) ∧ (∀ d, rj.dst = some d → d ∉ looks ops ri)) {Q : Exit → Act → World → Prop} {φ0 : Phi} {w0 : World} {a0 : Act} (hp : (S n).pre) (hold : ∀ j, j < n → ∀ b o, R j b → (S 0).get b = some o → b < (S 0).next ∧ o.All (· < (S 0).next)) (henv : EnvAll (· < (S 0).next) (E 0))
    (hfin : ∀ (L : Nat → Prop) φ a w, (∀ j, j < n → L j) → Inv ops nt n S E V R W L φ0 w0 a0 φ a w → Q .normal a w) :
    ∀ (fuel : Nat) (listed : Array Bool) (φ : Phi) (a : Act) (w : World), listed.size = n → (listed.toList.filter (! ·)).length ≤ fuel →
      (∀ j r, listed.getD j false = true → ops[j]? = some r → ∀ e ∈ r.after, Region.binds .any e = true → listed.getD e.on false = true) →
      Inv ops nt n S E V R W (fun k => listed.getD k false = true) φ0 w0 a0 φ a w → wpAny P .any ops Q fuel listed a w := by
  have full : ∀ (listed : Array Bool), listed.size = n → Region.ready .any ops listed = [] → ∀ j, j < n → listed.getD j false = true := by
    intro listed hs hr j
    induction j using Nat.strongRecOn with
    | _ j ih =>
      intro hj
      cases hl : listed.getD j false with
      | true => rfl
      | false =>
        exfalso
        obtain ⟨r, hrr, _⟩ := seg.step j (Nat.zero_le _) hj
        have : j ∈ Region.ready .any ops listed := by
          refine mem_ready'.2 ⟨by omega, ?_, r, hrr, fun e he hbi => ih e.on (hb j r hrr e he hbi) (Nat.lt_trans (hb j r hrr e he hbi) hj)⟩
          have hlt : j < listed.size := by omega
          simp [hlt] at hl ⊢
          exact hl
        rw [hr] at this; cases this
  intro fuel
  induction fuel with
  | zero =>
    intro listed φ a w hs hf hcl I
    have hall : ∀ j, j < n → listed.getD j false = true := by
      intro j hj
      have hlt : j < listed.size := by omega
      cases hl : listed.getD j false with
      | true => rfl
      | false =>
        exfalso
        have hm : listed[j] ∈ listed.toList.filter (! ·) := by
          refine List.mem_filter.2 ⟨by simp, ?_⟩
          simp [hlt] at hl
          simp [hl]
        have := List.length_pos_of_mem hm
        omega
    refine ⟨?_, hfin _ φ a w hall I⟩
    apply List.eq_nil_iff_forall_not_mem.2
    intro i hi
    obtain ⟨h1, h2, _⟩ := mem_ready'.1 hi
    have := hall i (by omega)
    have hlt : i < listed.size := by omega
    simp [hlt] at h2 this
    rw [h2] at this; cases this
  | succ fuel ih =>
    intro listed φ a w hs hf hcl I
    refine ⟨fun hr => hfin _ φ a w (full listed hs hr) I, fun i hi => ?_⟩
    obtain ⟨h1, h2, r, hr, h3⟩ := mem_ready'.1 hi
    have hlt : i < listed.size := by omega
    have hin : i < n := by omega
    have hnl : ¬ listed.getD i false = true := by simp [hlt] at h2 ⊢; exact h2
    have hClosed : Closed ops (fun k => listed.getD k false = true) := fun j r hl hr => hcl j r hl hr
    have hc : ∀ i k, listed.getD i false = true → Before ops i k → listed.getD k false = true := fun i k hl h => hClosed.before hb i k hl h
    have hpre : ∀ k, Before ops i k → listed.getD k false = true := fun k h => hClosed.ready hb hr h3 h
    obtain ⟨r', hr', st⟩ := seg.step i (Nat.zero_le _) hin
    have hrr : r' = r := by rw [hr] at hr'; cases hr'; rfl
    subst hrr
    have hids := seg_ids seg hb hslot hp (fun j hj b o hRb hg => (hold j hj b o hRb hg).2) henv
    have hOld : Old (S i) (R i) := by
      intro b o hRb hg
      rcases seg_get seg i (by omega) hg with h | ⟨k, hk, hwk, h⟩
      · have := hold i hin b o hRb h
        have n0 := seg_next seg 0 i (Nat.zero_le _) (by omega)
        exact ⟨Nat.lt_of_lt_of_le this.1 n0, this.2.mono fun x hx => Nat.lt_of_lt_of_le hx n0⟩
      · have nk := seg_next seg (k + 1) i (by omega) (by omega)
        refine ⟨?_, ((hids k (by omega)).2 b o hwk h).mono fun x hx => Nat.lt_of_lt_of_le (dj_lt seg hb (by omega) x hx) nk⟩
        -- the block's own name
        have : ∀ k, k < i → W k b → b < (S (k + 1)).next ∨ (S 0).get b ≠ none := by
          intro k
          induction k using Nat.strongRecOn with
          | _ k ihk =>
            intro hki hw
            obtain ⟨rk, _, stk⟩ := seg.step k (Nat.zero_le _) (by omega)
            cases hg0 : (S k).get b with
            | none => exact .inl (stk.lt b hw hg0)
            | some y =>
              rcases seg_get seg k (by omega) hg0 with h0 | ⟨m, hm, hwm, _⟩
              · exact .inr (by rw [h0]; simp)
              · rcases ihk m hm (by omega) hwm with h' | h'
                · exact .inl (Nat.lt_of_lt_of_le h' (seg_next seg (m + 1) (k + 1) (by omega) (by omega)))
                · exact .inr h'
        rcases this k hk hwk with h' | h'
        · exact Nat.lt_of_lt_of_le h' nk
        · obtain ⟨y, hy⟩ := some_of_ne h'
          exact Nat.lt_of_lt_of_le (hold i hin b y hRb hy).1 (seg_next seg 0 i (Nat.zero_le _) (by omega))
    have hSA : SeenAll (· < (S i).next) (E i) ops r' := by
      intro t ht u hu
      rcases seg_look seg i (by omega) hu with h | ⟨k, hk, _, rfl⟩
      · exact (henv t u h).mono fun x hx => Nat.lt_of_lt_of_le hx (seg_next seg 0 i (Nat.zero_le _) (by omega))
      · exact (hids k (by omega)).1.mono fun x hx => Nat.lt_of_lt_of_le (dj_lt seg hb (by omega) x hx) (seg_next seg (k + 1) i (by omega) (by omega))
    have hSeen : Seen φ (E i) ops r' a.tmps := by
      intro t ht u hu
      have := sb_at seg hn hslot hc hr hin hnl hpre ht
      rw [hu] at this
      exact I.slots t u this
    refine st.sem φ w a _ Q (seg_pre seg (i + 1) (by omega) hp) (inv_fits seg hc hin hnl hpre I) hOld hSA hSeen fun φ' w' hm => ?_
    have I' := inv_step seg hn hb hslot hp hold henv hc hr hin hnl hpre I hm
    have hL : (Plus (fun k => listed.getD k false = true) i) = (fun k => (listed.setIfInBounds i true).getD k false = true) := by
      funext k
      exact propext (get_set' hlt k).symm
    rw [hL] at I'
    refine ih _ φ' _ w' (by simp [hs]) (filter_less' hlt (by simpa using hnl) hf) ?_ I'
    intro j q hl hq e he hbi
    rw [get_set' hlt] at hl ⊢
    rcases hl with hl | rfl
    · exact .inl (hcl j q hl hq e he hbi)
    · rw [hr] at hq; cases hq
      exact .inl (h3 e he hbi)

theorem Holds.heap {φ : Phi} {b : Nat} {o : AObj} {w w' : World} (h : Holds φ b o w) (hw : w'.heap = w.heap) : Holds φ b o w' := by
  rcases o with ⟨_, l, t, _ | sz⟩ | ⟨l⟩
  · unfold Holds at h ⊢; rw [hw]; exact h
  · unfold Holds at h ⊢; rw [hw]; exact h
  · unfold Holds IMap at h ⊢; rw [hw]; exact h

theorem cb_all {L : Nat → Prop} (seg : Seg P ops nt 0 n S E V R W) (hL : ∀ j, j < n → L j) (b : Nat) : ∀ k, k ≤ n → CB S W L b k ((S k).get b) := by
  intro k
  induction k with
  | zero => exact fun _ => rfl
  | succ k ih =>
    intro hk
    by_cases hw : W k b
    · exact .inl ⟨hL k (by omega), hw, rfl⟩
    · right
      obtain ⟨r, _, st⟩ := seg.step k (Nat.zero_le _) (by omega)
      rw [st.same b hw]
      exact ⟨fun h => hw h.2, ih (by omega)⟩
theorem sb_all {L : Nat → Prop} (seg : Seg P ops nt 0 n S E V R W) (hL : ∀ j, j < n → L j) (t : Nat) : ∀ k, k ≤ n → SB ops E V L t k ((E k).look t) := by
  intro k
  induction k with
  | zero => exact fun _ => rfl
  | succ k ih =>
    intro hk
    obtain ⟨r, hr, st⟩ := seg.step k (Nat.zero_le _) (by omega)
    have hput := st.put
    by_cases hd : r.dst = some t
    · left
      refine ⟨hL k (by omega), ⟨r, hr, hd⟩, ?_⟩
      rw [hd] at hput
      simp only [putE] at hput
      split at hput
      · injection hput with hput; rw [← hput, look_cons, if_pos rfl]
      · cases hput
    · right
      refine ⟨fun ⟨_, q, hq, hdq⟩ => hd (by rw [hr] at hq; cases hq; exact hdq), ?_⟩
      have : (E (k + 1)).look t = (E k).look t := by
        cases hdd : r.dst with
        | none => rw [hdd] at hput; simp [putE] at hput; rw [← hput]
        | some d =>
          rw [hdd] at hput
          simp only [putE] at hput
          split at hput
          · injection hput with hput
            rw [← hput, look_cons, if_neg (fun e => hd (by rw [hdd, e]))]
          · cases hput
      rw [this]
      exact ih (by omega)

/-- The whole of a segment, as one step. -/
theorem seg_all (seg : Seg P ops nt 0 n S E V R W) {rd wr : Nat} (hbit : ∀ k, k < n → ∀ b, (R k b → rd.testBit b = true) ∧ (W k b → wr.testBit b = true)) :
    ∀ k, k ≤ n → Sp ⟨(S 0).heap, (S 0).next, rd, wr, (S 0).pre, (S 0).orc⟩ ⟨(S k).heap, (S k).next, rd, wr, (S k).pre, (S k).orc⟩ (fun b => ∃ j, j < k ∧ R j b) (fun b => ∃ j, j < k ∧ W j b) ∧
      Ids ⟨(S 0).heap, (S 0).next, rd, wr, (S 0).pre, (S 0).orc⟩ ⟨(S k).heap, (S k).next, rd, wr, (S k).pre, (S k).orc⟩ (fun b => ∃ j, j < k ∧ R j b) (fun b => ∃ j, j < k ∧ W j b) (fun D => EnvAll D (E 0)) (fun D => EnvAll D (E k)) := by
  intro k
  induction k with
  | zero =>
    intro _
    have e1 : (fun b => ∃ j, j < 0 ∧ R j b) = fun _ => False := by funext b; simp
    have e2 : (fun b => ∃ j, j < 0 ∧ W j b) = fun _ => False := by funext b; simp
    rw [e1, e2]
    exact ⟨(Quiet.refl _).sp, (Quiet.refl _).ids fun D _ h _ => h⟩
  | succ k ih =>
    intro hk
    obtain ⟨sp1, id1⟩ := ih (by omega)
    obtain ⟨r, hr, st⟩ := seg.step k (Nat.zero_le _) (by omega)
    have sp2 : Sp ⟨(S k).heap, (S k).next, rd, wr, (S k).pre, (S k).orc⟩ ⟨(S (k + 1)).heap, (S (k + 1)).next, rd, wr, (S (k + 1)).pre, (S (k + 1)).orc⟩ (R k) (W k) :=
      { next := st.next, same := st.same, sub := st.sub, rd := fun b hb => (hbit k (by omega) b).1 hb, wr := fun b hb => (hbit k (by omega) b).2 hb, rdm := fun _ h => h, wrm := fun _ h => h, lt := st.lt, made := st.made, born := st.born, pre := st.pre }
    have id2 : Ids ⟨(S k).heap, (S k).next, rd, wr, (S k).pre, (S k).orc⟩ ⟨(S (k + 1)).heap, (S (k + 1)).next, rd, wr, (S (k + 1)).pre, (S (k + 1)).orc⟩ (R k) (W k) (fun D => EnvAll D (E k)) (fun D => EnvAll D (E (k + 1))) := by
      intro D hp hD hin hR
      have := st.ids D hp hD (fun t _ u hu => hin t u hu) hR
      exact ⟨put_all st.put this.1 hin, this.2⟩
    have e1 : (fun b => ∃ j, j < k + 1 ∧ R j b) = fun b => (∃ j, j < k ∧ R j b) ∨ R k b := by
      funext b
      refine propext ⟨fun ⟨j, hj, h⟩ => ?_, fun h => ?_⟩
      · by_cases hjk : j = k
        · exact .inr (hjk ▸ h)
        · exact .inl ⟨j, by omega, h⟩
      · rcases h with ⟨j, hj, h⟩ | h
        · exact ⟨j, by omega, h⟩
        · exact ⟨k, by omega, h⟩
    have e2 : (fun b => ∃ j, j < k + 1 ∧ W j b) = fun b => (∃ j, j < k ∧ W j b) ∨ W k b := by
      funext b
      refine propext ⟨fun ⟨j, hj, h⟩ => ?_, fun h => ?_⟩
      · by_cases hjk : j = k
        · exact .inr (hjk ▸ h)
        · exact .inl ⟨j, by omega, h⟩
      · rcases h with ⟨j, hj, h⟩ | h
        · exact ⟨j, by omega, h⟩
        · exact ⟨k, by omega, h⟩
    rw [e1, e2]
    exact ⟨sp1.trans sp2, Ids.trans sp1 sp2 id1 id2⟩
end

theorem draw_ok (hmix : P.follows .mixedOrders = true) : DrawOk P := by
  intro call nt ops env env' s s' hnm hc h
  unfold evRegion at h
  simp only at h
  split at h
  · cases h
  rename_i hdr
  obtain ⟨hb, hslot⟩ := drawOk_ok hdr
  obtain ⟨h0, n0, r0, w0, p0, o0⟩ := s
  simp only at h
  split at h
  · cases h
  rename_i env1 h1 n1 r1 w1 p1 o1 hev
  simp only [forceN_eq] at h
  cases h
  obtain ⟨S, E, V, R, W, seg, hS, hE, hS', hE', _, hbit, _⟩ := evDraw_trace (nt := nt) (ops := ops) hnm hc ops.toList 0 env env' [] 0 0 _ _ hev (fun k => by simp) (fun q hq => by cases hq)
  simp only [Nat.zero_add, Array.length_toList] at seg hS' hE' hbit
  have l1 : ∀ (x y b : Nat), (Nat.lor x y).testBit b = (x.testBit b || y.testBit b) := fun x y b => Nat.testBit_or x y b
  have hall := seg_all seg (rd := Nat.lor r0 r1) (wr := Nat.lor w0 w1) (fun k hk b => ⟨fun h => by rw [l1, (hbit k (Nat.zero_le _) hk b).1 h]; simp, fun h => by rw [l1, (hbit k (Nat.zero_le _) hk b).2 h]; simp⟩) ops.size (Nat.le_refl _)
  have g0 : ∀ b, (S 0).get b = St.get ⟨h0, n0, r0, w0, p0, o0⟩ b := fun b => by rw [hS]; rfl
  have gn : ∀ b, (S ops.size).get b = St.get ⟨h1, n1, Nat.lor r0 r1, Nat.lor w0 w1, p1, o1⟩ b := fun b => by rw [hS']; rfl
  have nx0 : (S 0).next = n0 := by rw [hS]; rfl
  have nxn : (S ops.size).next = n1 := by rw [hS']; rfl
  rw [hS, hS', hE, hE'] at hall
  obtain ⟨sp, ids⟩ := hall
  refine ⟨fun b => ∃ j, j < ops.size ∧ R j b, fun b => ∃ j, j < ops.size ∧ W j b, ?_, ids, ?_⟩
  · exact { next := sp.next, same := sp.same, sub := sp.sub, rd := sp.rd, wr := sp.wr, rdm := fun b hb => by rw [l1, hb]; rfl, wrm := fun b hb => by rw [l1, hb]; rfl, lt := sp.lt, made := sp.made, born := sp.born, pre := sp.pre }
  · intro φ w a K hp hsz he hf ho hin hK id Q hQ
    refine wp_region_any hmix ?_
    have hpn : (S ops.size).pre := by rw [hS']; exact hp
    refine inv_any seg rfl hb hslot (φ0 := φ) (w0 := { w with drawn := w.drawn + 1 }) (a0 := a) hpn ?_ ?_ ?_ ops.size (Array.replicate ops.size false) φ a _ (by simp) ?_ ?_ ?_
    · intro j hj b o hRb hg
      rw [nx0]
      exact ho b o ⟨j, hj, hRb⟩ (by rw [← g0]; exact hg)
    · rw [nx0, hE]; exact hin
    · intro L φ' a' w' hL I
      refine hQ a' w' (hK φ' w' a' ?_ I.size I.defers ?_)
      · constructor
        · intro i hi
          refine I.agree i fun j hj _ ⟨x1, x2⟩ => hi ⟨?_, ?_⟩
          · show n0 ≤ i
            have := seg_next seg 0 j (Nat.zero_le _) (by omega)
            omega
          · show i < n1
            have := seg_next seg (j + 1) ops.size (by omega) (Nat.le_refl _)
            omega
        · intro b o hW hg
          obtain ⟨j, hj, hw⟩ := hW
          obtain ⟨r, _, st⟩ := seg.step j (Nat.zero_le _) hj
          refine I.holds b o ⟨j, hj, st.sub b hw⟩ ?_
          have := cb_all seg hL b ops.size (Nat.le_refl _)
          rw [gn, hg] at this
          exact this
        · intro b c ⟨j, hj, hw⟩ ⟨k, hk, hwc⟩ hgb hgc heq
          obtain ⟨r, _, st⟩ := seg.step j (Nat.zero_le _) hj
          obtain ⟨r', _, st'⟩ := seg.step k (Nat.zero_le _) hk
          obtain ⟨x, hx⟩ := some_of_ne hgb
          obtain ⟨y, hy⟩ := some_of_ne hgc
          refine I.inj b c x y ⟨j, hj, st.sub b hw⟩ ⟨k, hk, st'.sub c hwc⟩ ?_ ?_ heq
          · have := cb_all seg hL b ops.size (Nat.le_refl _)
            rw [gn, hx] at this; exact this
          · have := cb_all seg hL c ops.size (Nat.le_refl _)
            rw [gn, hy] at this; exact this
        · intro b ⟨j, hj, hw⟩ hgb
          obtain ⟨x, hx⟩ := some_of_ne hgb
          have hcb := cb_all seg hL b ops.size (Nat.le_refl _)
          rw [gn, hx] at hcb
          rcases I.source b x ⟨j, hj, hL j hj, hw⟩ hcb with h | ⟨c, ⟨k, hk, _, hwk⟩, hgc, h⟩
          · exact .inl h
          · exact .inr ⟨c, ⟨k, hk, hwk⟩, by rw [← g0]; exact hgc, h⟩
        · intro k hk hne
          exact I.frame k hk fun c ⟨j, hj, _, hw⟩ hgc => hne c ⟨j, hj, hw⟩ (by rw [← g0]; exact hgc)
        · exact I.grown
        · exact ⟨I.kept.1, I.kept.2⟩
      · intro t u hu
        have := sb_all seg hL t ops.size (Nat.le_refl _)
        rw [hE', hu] at this
        exact I.slots t u this
    · have : (Array.replicate ops.size false).toList.filter (! ·) = List.replicate ops.size false := by simp
      rw [this]; simp
    · intro j r hl
      exfalso
      by_cases hj : j < ops.size
      · simp [hj] at hl
      · simp [hj] at hl
    · have hno : ∀ k, ¬ (Array.replicate ops.size false).getD k false = true := by
        intro k hl
        by_cases hj : k < ops.size
        · simp [hj] at hl
        · simp [hj] at hl
      have cb0 : ∀ (b : Nat) (k : Nat) (x : Option AObj), CB S W (fun k => (Array.replicate ops.size false).getD k false = true) b k x → x = (S 0).get b := by
        intro b k
        induction k with
        | zero => exact fun x h => h
        | succ k ih =>
          intro x h
          rcases h with ⟨h1, _⟩ | ⟨_, h2⟩
          · exact absurd h1 (hno k)
          · exact ih x h2
      have sb0 : ∀ (t : Nat) (k : Nat) (x : Option AV), SB ops E V (fun k => (Array.replicate ops.size false).getD k false = true) t k x → x = (E 0).look t := by
        intro t k
        induction k with
        | zero => exact fun x h => h
        | succ k ih =>
          intro x h
          rcases h with ⟨h1, _⟩ | ⟨_, h2⟩
          · exact absurd h1 (hno k)
          · exact ih x h2
      constructor
      · intro b o hR hcb
        have := cb0 b _ _ hcb
        exact (hf.holds b o hR (by rw [← g0]; exact this.symm)).heap rfl
      · intro b c x y hRb hRc hcb hcc heq
        have e1 := cb0 b _ _ hcb
        have e2 := cb0 c _ _ hcc
        exact hf.inj b c hRb hRc (by rw [← g0, ← e1]; simp) (by rw [← g0, ← e2]; simp) heq
      · intro t u hs
        have := sb0 t _ _ hs
        refine he t u ?_
        rw [hE] at this
        exact this.symm
      · exact hsz
      · rfl
      · intro i _; rfl
      · intro b x ⟨j, _, hl, _⟩; exact absurd hl (hno j)
      · intro r _ _; rfl
      · exact Nat.le_refl _
      · exact ⟨rfl, rfl⟩

/-- What the reckoner finds comes true. -/
theorem sound (hnm : Named P) (hmix : P.follows .mixedOrders = true) {sm : Sums} (hsm : SumsOk P sm) (d : Nat) : CallOk P (evFn P sm d) := evFn_ok hnm (draw_ok hmix) hsm d
end Ev
end Go.Proofs.YtpkfimijnkkbjaaGreat

namespace Go.Proofs.YtpkfimijnkkbjaaGreat
namespace Ev

variable {P : Program}

/-- Two blocks that come to the same in a memory. -/
def Same (φ φ' : Phi) : AObj → AObj → Prop
  | .row _ l t q, .row _ l' t' q' => concL φ l = concL φ' l' ∧ t = t' ∧ q = q'
  | .map _ l, .map _ l' => l.map (pairOf φ) = l'.map (pairOf φ')
  | _, _ => False
theorem Same.refl (φ : Phi) (o : AObj) : Same φ φ o o := by cases o <;> simp [Same]
theorem Same.symm {φ φ' : Phi} {o o' : AObj} (h : Same φ φ' o o') : Same φ' φ o' o := by
  cases o <;> cases o' <;> simp only [Same] at h ⊢
  · exact ⟨h.1.symm, h.2.1.symm, h.2.2.symm⟩
  · exact h.symm
theorem Same.trans {φ φ' φ'' : Phi} {o o' o'' : AObj} (h : Same φ φ' o o') (h' : Same φ' φ'' o' o'') : Same φ φ'' o o'' := by
  cases o <;> cases o' <;> cases o'' <;> simp only [Same] at h h' ⊢
  · exact ⟨h.1.trans h'.1, h.2.1.trans h'.2.1, h.2.2.trans h'.2.2⟩
  · exact h.trans h'
theorem Same.of_all {D : Nat → Prop} {φ φ' : Phi} {o : AObj} (ho : o.All D) (h : ∀ i, D i → φ' i = φ i) : Same φ φ' o o := by
  cases o with
  | row _ l t q => exact ⟨(concL_congr h ho).symm, rfl, rfl⟩
  | map _ l => exact List.map_congr_left fun x hx => by unfold pairOf; rw [conc_congr h (ho x hx)]
theorem Holds.same {φ φ' : Phi} {b b' : Nat} {o o' : AObj} {w : World} (h : Holds φ b o w) (hb : φ' b' = φ b) (hs : Same φ φ' o o') : Holds φ' b' o' w := by
  rcases o with ⟨_, l, t, q⟩ | ⟨_, l⟩ <;> rcases o' with ⟨_, l', t', q'⟩ | ⟨_, l'⟩ <;> simp only [Same] at hs
  · obtain ⟨h1, rfl, rfl⟩ := hs
    have hlen : l'.length = l.length := by rw [← concL_length φ' l', ← h1, concL_length]
    cases q with
    | none => unfold Holds at h ⊢; simp only at h ⊢; rw [hb, h, h1]
    | some sz =>
      obtain ⟨rest, n, k1, k2, k3, k4⟩ := h
      exact ⟨rest, n, by rw [hb, k1, h1], by rw [hb]; exact k2, by rw [hlen]; exact k3, by rw [hb]; exact k4⟩
  · unfold Holds at h ⊢; simp only at h ⊢; rw [hb, ← hs]; exact h

/-- A memory from before: its blocks below a mark are to stay as they were. -/
structure Keep where
  mark : Nat
  was : World
/-- A great heap lies in a memory, above the mark. -/
structure FitH (κ : Keep) (H : Nat → Option AObj) (φ : Phi) (w : World) : Prop where
  holds : ∀ c o, H c = some o → Holds φ c o w
  inj : ∀ b c x y, H b = some x → H c = some y → (φ b).blk = (φ c).blk → b = c
  base : ∀ c o, H c = some o → κ.mark ≤ (φ c).blk
  old : ∀ r, r < κ.mark → w.heap[r]? = κ.was.heap[r]?
  size : κ.mark ≤ w.heap.size
  env : w.os = κ.was.os ∧ w.output = κ.was.output
variable {κ : Keep}

/-- What a great heap is behind a run. -/
def after (H : Nat → Option AObj) (s' : St) (c : Nat) : Option AObj := if s'.wr.testBit c then s'.get c else H c

/-- A function that touches a part of a great heap. -/
theorem fit_call {sm : Sums} (hnm : Named P) (hmix : P.follows .mixedOrders = true) (hsm : SumsOk P sm) {d f : Nat} {args : List AV} {s s' : St} {v : AV} (hev : evFn P sm d f args s = .ok v s') (hpre : s'.pre)
    {H : Nat → Option AObj} {φ : Phi} {w : World} (hfit : FitH κ H φ w) (hH : ∀ c o, H c = some o → c < s.next ∧ o.All (· < s.next))
    (hs : ∀ c o, s.get c = some o → o.All (· < s.next) ∧ ∃ o0, H c = some o0 ∧ Same φ φ o0 o) (hargs : AllL (· < s.next) args) :
    Calls P f (concL φ args).toArray w (fun e w' => ∃ φ', e = .returned (conc φ' v) ∧ (∀ i, i < s.next → φ' i = φ i) ∧ FitH κ (after H s') φ' w' ∧ (∀ c o, after H s' c = some o → c < s'.next ∧ o.All (· < s'.next))) := by
  obtain ⟨_, R, W, sp, ids, sem⟩ := sound hnm hmix hsm d f args s v s' hev
  have hOld : Old s R := fun b o _ hg => by
    obtain ⟨h1, o0, h2, _⟩ := hs b o hg
    exact ⟨(hH b o0 h2).1, h1⟩
  have hFits : Fits s (fun _ => True) φ w := ⟨fun b o _ hg => by
      obtain ⟨_, o0, h2, h3⟩ := hs b o hg
      exact (hfit.holds b o0 h2).same rfl h3, fun b c _ _ hgb hgc he => by
      obtain ⟨x, hx⟩ := some_of_ne hgb
      obtain ⟨y, hy⟩ := some_of_ne hgc
      obtain ⟨_, x0, hx0, _⟩ := hs b x hx
      obtain ⟨_, y0, hy0, _⟩ := hs c y hy
      exact hfit.inj b c x0 y0 hx0 hy0 he⟩
  have hOldT : Old s (fun _ => True) := fun b o _ hg => by
    obtain ⟨h1, o0, h2, _⟩ := hs b o hg
    exact ⟨(hH b o0 h2).1, h1⟩
  refine (sem φ w hpre (hFits.mono fun _ _ => trivial) hOld hargs).mono ?_
  rintro e w' ⟨φ', rfl, hm⟩
  have hF' := hFits.step sp hm hOldT (fun _ _ => trivial)
  have hO' := hOldT.step sp ids hpre (hargs.mono fun i hi => Nat.lt_of_lt_of_le hi sp.next) (fun _ _ => trivial)
  have hag : ∀ i, i < s.next → φ' i = φ i := fun i hi => hm.agree i (by omega)
  -- blocks that were not written
  have away : ∀ c o, ¬ s'.wr.testBit c = true → H c = some o → Holds φ' c o w' ∧ φ' c = φ c ∧ (φ c).blk < w.heap.size ∧ (∀ b, W b → s.get b ≠ none → (φ b).blk ≠ (φ c).blk) := by
    intro c o hw hg
    have hH1 := hfit.holds c o hg
    have hne : ∀ b, W b → s.get b ≠ none → (φ b).blk ≠ (φ c).blk := by
      intro b hb hgb he
      obtain ⟨x, hx⟩ := some_of_ne hgb
      obtain ⟨_, x0, hx0, _⟩ := hs b x hx
      have := hfit.inj b c x0 o hx0 hg he
      subst this
      exact hw (sp.wr b hb)
    exact ⟨hH1.keep (D := (· < s.next)) (fun i hi => hag i hi) (hH c o hg).2 (hag c (hH c o hg).1) (hm.frame _ hH1.lt hne), hag c (hH c o hg).1, hH1.lt, hne⟩
  -- a block of the part, wherever it lies now, lies apart from those
  have apart : ∀ b c x y, s'.wr.testBit b = true → s'.get b = some x → ¬ s'.wr.testBit c = true → H c = some y → (φ' b).blk ≠ (φ' c).blk := by
    intro b c x y hb hgb hc hgc he
    obtain ⟨_, k2, k3, k4⟩ := away c y hc hgc
    rw [k2] at he
    by_cases hw : W b
    · rcases hm.source b hw (by rw [hgb]; simp) with h | ⟨d, hd, hgd, h⟩
      · omega
      · exact k4 d hd hgd (h.symm.trans he)
    · rw [sp.same b hw] at hgb
      obtain ⟨_, x0, hx0, _⟩ := hs b x hgb
      rw [hag b (hH b x0 hx0).1] at he
      have := hfit.inj b c x0 y hx0 hgc he
      subst this
      exact hc hb
  refine ⟨φ', rfl, hag, ⟨fun c o hc => ?_, fun b c x y hb hc he => ?_, fun c o hc => ?_, fun r hr => ?_, Nat.le_trans hfit.size hm.size, hm.kept.1.trans hfit.env.1, hm.kept.2.trans hfit.env.2⟩, fun c o hc => ?_⟩
  · unfold after at hc
    split at hc
    · exact hF'.holds c o trivial hc
    · rename_i hw; exact (away c o hw hc).1
  · unfold after at hb hc
    by_cases hwb : s'.wr.testBit b = true <;> by_cases hwc : s'.wr.testBit c = true
    · rw [if_pos hwb] at hb; rw [if_pos hwc] at hc
      exact hF'.inj b c trivial trivial (by rw [hb]; simp) (by rw [hc]; simp) he
    · rw [if_pos hwb] at hb; rw [if_neg hwc] at hc
      exact absurd he (apart b c x y hwb hb hwc hc)
    · rw [if_neg hwb] at hb; rw [if_pos hwc] at hc
      exact absurd he.symm (apart c b y x hwc hc hwb hb)
    · rw [if_neg hwb] at hb; rw [if_neg hwc] at hc
      rw [(away b x hwb hb).2.1, (away c y hwc hc).2.1] at he
      exact hfit.inj b c x y hb hc he
  · unfold after at hc
    split at hc
    · by_cases hW : W c
      · rcases hm.source c hW (by rw [hc]; simp) with h | ⟨d, hd, hgd, h⟩
        · exact Nat.le_trans hfit.size h
        · obtain ⟨x, hx⟩ := some_of_ne hgd
          obtain ⟨_, x0, hx0, _⟩ := hs d x hx
          rw [h]; exact hfit.base d x0 hx0
      · rw [sp.same c hW] at hc
        obtain ⟨_, x0, hx0, _⟩ := hs c o hc
        rw [hag c (hH c x0 hx0).1]; exact hfit.base c x0 hx0
    · rw [hag c (hH c o hc).1]; exact hfit.base c o hc
  · rw [hm.frame r (Nat.lt_of_lt_of_le hr hfit.size) fun c hc hgc => ?_]
    · exact hfit.old r hr
    · obtain ⟨x, hx⟩ := some_of_ne hgc
      obtain ⟨_, x0, hx0, _⟩ := hs c x hx
      have := hfit.base c x0 hx0
      omega
  · unfold after at hc
    split at hc
    · exact hO' c o trivial hc
    · have := hH c o hc
      exact ⟨Nat.lt_of_lt_of_le this.1 sp.next, this.2.mono fun i hi => Nat.lt_of_lt_of_le hi sp.next⟩

/-- Other names for the blocks of a heap. -/
theorem FitH.rename {H H' : Nat → Option AObj} {φ φ' : Phi} {w : World} (h : FitH κ H φ w) (ρ : Nat → Nat) (hρ : ∀ b c x y, H' b = some x → H' c = some y → ρ b = ρ c → b = c)
    (hH : ∀ c o', H' c = some o' → φ' c = φ (ρ c) ∧ ∃ o, H (ρ c) = some o ∧ Same φ φ' o o') : FitH κ H' φ' w := by
  refine ⟨?_, ?_, fun c o' hc => ?_, h.old, h.size, h.env⟩
  · intro c o' hc
    obtain ⟨h1, o, h2, h3⟩ := hH c o' hc
    exact (h.holds (ρ c) o h2).same h1 h3
  · intro b c x y hb hc he
    obtain ⟨h1, o, h2, h3⟩ := hH b x hb
    obtain ⟨g1, p, g2, g3⟩ := hH c y hc
    rw [h1, g1] at he
    exact hρ b c x y hb hc (h.inj _ _ o p h2 g2 he)
  · obtain ⟨h1, o, h2, _⟩ := hH c o' hc
    rw [h1]; exact h.base _ o h2
end Ev
end Go.Proofs.YtpkfimijnkkbjaaGreat
