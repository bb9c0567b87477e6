/-
  A drawn region does in any order what was reckoned in the text's order.
-/
import Derived.Test.YtpkfimijnkkbjaaGreatJ11
set_option linter.unusedVariables false
namespace Go.Proofs.YtpkfimijnkkbjaaGreat
namespace Ev

variable {P : Program} {ops : Array Oper} {nt : Nat}

/-- What a block is behind those operations of the first k that are done. -/
def CB (S : Nat → St) (W : Nat → Nat → Prop) (L : Nat → Prop) (b : Nat) : Nat → Option AObj → Prop
  | 0, x => x = (S 0).get b
  | k + 1, x => (L k ∧ W k b ∧ x = (S (k + 1)).get b) ∨ (¬ (L k ∧ W k b) ∧ CB S W L b k x)
def dstIs (ops : Array Oper) (k t : Nat) : Prop := ∃ r, ops[k]? = some r ∧ r.dst = some t
/-- What a slot is. -/
def SB (ops : Array Oper) (E : Nat → Env) (V : Nat → AV) (L : Nat → Prop) (t : Nat) : Nat → Option AV → Prop
  | 0, x => x = (E 0).look t
  | k + 1, x => (L k ∧ dstIs ops k t ∧ x = some (V k)) ∨ (¬ (L k ∧ dstIs ops k t) ∧ SB ops E V L t k x)

section
variable {S : Nat → St} {E : Nat → Env} {V : Nat → AV} {R W : Nat → Nat → Prop} {L : Nat → Prop} {n : Nat}

theorem cb_fun {b : Nat} : ∀ {k : Nat} {x y : Option AObj}, CB S W L b k x → CB S W L b k y → x = y
  | 0, _, _, h, h' => h.trans h'.symm
  | k + 1, _, _, h, h' => by
    rcases h with ⟨h1, h2, h3⟩ | ⟨h1, h2⟩ <;> rcases h' with ⟨g1, g2, g3⟩ | ⟨g1, g2⟩
    · exact h3.trans g3.symm
    · exact absurd ⟨h1, h2⟩ g1
    · exact absurd ⟨g1, g2⟩ h1
    · exact cb_fun h2 g2
theorem sb_fun {t : Nat} : ∀ {k : Nat} {x y : Option AV}, SB ops E V L t k x → SB ops E V L t k y → x = y
  | 0, _, _, h, h' => h.trans h'.symm
  | k + 1, _, _, h, h' => by
    rcases h with ⟨h1, h2, h3⟩ | ⟨h1, h2⟩ <;> rcases h' with ⟨g1, g2, g3⟩ | ⟨g1, g2⟩
    · exact h3.trans g3.symm
    · exact absurd ⟨h1, h2⟩ g1
    · exact absurd ⟨g1, g2⟩ h1
    · exact sb_fun h2 g2


theorem seg_next (seg : Seg P ops nt 0 n S E V R W) : ∀ k k', k ≤ k' → k' ≤ n → (S k).next ≤ (S k').next := by
  intro k k' h h'
  induction k' with
  | zero => have : k = 0 := by omega
            subst this; exact Nat.le_refl _
  | succ k' ih =>
    by_cases hk : k = k' + 1
    · subst hk; exact Nat.le_refl _
    · obtain ⟨r, _, st⟩ := seg.step k' (Nat.zero_le _) (by omega)
      exact Nat.le_trans (ih (by omega) (by omega)) st.next
theorem seg_pre (seg : Seg P ops nt 0 n S E V R W) : ∀ k, k ≤ n → (S n).pre → (S k).pre := by
  intro k hk hp
  have : ∀ m, k + m ≤ n → (S (k + m)).pre → (S k).pre := by
    intro m
    induction m with
    | zero => exact fun _ h => h
    | succ m ih =>
      intro hm h
      obtain ⟨r, _, st⟩ := seg.step (k + m) (Nat.zero_le _) (by omega)
      exact ih (by omega) (st.pre h)
  have := this (n - k) (by omega)
  rw [show k + (n - k) = n by omega] at this
  exact this hp

/-- Where a block's cells came from. -/
theorem seg_get (seg : Seg P ops nt 0 n S E V R W) {b : Nat} {o : AObj} : ∀ k, k ≤ n → (S k).get b = some o → (S 0).get b = some o ∨ ∃ i, i < k ∧ W i b ∧ (S (i + 1)).get b = some o := by
  intro k
  induction k with
  | zero => exact fun _ h => .inl h
  | succ k ih =>
    intro hk h
    obtain ⟨r, _, st⟩ := seg.step k (Nat.zero_le _) (by omega)
    by_cases hw : W k b
    · exact .inr ⟨k, by omega, hw, h⟩
    · rw [st.same b hw] at h
      rcases ih (by omega) h with h | ⟨i, hi, h⟩
      · exact .inl h
      · exact .inr ⟨i, by omega, h⟩
/-- Where a slot's value came from. -/
theorem seg_look (seg : Seg P ops nt 0 n S E V R W) {t : Nat} {u : AV} : ∀ k, k ≤ n → (E k).look t = some u → (E 0).look t = some u ∨ ∃ i, i < k ∧ dstIs ops i t ∧ u = V i := by
  intro k
  induction k with
  | zero => exact fun _ h => .inl h
  | succ k ih =>
    intro hk h
    obtain ⟨r, hr, st⟩ := seg.step k (Nat.zero_le _) (by omega)
    have hput := st.put
    cases hd : r.dst with
    | none =>
      rw [hd] at hput
      simp [putE] at hput
      rw [← hput] at h
      rcases ih (by omega) h with h | ⟨i, hi, h⟩
      · exact .inl h
      · exact .inr ⟨i, by omega, h⟩
    | some d =>
      rw [hd] at hput
      simp only [putE] at hput
      split at hput
      · injection hput with hput
        rw [← hput, look_cons] at h
        split at h
        · rename_i hdt
          subst hdt
          cases h
          exact .inr ⟨k, by omega, ⟨r, hr, hd⟩, rfl⟩
        · rcases ih (by omega) h with h | ⟨i, hi, h⟩
          · exact .inl h
          · exact .inr ⟨i, by omega, h⟩
      · cases hput

/-- The names that an operation can know. -/
def Dj (ops : Array Oper) (S : Nat → St) (j i : Nat) : Prop := i < (S 0).next ∨ ∃ k, (k = j ∨ Before ops j k) ∧ (S k).next ≤ i ∧ i < (S (k + 1)).next
theorem dj_sub (hb : Back ops) {i j : Nat} (h : Before ops j i) : ∀ x, Dj ops S i x → Dj ops S j x := by
  rintro x (hx | ⟨k, hk, hx⟩)
  · exact .inl hx
  · refine .inr ⟨k, .inr ?_, hx⟩
    rcases hk with rfl | hk
    · exact h
    · exact before_trans hb j i k h hk
theorem dj_lt (seg : Seg P ops nt 0 n S E V R W) (hb : Back ops) {j : Nat} (hj : j < n) : ∀ x, Dj ops S j x → x < (S (j + 1)).next := by
  rintro x (hx | ⟨k, hk, hx1, hx2⟩)
  · exact Nat.lt_of_lt_of_le hx (seg_next seg 0 (j + 1) (Nat.zero_le _) (by omega))
  · have hkj : k ≤ j := by
      rcases hk with rfl | hk
      · exact Nat.le_refl _
      · exact Nat.le_of_lt (before_lt hb j k hk)
    exact Nat.lt_of_lt_of_le hx2 (seg_next seg (k + 1) (j + 1) (by omega) (by omega))
theorem dj_apart (seg : Seg P ops nt 0 n S E V R W) (hb : Back ops) {i j : Nat} (hi : i < n) (hj : j < n) (hij : i ≠ j) (hnb : ¬ Before ops i j) : ∀ x, Dj ops S i x → ¬ ((S j).next ≤ x ∧ x < (S (j + 1)).next) := by
  rintro x (hx | ⟨k, hk, hx1, hx2⟩) ⟨h1, h2⟩
  · have := seg_next seg 0 j (Nat.zero_le _) (by omega); omega
  · have hkj : k ≠ j := by
      rcases hk with rfl | hk
      · exact hij
      · intro e; subst e; exact hnb hk
    have hkn : k < n := by
      rcases hk with rfl | hk
      · exact hi
      · exact Nat.lt_trans (before_lt hb i k hk) hi
    rcases Nat.lt_or_gt_of_ne hkj with h | h
    · have := seg_next seg (k + 1) j (by omega) (by omega); omega
    · have := seg_next seg (j + 1) k (by omega) (by omega); omega

/-- Each operation knows no other names. -/
theorem seg_ids (seg : Seg P ops nt 0 n S E V R W) (hb : Back ops) (hslot : ∀ i j ri rj, i < j → ops[i]? = some ri → ops[j]? = some rj → ¬ Before ops j i → (∀ d, ri.dst = some d → d ∉ looks ops rj) ∧ (∀ d, ri.dst = some d → rj.dst ≠ some d) ∧ (∀ d, rj.dst = some d → d ∉ looks ops ri)) (hp : (S n).pre) (hold : ∀ j, j < n → ∀ b o, R j b → (S 0).get b = some o → o.All (· < (S 0).next)) (henv : EnvAll (· < (S 0).next) (E 0)) :
    ∀ j, j < n → (V j).All (Dj ops S j) ∧ ∀ b o, W j b → (S (j + 1)).get b = some o → o.All (Dj ops S j) := by
  intro j
  induction j using Nat.strongRecOn with
  | _ j ih =>
    intro hj
    obtain ⟨r, hr, st⟩ := seg.step j (Nat.zero_le _) hj
    refine st.ids (Dj ops S j) (seg_pre seg (j + 1) (by omega) hp) (fun i h1 h2 => .inr ⟨j, .inl rfl, h1, h2⟩) ?_ ?_
    · intro t ht u hu
      rcases seg_look seg j (by omega) hu with h | ⟨i, hi, ⟨ri, hri, hd⟩, rfl⟩
      · exact (henv t u h).mono fun i hi => .inl hi
      · by_cases hbe : Before ops j i
        · exact ((ih i hi (by omega)).1).mono (dj_sub hb hbe)
        · exact absurd ht ((hslot i j ri r hi hri hr hbe).1 t hd)
    · intro b o hRb hg
      rcases seg_get seg j (by omega) hg with h | ⟨i, hi, hw, h⟩
      · exact (hold j hj b o hRb h).mono fun i hi => .inl hi
      · by_cases hbe : Before ops j i
        · exact ((ih i hi (by omega)).2 b o hw h).mono (dj_sub hb hbe)
        · exact absurd hRb ((seg.apart i j (Nat.zero_le _) hi hj hbe b).1 hw)

/-- What an operation reads is as it was reckoned, whatever was done ahead of it. -/
theorem cb_at (seg : Seg P ops nt 0 n S E V R W) (hc : ∀ i k, L i → Before ops i k → L k) {j b : Nat} (hj : j < n) (hnl : ¬ L j) (hpre : ∀ i, Before ops j i → L i) (hRb : R j b) : CB S W L b n ((S j).get b) := by
  have h1 : ∀ k, k ≤ j → CB S W L b k ((S k).get b) := by
    intro k
    induction k with
    | zero => exact fun _ => rfl
    | succ k ih =>
      intro hk
      by_cases hw : W k b
      · left
        refine ⟨?_, hw, rfl⟩
        by_cases hbe : Before ops j k
        · exact hpre k hbe
        · exact absurd hRb ((seg.apart k j (Nat.zero_le _) (by omega) hj hbe b).1 hw)
      · right
        obtain ⟨r, _, st⟩ := seg.step k (Nat.zero_le _) (by omega)
        rw [st.same b hw]
        exact ⟨fun h => hw h.2, ih (by omega)⟩
  have h2 : ∀ m, j + m ≤ n → CB S W L b (j + m) ((S j).get b) := by
    intro m
    induction m with
    | zero => exact fun _ => h1 j (Nat.le_refl _)
    | succ m ih =>
      intro hm
      right
      refine ⟨fun ⟨hl, hw⟩ => ?_, ih (by omega)⟩
      by_cases hmj : m = 0
      · subst hmj; exact hnl hl
      · by_cases hbe : Before ops (j + m) j
        · exact hnl (hc _ _ hl hbe)
        · exact (seg.apart j (j + m) (Nat.zero_le _) (by omega) (by omega) hbe b).2 hRb hw
  have := h2 (n - j) (by omega)
  rwa [show j + (n - j) = n by omega] at this
theorem sb_at (seg : Seg P ops nt 0 n S E V R W) (hn : n = ops.size) (hslot : ∀ i j ri rj, i < j → ops[i]? = some ri → ops[j]? = some rj → ¬ Before ops j i → (∀ d, ri.dst = some d → d ∉ looks ops rj) ∧ (∀ d, ri.dst = some d → rj.dst ≠ some d) ∧ (∀ d, rj.dst = some d → d ∉ looks ops ri)) (hc : ∀ i k, L i → Before ops i k → L k) {j t : Nat} {r : Oper} (hr : ops[j]? = some r) (hj : j < n) (hnl : ¬ L j) (hpre : ∀ i, Before ops j i → L i) (ht : t ∈ looks ops r) : SB ops E V L t n ((E j).look t) := by
  have h1 : ∀ k, k ≤ j → SB ops E V L t k ((E k).look t) := by
    intro k
    induction k with
    | zero => exact fun _ => rfl
    | succ k ih =>
      intro hk
      obtain ⟨rk, hrk, st⟩ := seg.step k (Nat.zero_le _) (by omega)
      have hput := st.put
      by_cases hd : rk.dst = some t
      · left
        refine ⟨?_, ⟨rk, hrk, hd⟩, ?_⟩
        · by_cases hbe : Before ops j k
          · exact hpre k hbe
          · exact absurd ht ((hslot k j rk r (by omega) hrk hr hbe).1 t hd)
        · rw [hd] at hput
          simp only [putE] at hput
          split at hput
          · injection hput with hput; rw [← hput, look_cons, if_pos rfl]
          · cases hput
      · right
        refine ⟨fun ⟨_, q, hq, hdq⟩ => hd (by rw [hrk] at hq; cases hq; exact hdq), ?_⟩
        have : (E (k + 1)).look t = (E k).look t := by
          cases hdd : rk.dst with
          | none => rw [hdd] at hput; simp [putE] at hput; rw [← hput]
          | some d =>
            rw [hdd] at hput
            simp only [putE] at hput
            split at hput
            · injection hput with hput
              rw [← hput, look_cons, if_neg (fun e => hd (by rw [hdd, e]))]
            · cases hput
        rw [this]
        exact ih (by omega)
  have h2 : ∀ m, j + m ≤ n → SB ops E V L t (j + m) ((E j).look t) := by
    intro m
    induction m with
    | zero => exact fun _ => h1 j (Nat.le_refl _)
    | succ m ih =>
      intro hm
      right
      refine ⟨fun ⟨hl, rm, hrm, hd⟩ => ?_, ih (by omega)⟩
      by_cases hmj : m = 0
      · subst hmj; exact hnl hl
      · by_cases hbe : Before ops (j + m) j
        · exact hnl (hc _ _ hl hbe)
        · exact (hslot j (j + m) r rm (by omega) hr hrm hbe).2.2 t hd ht
  have := h2 (n - j) (by omega)
  rwa [show j + (n - j) = n by omega] at this

/-- One more is done. -/
def Plus (L : Nat → Prop) (j : Nat) : Nat → Prop := fun k => L k ∨ k = j
theorem cb_new (seg : Seg P ops nt 0 n S E V R W) (hc : ∀ i k, L i → Before ops i k → L k) {j b : Nat} (hj : j < n) (hnl : ¬ L j) (hw : W j b) : CB S W (Plus L j) b n ((S (j + 1)).get b) := by
  obtain ⟨r, _, st⟩ := seg.step j (Nat.zero_le _) hj
  have h2 : ∀ m, j + 1 + m ≤ n → CB S W (Plus L j) b (j + 1 + m) ((S (j + 1)).get b) := by
    intro m
    induction m with
    | zero => exact fun _ => .inl ⟨.inr rfl, hw, rfl⟩
    | succ m ih =>
      intro hm
      right
      refine ⟨fun ⟨hl, hwk⟩ => ?_, ih (by omega)⟩
      have hl' : L (j + 1 + m) := hl.resolve_right (fun e => by change j + 1 + m = j at e; omega)
      by_cases hbe : Before ops (j + 1 + m) j
      · exact hnl (hc _ _ hl' hbe)
      · exact (seg.apart j (j + 1 + m) (Nat.zero_le _) (by omega) (by omega) hbe b).2 (st.sub b hw) hwk
  have := h2 (n - (j + 1)) (by omega)
  rwa [show j + 1 + (n - (j + 1)) = n by omega] at this
theorem cb_old {j b : Nat} (hw : ¬ W j b) : ∀ {k : Nat} {x : Option AObj}, CB S W (Plus L j) b k x → CB S W L b k x
  | 0, _, h => h
  | k + 1, x, h => by
    have e : (Plus L j k ∧ W k b) ↔ (L k ∧ W k b) := ⟨fun ⟨h1, h2⟩ => ⟨h1.resolve_right (fun e => hw (e ▸ h2)), h2⟩, fun ⟨h1, h2⟩ => ⟨.inl h1, h2⟩⟩
    rcases h with ⟨h1, h2, h3⟩ | ⟨h1, h2⟩
    · exact .inl ⟨(e.1 ⟨h1, h2⟩).1, h2, h3⟩
    · exact .inr ⟨fun h => h1 (e.2 h), cb_old hw h2⟩
theorem sb_new (hn : n = ops.size) (hslot : ∀ i j ri rj, i < j → ops[i]? = some ri → ops[j]? = some rj → ¬ Before ops j i → (∀ d, ri.dst = some d → d ∉ looks ops rj) ∧ (∀ d, ri.dst = some d → rj.dst ≠ some d) ∧ (∀ d, rj.dst = some d → d ∉ looks ops ri)) (hc : ∀ i k, L i → Before ops i k → L k) {j t : Nat} {r : Oper} (hr : ops[j]? = some r) (hj : j < n) (hnl : ¬ L j) (hd : r.dst = some t) : SB ops E V (Plus L j) t n (some (V j)) := by
  have h2 : ∀ m, j + 1 + m ≤ n → SB ops E V (Plus L j) t (j + 1 + m) (some (V j)) := by
    intro m
    induction m with
    | zero => exact fun _ => .inl ⟨.inr rfl, ⟨r, hr, hd⟩, rfl⟩
    | succ m ih =>
      intro hm
      right
      refine ⟨fun ⟨hl, rm, hrm, hdm⟩ => ?_, ih (by omega)⟩
      have hl' : L (j + 1 + m) := hl.resolve_right (fun e => by change j + 1 + m = j at e; omega)
      by_cases hbe : Before ops (j + 1 + m) j
      · exact hnl (hc _ _ hl' hbe)
      · exact (hslot j (j + 1 + m) r rm (by omega) hr hrm hbe).2.1 t hd hdm
  have := h2 (n - (j + 1)) (by omega)
  rwa [show j + 1 + (n - (j + 1)) = n by omega] at this
theorem sb_old {j t : Nat} {r : Oper} (hr : ops[j]? = some r) (hd : r.dst ≠ some t) : ∀ {k : Nat} {x : Option AV}, SB ops E V (Plus L j) t k x → SB ops E V L t k x
  | 0, _, h => h
  | k + 1, x, h => by
    have e : (Plus L j k ∧ dstIs ops k t) ↔ (L k ∧ dstIs ops k t) := ⟨fun ⟨h1, h2⟩ => ⟨h1.resolve_right (fun e => by
      subst e; obtain ⟨q, hq, hdq⟩ := h2; rw [hr] at hq; cases hq; exact hd hdq), h2⟩, fun ⟨h1, h2⟩ => ⟨.inl h1, h2⟩⟩
    rcases h with ⟨h1, h2, h3⟩ | ⟨h1, h2⟩
    · exact .inl ⟨(e.1 ⟨h1, h2⟩).1, h2, h3⟩
    · exact .inr ⟨fun h => h1 (e.2 h), sb_old hr hd h2⟩
theorem cb_from {b : Nat} {o : AObj} : ∀ {k : Nat}, CB S W L b k (some o) → (S 0).get b = some o ∨ ∃ i, i < k ∧ L i ∧ W i b ∧ (S (i + 1)).get b = some o
  | 0, h => .inl h.symm
  | k + 1, h => by
    rcases h with ⟨h1, h2, h3⟩ | ⟨h1, h2⟩
    · exact .inr ⟨k, by omega, h1, h2, h3.symm⟩
    · rcases cb_from h2 with h | ⟨i, hi, h⟩
      · exact .inl h
      · exact .inr ⟨i, by omega, h⟩
theorem sb_from {t : Nat} {u : AV} : ∀ {k : Nat}, SB ops E V L t k (some u) → (E 0).look t = some u ∨ ∃ i, i < k ∧ L i ∧ dstIs ops i t ∧ u = V i
  | 0, h => .inl h.symm
  | k + 1, h => by
    rcases h with ⟨h1, h2, h3⟩ | ⟨h1, h2⟩
    · exact .inr ⟨k, by omega, h1, h2, by cases h3; rfl⟩
    · rcases sb_from h2 with h | ⟨i, hi, h⟩
      · exact .inl h
      · exact .inr ⟨i, by omega, h⟩

/-- How things stand when some operations are done. -/
structure Inv (ops : Array Oper) (nt n : Nat) (S : Nat → St) (E : Nat → Env) (V : Nat → AV) (R W : Nat → Nat → Prop) (L : Nat → Prop) (φ0 : Phi) (w0 : World) (a0 : Act) (φ : Phi) (a : Act) (w : World) : Prop where
  holds : ∀ b o, (∃ j, j < n ∧ R j b) → CB S W L b n (some o) → Holds φ b o w
  inj : ∀ b c x y, (∃ j, j < n ∧ R j b) → (∃ j, j < n ∧ R j c) → CB S W L b n (some x) → CB S W L c n (some y) → (φ b).blk = (φ c).blk → b = c
  slots : ∀ t u, SB ops E V L t n (some u) → a.tmps[t]? = some (conc φ u)
  size : a.tmps.size = nt
  defers : a.defers = a0.defers
  agree : ∀ i, (∀ j, j < n → L j → ¬ ((S j).next ≤ i ∧ i < (S (j + 1)).next)) → φ i = φ0 i
  source : ∀ b x, (∃ j, j < n ∧ L j ∧ W j b) → CB S W L b n (some x) → w0.heap.size ≤ (φ b).blk ∨ ∃ c, (∃ j, j < n ∧ L j ∧ W j c) ∧ (S 0).get c ≠ none ∧ (φ b).blk = (φ0 c).blk
  frame : ∀ r, r < w0.heap.size → (∀ c, (∃ j, j < n ∧ L j ∧ W j c) → (S 0).get c ≠ none → (φ0 c).blk ≠ r) → w.heap[r]? = w0.heap[r]?
  grown : w0.heap.size ≤ w.heap.size
  kept : w.os = w0.os ∧ w.output = w0.output

variable {φ0 φ φ' : Phi} {w0 w w' : World} {a0 a : Act}

theorem inv_fits (seg : Seg P ops nt 0 n S E V R W) (hc : ∀ i k, L i → Before ops i k → L k) {j : Nat} (hj : j < n) (hnl : ¬ L j) (hpre : ∀ i, Before ops j i → L i) (I : Inv ops nt n S E V R W L φ0 w0 a0 φ a w) : Fits (S j) (R j) φ w where
  holds b o hRb hg := I.holds b o ⟨j, hj, hRb⟩ (by rw [← hg]; exact cb_at seg hc hj hnl hpre hRb)
  inj b c hRb hRc hgb hgc he := by
    obtain ⟨x, hx⟩ := some_of_ne hgb
    obtain ⟨y, hy⟩ := some_of_ne hgc
    exact I.inj b c x y ⟨j, hj, hRb⟩ ⟨j, hj, hRc⟩ (by rw [← hx]; exact cb_at seg hc hj hnl hpre hRb) (by rw [← hy]; exact cb_at seg hc hj hnl hpre hRc) he

theorem inv_step (seg : Seg P ops nt 0 n S E V R W) (hn : n = ops.size) (hb : Back ops) (hslot : ∀ i j ri rj, i < j → ops[i]? = some ri → ops[j]? = some rj → ¬ Before ops j i → (∀ d, ri.dst = some d → d ∉ looks ops rj) ∧ (∀ d, ri.dst = some d → rj.dst ≠ some d) ∧ (∀ d, rj.dst = some d → d ∉ looks ops ri)) (hp : (S n).pre) (hold : ∀ j, j < n → ∀ b o, R j b → (S 0).get b = some o → b < (S 0).next ∧ o.All (· < (S 0).next)) (henv : EnvAll (· < (S 0).next) (E 0))
    (hc : ∀ i k, L i → Before ops i k → L k) {j : Nat} {r : Oper} (hr : ops[j]? = some r) (hj : j < n) (hnl : ¬ L j) (hpre : ∀ i, Before ops j i → L i) (I : Inv ops nt n S E V R W L φ0 w0 a0 φ a w)
    (hm : Moves (S j) (S (j + 1)) (W j) φ φ' w w') : Inv ops nt n S E V R W (Plus L j) φ0 w0 a0 φ' (a.put r.dst (conc φ' (V j))) w' := by
  obtain ⟨r', hr', st⟩ := seg.step j (Nat.zero_le _) hj
  have hrr : r' = r := by rw [hr] at hr'; cases hr'; rfl
  subst hrr
  have hids := seg_ids seg hb hslot hp (fun j hj b o hRb hg => (hold j hj b o hRb hg).2) henv
  have hf := inv_fits seg hc hj hnl hpre I
  have n0 := seg_next seg 0 j (Nat.zero_le _) (by omega)
  -- what is known of blocks that this operation does not write
  have away : ∀ b o, (∃ k, k < n ∧ R k b) → ¬ W j b → CB S W L b n (some o) → Holds φ' b o w' ∧ φ' b = φ b ∧ (φ b).blk < w.heap.size ∧ (∀ c, W j c → (S j).get c ≠ none → (φ c).blk ≠ (φ b).blk) := by
    intro b o hRb hw hcb
    have hH := I.holds b o hRb hcb
    have hne : ∀ c, W j c → (S j).get c ≠ none → (φ c).blk ≠ (φ b).blk := by
      intro c hwc hgc he
      obtain ⟨x, hx⟩ := some_of_ne hgc
      have := I.inj c b x o ⟨j, hj, st.sub c hwc⟩ hRb (by rw [← hx]; exact cb_at seg hc hj hnl hpre (st.sub c hwc)) hcb he
      subst this; exact hw hwc
    have hφ : φ' b = φ b := hm.agree b fun h => hw (st.made b h.1 h.2)
    have hall : o.All (fun x => ¬ ((S j).next ≤ x ∧ x < (S (j + 1)).next)) := by
      rcases cb_from hcb with h | ⟨i, hi, hli, hwi, h⟩
      · obtain ⟨k, hk, hRk⟩ := hRb
        exact (hold k hk b o hRk h).2.mono fun x hx => by omega
      · exact ((hids i hi).2 b o hwi h).mono (dj_apart seg hb hi hj (fun e => hnl (e ▸ hli)) fun hbe => hnl (hc i j hli hbe))
    exact ⟨hH.keep (fun i hi => hm.agree i hi) hall hφ (hm.frame _ hH.lt hne), hφ, hH.lt, hne⟩
  have new : ∀ b x, W j b → CB S W (Plus L j) b n (some x) → (S (j + 1)).get b = some x := fun b x hw hcb => cb_fun (cb_new seg hc hj hnl hw) hcb
  constructor
  · intro b o hRb hcb
    by_cases hw : W j b
    · exact hm.holds b o hw (new b o hw hcb)
    · exact (away b o hRb hw (cb_old hw hcb)).1
  · intro b c x y hRb hRc hcb hcc he
    by_cases hwb : W j b <;> by_cases hwc : W j c
    · exact hm.inj b c hwb hwc (by rw [new b x hwb hcb]; simp) (by rw [new c y hwc hcc]; simp) he
    · obtain ⟨_, k2, k3, k4⟩ := away c y hRc hwc (cb_old hwc hcc)
      rw [k2] at he
      rcases hm.source b hwb (by rw [new b x hwb hcb]; simp) with h | ⟨d, hd, hgd, h⟩
      · omega
      · exact absurd (h.symm.trans he) (k4 d hd hgd)
    · obtain ⟨_, k2, k3, k4⟩ := away b x hRb hwb (cb_old hwb hcb)
      rw [k2] at he
      rcases hm.source c hwc (by rw [new c y hwc hcc]; simp) with h | ⟨d, hd, hgd, h⟩
      · omega
      · exact absurd (h.symm.trans he.symm) (k4 d hd hgd)
    · have k1 := away b x hRb hwb (cb_old hwb hcb)
      have k2 := away c y hRc hwc (cb_old hwc hcc)
      rw [k1.2.1, k2.2.1] at he
      exact I.inj b c x y hRb hRc (cb_old hwb hcb) (cb_old hwc hcc) he
  · intro t u hs
    by_cases hd : r'.dst = some t
    · have hu := sb_fun (sb_new hn hslot hc hr hj hnl hd) hs
      cases hu
      have hput := st.put
      rw [hd] at hput
      simp only [putE] at hput
      split at hput
      · rename_i hlt
        have hlt' : t < nt := Nat.le_of_ble_eq_true hlt
        rw [hd]
        simp [Act.put, I.size, hlt']
      · cases hput
    · have hs' := sb_old hr hd hs
      have h1 := I.slots t u hs'
      have hu : conc φ' u = conc φ u := by
        refine conc_congr (D := fun x => ¬ ((S j).next ≤ x ∧ x < (S (j + 1)).next)) (fun i hi => hm.agree i hi) ?_
        rcases sb_from hs' with h | ⟨i, hi, hli, _, rfl⟩
        · exact (henv t u h).mono fun x hx => by omega
        · exact (hids i hi).1.mono (dj_apart seg hb hi hj (fun e => hnl (e ▸ hli)) fun hbe => hnl (hc i j hli hbe))
      rw [hu]
      cases hdd : r'.dst with
      | none => exact h1
      | some d =>
        simp only [Act.put]
        rw [Array.getElem?_setIfInBounds_ne (fun e => hd (by rw [hdd, e]))]
        exact h1
  · cases hdd : r'.dst with
    | none => exact I.size
    | some d => simp [Act.put, I.size]
  · cases hdd : r'.dst with
    | none => exact I.defers
    | some d => exact I.defers
  · intro i hi
    rw [hm.agree i (hi j hj (.inr rfl))]
    exact I.agree i fun k hk hl => hi k hk (.inl hl)
  · intro b x hWb hcb
    by_cases hw : W j b
    · rcases hm.source b hw (by rw [new b x hw hcb]; simp) with h | ⟨c, hwc, hgc, h⟩
      · exact .inl (Nat.le_trans I.grown h)
      · obtain ⟨y, hy⟩ := some_of_ne hgc
        have hcc : CB S W L c n (some y) := by rw [← hy]; exact cb_at seg hc hj hnl hpre (st.sub c hwc)
        rcases cb_from hcc with h0 | ⟨i, hi, hli, hwi, _⟩
        · -- not written so far, or else a source of its own
          by_cases hwl : ∃ k, k < n ∧ L k ∧ W k c
          · rcases I.source c y hwl hcc with h' | ⟨d, ⟨k, hk, hlk, hwk⟩, hgd, h'⟩
            · exact .inl (by omega)
            · exact .inr ⟨d, ⟨k, hk, .inl hlk, hwk⟩, hgd, by rw [h, h']⟩
          · refine .inr ⟨c, ⟨j, hj, .inr rfl, hwc⟩, by rw [h0]; simp, ?_⟩
            rw [h, I.agree c fun k hk hlk hck => ?_]
            obtain ⟨rk, _, stk⟩ := seg.step k (Nat.zero_le _) hk
            exact hwl ⟨k, hk, hlk, stk.made c hck.1 hck.2⟩
        · rcases I.source c y ⟨i, hi, hli, hwi⟩ hcc with h' | ⟨d, ⟨k, hk, hlk, hwk⟩, hgd, h'⟩
          · exact .inl (by omega)
          · exact .inr ⟨d, ⟨k, hk, .inl hlk, hwk⟩, hgd, by rw [h, h']⟩
    · have hcb' := cb_old hw hcb
      obtain ⟨k, hk, hlk, hwk⟩ := hWb
      have hlk' : L k := hlk.resolve_right fun e => hw (e ▸ hwk)
      obtain ⟨rk, _, stk⟩ := seg.step k (Nat.zero_le _) hk
      have k1 := away b x ⟨k, hk, stk.sub b hwk⟩ hw hcb'
      rw [k1.2.1]
      rcases I.source b x ⟨k, hk, hlk', hwk⟩ hcb' with h | ⟨d, ⟨i, hi, hli, hwi⟩, hgd, h⟩
      · exact .inl h
      · exact .inr ⟨d, ⟨i, hi, .inl hli, hwi⟩, hgd, h⟩
  · intro k hk hne
    have h1 := I.frame k hk fun c ⟨i, hi, hli, hwi⟩ hgc => hne c ⟨i, hi, .inl hli, hwi⟩ hgc
    rw [hm.frame k (Nat.lt_of_lt_of_le hk I.grown) ?_, h1]
    intro c hwc hgc he
    obtain ⟨y, hy⟩ := some_of_ne hgc
    have hcc : CB S W L c n (some y) := by rw [← hy]; exact cb_at seg hc hj hnl hpre (st.sub c hwc)
    by_cases hwl : ∃ i, i < n ∧ L i ∧ W i c
    · rcases I.source c y hwl hcc with h' | ⟨d, ⟨i, hi, hli, hwi⟩, hgd, h'⟩
      · omega
      · exact hne d ⟨i, hi, .inl hli, hwi⟩ hgd (by rw [← h', he])
    · have h0 : (S 0).get c ≠ none := by
        rcases cb_from hcc with h0 | ⟨i, hi, hli, hwi, _⟩
        · rw [h0]; simp
        · exact absurd ⟨i, hi, hli, hwi⟩ hwl
      refine hne c ⟨j, hj, .inr rfl, hwc⟩ h0 ?_
      rw [← he, I.agree c fun i hi hli hci => ?_]
      obtain ⟨ri, _, sti⟩ := seg.step i (Nat.zero_le _) hi
      exact hwl ⟨i, hi, hli, sti.made c hci.1 hci.2⟩
  · exact Nat.le_trans I.grown hm.size
  · exact ⟨hm.kept.1.trans I.kept.1, hm.kept.2.trans I.kept.2⟩
end
end Ev
end Go.Proofs.YtpkfimijnkkbjaaGreat
