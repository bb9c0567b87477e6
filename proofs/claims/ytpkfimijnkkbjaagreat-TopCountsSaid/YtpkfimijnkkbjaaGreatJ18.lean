/-
  How a run's blocks make the next heap of the counting play.
  The beginning of the counting play: what run.begin lays is the canonical heap, for so many threads and rounds.
  run.Play's pieces, reckoned.
  A function's last piece.
-/
import Derived.Test.YtpkfimijnkkbjaaGreatJ17
import Derived.Test.YtpkfimijnkkbjaaGreatJ14
import Derived.Test.YtpkfimijnkkbjaaGreatProg
import Derived.KernelRfl
set_option linter.unusedVariables false
namespace Go.Proofs.YtpkfimijnkkbjaaGreat
namespace Ct
open Ev

variable {κ : Keep}

/-- A pick has come to an end, and the play is at another point. -/
def Goes (κ : Keep) (n many k : Nat) (φ : Phi) (oth : Nat → Option AObj) (c' : Cf) (e : Ending) (w' : World) : Prop := ∃ (φ' : Phi) (j' : Jk) (b : Bool), e = .returned (.bool b) ∧ (∀ i, i = 0 ∨ i = 6 ∨ (12 < i ∧ i < 16) → φ' i = φ i) ∧ FitH κ (heap n many c' j') φ' w' ∧ JOk n many c' j' (k + 1) ∧ j'.oth = oth

theorem busy_le {n : Nat} (hn : n ≤ 6) {many : Nat} (hm : many ≤ 5) {c : Cf} (hok : Ok n many c) : (sumN n fun u => c.fin u + (c.mode u).busy) ≤ 96 := by
  have : (sumN n fun u => c.fin u + (c.mode u).busy) ≤ sumN n fun _ => 16 := sumN_le n fun u hu => by
    have h1 := hok.fin u hu
    have h2 : (c.mode u).busy ≤ 1 := by cases c.mode u <;> simp [Mode.busy]
    omega
  rw [sumN_const] at this
  omega
theorem log_le {n : Nat} (hn : n ≤ 6) {many : Nat} (hm : many ≤ 5) {c : Cf} (hok : Ok n many c) : c.log.length ≤ 30 := by
  have := hok.room
  have : n * many ≤ 6 * 5 := Nat.mul_le_mul hn hm
  omega
section
variable {n many : Nat} {c : Cf} {j : Jk}
theorem heap0 {E : AV} (hmany : many ≠ 0) (hE : evsOf j = E) : heap n many c j 0 = some (.row false (PL (3 * n * many) (.sint .i64 j.turn) (mOf c) (fun u => .sint .i64 (j.ats u : Int)) E .nils (fun i => .sint .i64 (j.cn i)) j.idle) 83 none) := by
  rw [← hE, heap_fix (by omega)]
  unfold fixed PL clOf
  simp only
  rw [if_neg hmany]
theorem heap1 : heap n many c j 1 = some (.row false (WL j.now (fun u => .sint .i64 (j.inv u)) (markOf j)) 92 none) := heap_fix (by omega)
theorem heap2 : heap n many c j 2 = some (.row false (ML (2 * n + 65) (2 * n + 65) j.cnt) 129 none) := heap_fix (by omega)
theorem heap3 : heap n many c j 3 = some (.row true (wordsOf n c) 40 (some 1)) := heap_fix (by omega)
theorem heap4 : heap n many c j 4 = some (.row false [.mapv 5, .sint .i64 j.left] 113 none) := heap_fix (by omega)
theorem heap5 : heap n many c j 5 = some (.map true j.lmap) := heap_fix (by omega)
theorem heap7 (h : many ≠ 0) : heap n many c j 7 = some (.row true (callsOf n many) 42 (some 6)) := by
  rw [heap_fix (by omega)]; unfold fixed; simp only; rw [if_neg h]
theorem heap8 (h : j.evl ≠ 0) : heap n many c j 8 = some (.row true j.evs 48 (some 8)) := by
  rw [heap_fix (by omega)]; unfold fixed; simp only; rw [if_neg h]
theorem heap8n (h : j.evl = 0) : heap n many c j 8 = none := by
  rw [heap_fix (by omega)]; unfold fixed; simp only; rw [if_pos h]
theorem heap9 : heap n many c j 9 = some (.row false (OL n) 107 (some 1)) := heap_fix (by omega)
theorem heap10 : heap n many c j 10 = some (.map true j.trmap) := heap_fix (by omega)
theorem heap11 (h : j.tr = true) : heap n many c j 11 = some (.row true (j.was.map fun x => .sint .i64 x) 3 (some 1)) := by
  rw [heap_fix (by omega)]; unfold fixed; simp only; rw [if_pos h]
theorem heap11n (h : j.tr = false) : heap n many c j 11 = none := by
  rw [heap_fix (by omega)]; unfold fixed; simp only; rw [if_neg (by simp [h])]
theorem heap12 : heap n many c j 12 = some (.row false (UL n (ownOf n)) 182 none) := heap_fix (by omega)
theorem heap16 {u : Nat} (hu : u < n) (hn : n ≤ 6) (h : many ≠ 0) : heap n many c j (16 + u) = some (.row true (lstOf n many u) 3 (some 1)) := by
  rw [heap_lst (by omega), if_pos ⟨hu, h⟩]
theorem heap32 {u : Nat} (hu : u < n) (hn : n ≤ 6) : heap n many c j (32 + u) = machOf n c j u := by
  rw [heap_mach (by omega), if_pos hu]
theorem heap64 {u : Nat} (hu : u < n) (hn : n ≤ 6) : heap n many c j (64 + u) = some (.row false (RL (c.ann u : Nat) (c.app u : Nat) (.oslice (80 + u) 1 0 0 1 1) (lastOf c u)) 188 none) := by
  rw [heap_rep (by omega), if_pos hu]
theorem heap80 {u : Nat} (hu : u < n) (hn : n ≤ 6) : heap n many c j (80 + u) = some (.row false [.sint .u64 (j.sv u)] 40 (some 1)) := by
  rw [heap_sv (by omega), if_pos hu]

/-- A block that is as it was. -/
theorem same_keep {k t w e kk m s x b : Nat} {o : AObj} {φ : Phi} (hj : JOk n many c j k) (hb : heap n many c j b = some o) (h0 : b ≠ 0 ∧ b ≠ 1) (h10 : b = 10 → kk = 11) (h64 : b = 64 + t → s = 80 + t) (ht : t < 16) (hw : w < 16) :
    Same φ (fun i => φ (rh t w e kk m s x i)) o o := by
  refine Same.of_all (heap_all hj hb).2 fun i hi => ?_
  obtain ⟨m1, m2, m3, m4, m5⟩ := hi
  have m2' := m2 h0.1
  have m3' := m3 h0.2
  have : rh t w e kk m s x i = i := by
    by_cases h80 : i = 80 + t
    · have := m5 (by omega)
      rw [h80, rh80 ht, h64 (by omega)]
    · by_cases h11 : i = 11
      · by_cases hb10 : b = 10
        · rw [h11, rh11, h10 hb10]
        · exact absurd h11 (m4 hb10)
      · exact rh_id (by omega) h11 (by omega) h80 (by omega)
  simp only [this]
end
theorem words_congr {n : Nat} {c c' : Cf} (hfin : ∀ u, c'.fin u = c.fin u) (hann : ∀ u, c'.ann u = c.ann u) (hlog : c'.log = c.log) : wordsOf n c' = wordsOf n c := by
  unfold wordsOf
  refine List.map_congr_left fun i _ => ?_
  have : wordAt n c' i = wordAt n c i := by
    unfold wordAt tal
    simp only [hfin, hann, hlog]
  rw [this]
theorem last_congr {c c' : Cf} {u : Nat} (happ : c'.app u = c.app u) (hlog : c'.log = c.log) : lastOf c' u = lastOf c u := by
  unfold lastOf; rw [happ, hlog]

/-- An event's steps are counted. -/
theorem evs_step {n k : Nat} {c c' : Cf} {j : Jk} {φ : Phi} {at1 : Nat} {x : AV} {y : Int} (h : EvsOk j.evs j.evl fun i => ∃ u, u < n ∧ (c.mode u).busy = 1 ∧ j.ats u = i) (hat : at1 < j.evl) (hx : x = .sint .i64 y ∨ x = .int .i64 y) (hb : ∀ u, (c'.mode u).busy = (c.mode u).busy) (hk : k = 8 * at1 + 3) :
    EvsOk ((j.evs.set k x).map (kept φ)) j.evl fun i => ∃ u, u < n ∧ (c'.mode u).busy = 1 ∧ j.ats u = i := by
  subst hk
  refine EvsOk.of (by rw [List.length_set]; exact h.len) (fun i hi => ?_) (fun i hi => ?_)
  · rw [List.getElem?_set]
    split
    · have := h.len
      rw [if_pos (by omega)]
      exact ⟨y, hx.imp (fun e => by rw [e]) (fun e => by rw [e])⟩
    · obtain ⟨s, hs⟩ := h.stp i hi
      exact ⟨s, .inl hs⟩
  · obtain ⟨r, hr, h2⟩ := h.rsp i hi
    refine ⟨r, .inl ?_, h2.imp id fun ⟨u, h1, h3, h4⟩ => ⟨u, h1, by rw [hb]; exact h3, h4⟩⟩
    rw [List.getElem?_set_ne (by omega)]; exact hr

/-- A thread goes on within its operation on the log, and the log is as it was. -/
theorem arr_act {n many k : Nat} {c : Cf} {j : Jk} {φ φ1 : Phi} {w' : World} {t : Nat} (hn : n ≤ 6) (hm : many ≤ 5) (ht : t < n) (hok : Ok n many c) (hj : JOk n many c j k) (hk : k ≤ 1000000)
    {pc0 pc : Nat} {o0 o : Nat × Nat} (hmode : c.mode t = .act pc0 o0) (hφ : ∀ i, i < 96 → φ1 i = φ i) {s : St} {WR : List Nat} (hWR : ∀ b, b ∈ WR → b = 0 ∨ b = 1 ∨ b = 2 ∨ b = 8 ∨ b = 32 + t ∨ (96 ≤ b ∧ b < 128)) (hin : 0 ∈ WR ∧ 1 ∈ WR ∧ 2 ∈ WR ∧ 8 ∈ WR ∧ 32 + t ∈ WR)
    (hwr : ∀ b, b < 128 → (s.wr.testBit b = true ↔ b ∈ WR)) (hfit : FitH κ (after (heap n many c j) s) φ1 w')
    {turn : AV} {turn' : Int} (hturn : turn = .int .i64 turn') {stp : Int} {off : Int} {cnt : Nat → Int} {pcv : AV} (hpc : pcv = .int .i64 (pc : Int))
    (h0 : s.get 0 = some (.row false (PL (3 * n * many) turn (updA (mOf c) t (.iface 279 (.ptr (32 + t) 0))) (updA (fun u => .sint .i64 (j.ats u : Int)) t (.sint .i64 (j.ats t : Int))) (.soslice 8 8 0 0 j.evl j.evl) .nils (fun i => .sint .i64 (j.cn i)) j.idle) 83 none))
    (h1 : s.get 1 = some (.row false (WL (IntKind.i64.wrap (j.now + (1 : Int))) (fun u => .sint .i64 (j.inv u)) (updA (markOf j) t (markOf j t))) 92 none))
    (h2 : s.get 2 = some (.row false (ML (2 * n + 65) (2 * n + 65) cnt) 129 none))
    (h8 : s.get 8 = some (.row true (j.evs.set (((0 : Nat) + (j.ats t : Int).toNat) * (8 : Nat) + (2 + (1 : Nat))) (.sint .i64 (IntKind.i64.wrap (stp + (1 : Int))))) 48 (some 8)))
    (h32 : s.get (32 + t) = some (.row false [.ptr 12 0, .ptr (64 + t) 0, .int .i64 (t : Int), pcv, .sint .u64 (pk (t, c.ann t) : Nat), .sint .u64 off, .sint .i64 (j.ans t 0), .sint .u64 (j.ans t 1), .nils, .nils] 282 none))
    (hoff : pc = 3 → off = (pk o : Int)) : Goes κ n many k φ j.oth { c with mode := updA c.mode t (.act pc o) } (.returned (.bool false)) w' := by
  have hbusy : (c.mode t).busy = 1 := by rw [hmode]; rfl
  have hmany : many ≠ 0 := by have := hok.act t _ _ ht hmode; omega
  have hat := hj.ats t ht hbusy
  have hev0 : j.evl ≠ 0 := by omega
  have hnow := hj.now
  subst hturn hpc
  let L : List AV := j.evs.set (((0 : Nat) + (j.ats t : Int).toNat) * (8 : Nat) + (2 + (1 : Nat))) (AV.sint .i64 (IntKind.i64.wrap (stp + (1 : Int))))
  have hflat : ∀ v ∈ L, v.flat = true := flat_set (fun v hv => (hj.evs.all v hv).1) rfl
  let c' : Cf := { c with mode := updA c.mode t (.act pc o) }
  let j' : Jk := { j with turn := turn', ats := updA j.ats t (j.ats t), now := IntKind.i64.wrap (j.now + 1), cnt := cnt, evs := L.map (kept φ1), off := updA j.off t off }
  have hb' : ∀ u, (c'.mode u).busy = (c.mode u).busy := fun u => by
    show (updA c.mode t (.act pc o) u).busy = _
    rw [updA_eq]; split
    · rename_i e; rw [e, hbusy]; rfl
    · rfl
  have hone : ∀ u, (c'.mode u).one = (c.mode u).one := fun u => by
    show (updA c.mode t (.act pc o) u).one = _
    rw [updA_eq]; split
    · rename_i e; rw [e, hmode]; rfl
    · rfl
  have hann : ∀ u, c'.ann u = c.ann u := fun u => by unfold Cf.ann; rw [hone]
  have hats : j'.ats = j.ats := updA_self rfl
  have hmk : markOf j' = markOf j := rfl
  have hE' : evsOf j' = .soslice 8 8 0 0 j.evl j.evl := by
    show (if j.evl = 0 then AV.nils else .soslice 8 8 0 0 j.evl j.evl) = _
    rw [if_neg hev0]
  have rid : ∀ i, i ≠ 8 → i ≠ 11 → i ≠ 32 + t → i ≠ 80 + t → i ≠ 48 → rh t 0 8 11 (32 + t) (80 + t) 48 i = i := fun i h1 h2 h3 h4 h5 => rh_id h1 h2 h3 h4 h5
  have rall : ∀ i, rh t 0 8 11 (32 + t) (80 + t) 48 i = i := fun i => by
    unfold rh
    split
    · rename_i e; exact e.symm
    split
    · rename_i e; exact e.symm
    split
    · rename_i e; exact e.symm
    split
    · rename_i e; exact e.symm
    split
    · rename_i e; exact e.symm
    · rfl
  have hφe : (fun i => φ1 (rh t 0 8 11 (32 + t) (80 + t) 48 i)) = φ1 := by funext i; rw [rall]
  have hag : Agree n t c c' j j' := ⟨fun u hu => by show updA c.mode t _ u = c.mode u; rw [updA_eq, if_neg hu], fun _ _ => rfl, fun _ _ => rfl, fun _ _ _ => rfl, fun u hu => by show updA j.off t off u = j.off u; rw [updA_eq, if_neg hu], fun _ _ => rfl, fun _ _ => rfl, rfl⟩
  have hw : wordsOf n c' = wordsOf n c := words_congr (fun _ => rfl) hann rfl
  have hlast : lastOf c' t = lastOf c t := last_congr rfl rfl
  have keep : ∀ b, b ≠ 0 → b ≠ 1 → b ∉ WR → heap n many c' j' b = heap n many c j b → ∀ o', heap n many c' j' b = some o' → ∃ o, heap n many c j b = some o ∧ b ∉ WR ∧ rh t 0 8 11 (32 + t) (80 + t) 48 b = b ∧ Same φ1 (fun i => φ1 (rh t 0 8 11 (32 + t) (80 + t) 48 i)) o o' := by
    intro b b0 b1 hbw he o' ho'
    rw [he] at ho'
    exact ⟨o', ho', hbw, rall b, same_keep hj ho' ⟨b0, b1⟩ (fun _ => rfl) (fun _ => rfl) (by omega) (by omega)⟩
  have nin : ∀ b, b < 96 → b ≠ 0 → b ≠ 1 → b ≠ 2 → b ≠ 8 → b ≠ 32 + t → b ∉ WR := fun b h1 h2 h3 h4 h5 h6 hb => by have := hWR b hb; omega
  refine ⟨fun i => φ1 (rh t 0 8 11 (32 + t) (80 + t) 48 i), j', false, rfl, ?_, arrive (t := t) (WR := WR) hj hag (by omega) hwr (fun b hb => by have := hWR b hb; omega) hfit (rh_ok (by omega) (by omega) (by omega) (by omega) (by omega) (by omega) (by omega)) (rh_inj (by omega) (by omega) (by omega) (by omega) (by omega) (by omega) (by omega) (by omega)) ?_, ?_, rfl⟩
  · intro i hi
    show φ1 (rh _ _ _ _ _ _ _ i) = φ i
    rw [rall]; exact hφ i (by omega)
  · intro b hb o' ho'
    rcases hb with rfl | rfl | rfl | rfl | rfl | rfl | rfl | rfl | rfl | rfl | rfl | rfl
    · refine .inl ⟨_, by rw [rall]; exact h0, by rw [rall]; exact hin.1, ?_⟩
      obtain rfl := Option.some.inj ((heap0 hmany hE').symm.trans ho')
      rw [hφe]
      refine pl_same rfl rfl rfl rfl (fun u hu => by show updA c.mode t _ u = c.mode u; rw [updA_eq, if_neg hu]) (fun _ _ _ => rfl) ?_ rfl rfl rfl (fun _ _ _ => rfl)
      have : mOf c' t = .iface 279 (.ptr (32 + t) 0) := by
        unfold mOf
        show (match updA c.mode t (.act pc o) t with | .none => AV.nili | .tallied _ => _ | .act _ _ => _) = _
        rw [updA_eq, if_pos rfl]
      rw [this]
    · refine .inl ⟨_, by rw [rall]; exact h1, by rw [rall]; exact hin.2.1, ?_⟩
      obtain rfl := Option.some.inj (heap1.symm.trans ho')
      rw [hφe, updA_self rfl]
      exact wl_same rfl rfl (fun _ _ => rfl) (fun _ _ => rfl)
    · refine .inl ⟨_, by rw [rall]; exact h2, by rw [rall]; exact hin.2.2.1, ?_⟩
      obtain rfl := Option.some.inj (heap2.symm.trans ho')
      rw [hφe]
      exact Same.refl _ _
    · exact .inr (keep 3 (by omega) (by omega) (nin _ (by omega) (by omega) (by omega) (by omega) (by omega) (by omega)) (by rw [heap3, heap3, hw]) o' ho')
    · exact .inr (keep 4 (by omega) (by omega) (nin _ (by omega) (by omega) (by omega) (by omega) (by omega) (by omega)) (by rw [heap4, heap4]) o' ho')
    · exact .inr (keep 5 (by omega) (by omega) (nin _ (by omega) (by omega) (by omega) (by omega) (by omega) (by omega)) (by rw [heap5, heap5]) o' ho')
    · refine .inl ⟨_, by rw [rall]; exact h8, by rw [rall]; exact hin.2.2.2.1, ?_⟩
      obtain rfl := Option.some.inj ((heap8 (j := j') hev0).symm.trans ho')
      exact ⟨(concL_kept hflat).symm, rfl, rfl⟩
    · exact .inr (keep 10 (by omega) (by omega) (nin _ (by omega) (by omega) (by omega) (by omega) (by omega) (by omega)) (by rw [heap10, heap10]) o' ho')
    · refine .inr (keep 11 (by omega) (by omega) (nin _ (by omega) (by omega) (by omega) (by omega) (by omega) (by omega)) ?_ o' ho')
      rw [heap_fix (by omega), heap_fix (by omega)]; rfl
    · refine .inl ⟨_, by rw [rall]; exact h32, by rw [rall]; exact hin.2.2.2.2, ?_⟩
      have hm32 : machOf n c' j' t = some (.row false [.ptr 12 0, .ptr (64 + t) 0, .int .i64 t, .int .i64 pc, .sint .u64 (pk (t, c'.ann t) : Nat), .sint .u64 (j'.off t), .sint .i64 (j.ans t 0), .sint .u64 (j.ans t 1), .nils, .nils] 282 none) := by
        unfold machOf
        show (match updA c.mode t (.act pc o) t with | .none => none | .tallied v => _ | .act pc _ => _) = _
        rw [updA_eq, if_pos rfl]
      obtain rfl := Option.some.inj (((heap32 ht hn).trans hm32).symm.trans ho')
      have ho2 : j'.off t = off := by show updA j.off t off t = off; rw [updA_eq, if_pos rfl]
      rw [hφe, hann, ho2]
      exact Same.refl _ _
    · refine .inr (keep _ (by omega) (by omega) (nin _ (by omega) (by omega) (by omega) (by omega) (by omega) (by omega)) ?_ o' ho')
      rw [heap64 ht hn, heap64 ht hn, hann, hlast]
    · refine .inr (keep _ (by omega) (by omega) (nin _ (by omega) (by omega) (by omega) (by omega) (by omega) (by omega)) ?_ o' ho')
      rw [heap80 ht hn, heap80 ht hn]
  · have hnw : IntKind.i64.wrap (j.now + 1) = j.now + 1 := wrap64 (by omega) (by omega)
    refine ⟨?_, ?_, ?_, ?_, hj.lm, hj.lm0, hj.lmall, hj.tr0, hj.tr1, hj.was, ?_, ?_, hj.oth⟩
    · show 0 ≤ IntKind.i64.wrap (j.now + 1) ∧ IntKind.i64.wrap (j.now + 1) ≤ ((k + 1 : Nat) : Int)
      rw [hnw]; omega
    · show j.evl = _
      rw [hj.evl]
      exact sumN_congr n fun u _ => by rw [hb' u]
    · rw [hats]
      exact evs_step (c' := c') hj.evs hat (.inl rfl) hb' (by omega)
    · intro u hu hb
      rw [hats]
      exact hj.ats u hu (by rw [← hb' u]; exact hb)
    · intro u o2 hu ho2
      have ho3 : updA c.mode t (.act pc o) u = .act 3 o2 := ho2
      show updA j.off t off u = (pk o2 : Int)
      rw [updA_eq] at ho3 ⊢
      split
      · rename_i e; rw [if_pos e] at ho3; cases ho3; exact hoff rfl
      · rename_i e; rw [if_neg e] at ho3; exact hj.off u o2 hu ho3
    · intro u v hu hv
      have hv' : updA c.mode t (.act pc o) u = .tallied v := hv
      rw [updA_eq] at hv'
      split at hv'
      · cases hv'
      · exact hj.mark u v hu hv'
end Ct
end Go.Proofs.YtpkfimijnkkbjaaGreat

namespace Go.Proofs.YtpkfimijnkkbjaaGreat
namespace Ct
open Ev

/-- A value as it was laid, and the canonical one: names are looked up; a state's slice is known to have no slack. -/
def quiet (b : Nat) : Bool := !(Nat.ble 80 b && Nat.blt b 96)
mutual
def eqA (ρ : Nat → Nat) : AV → AV → Bool
  | .int k x, .int k' x' => decide (k = k') && decide (x = x')
  | .int k x, .sint k' x' => decide (k = k') && decide (x = x')
  | .sint k x, .sint k' x' => decide (k = k') && decide (x = x')
  | .ptr b o, .ptr b' o' => Nat.beq b (ρ b') && Nat.beq o o' && quiet b'
  | .slice b 0 1 1, .oslice b' 1 0 0 1 1 => Nat.beq b (ρ b') && !quiet b'
  | .oslice b z k j l t, .oslice b' z' k' j' l' t' => Nat.beq b (ρ b') && Nat.beq z z' && Nat.beq k k' && Nat.beq j j' && Nat.beq l l' && Nat.beq t t' && quiet b'
  | .oslice b z k j l t, .soslice b' z' k' j' l' t' => Nat.beq b (ρ b') && Nat.beq z z' && Nat.beq k k' && Nat.beq j j' && Nat.beq l l' && Nat.beq t t' && quiet b'
  | .nils, .nils => true
  | .mapv b, .mapv b' => Nat.beq b (ρ b') && quiet b'
  | .nilp, .nilp => true
  | .nilf, .nilf => true
  | .nili, .nili => true
  | .bool x, .bool y => x == y
  | .iface t v, .iface t' v' => Nat.beq t t' && eqA ρ v v'
  | .agg l, .agg l' => eqL ρ l l'
  | _, _ => false
def eqL (ρ : Nat → Nat) : List AV → List AV → Bool
  | [], [] => true
  | v :: l, v' :: l' => eqA ρ v v' && eqL ρ l l'
  | _, _ => false
end
/-- Memory as laid, and by canonical names. -/
structure Ren (ρ : Nat → Nat) (φ φ' : Phi) : Prop where
  same : ∀ i, quiet i = true → φ' i = φ (ρ i)
  sv : ∀ i, quiet i = false → φ' i = ⟨(φ (ρ i)).blk, 0⟩
mutual
theorem eqA_ok {ρ : Nat → Nat} {φ φ' : Phi} (h : Ren ρ φ φ') : ∀ {a b : AV}, eqA ρ a b = true → conc φ a = conc φ' b := by
  intro a b hab
  have nb : ∀ {x y : Nat}, Nat.beq x y = true → x = y := fun h => Nat.eq_of_beq_eq_true h
  unfold eqA at hab
  split at hab
  · simp only [Bool.and_eq_true, decide_eq_true_eq] at hab; rw [hab.1, hab.2]; rfl
  · simp only [Bool.and_eq_true, decide_eq_true_eq] at hab; rw [hab.1, hab.2]; rfl
  · simp only [Bool.and_eq_true, decide_eq_true_eq] at hab; rw [hab.1, hab.2]; rfl
  · simp only [Bool.and_eq_true] at hab
    obtain ⟨⟨h1, h2⟩, h3⟩ := hab
    rw [nb h1, nb h2]
    simp only [conc, h.same _ h3]
  · simp only [Bool.and_eq_true, Bool.not_eq_true'] at hab
    obtain ⟨h1, h2⟩ := hab
    rw [nb h1]
    simp only [conc, h.sv _ h2]
    simp
  · simp only [Bool.and_eq_true] at hab
    obtain ⟨⟨⟨⟨⟨⟨h1, h2⟩, h3⟩, h4⟩, h5⟩, h6⟩, h7⟩ := hab
    rw [nb h1, nb h2, nb h3, nb h4, nb h5, nb h6]
    exact conc_os (h.same _ h7).symm
  · simp only [Bool.and_eq_true] at hab
    obtain ⟨⟨⟨⟨⟨⟨h1, h2⟩, h3⟩, h4⟩, h5⟩, h6⟩, h7⟩ := hab
    rw [nb h1, nb h2, nb h3, nb h4, nb h5, nb h6]
    exact conc_os (h.same _ h7).symm
  · rfl
  · simp only [Bool.and_eq_true] at hab
    obtain ⟨h1, h3⟩ := hab
    rw [nb h1]
    simp only [conc, h.same _ h3]
  · rfl
  · rfl
  · rfl
  · rw [eq_of_beq hab]; rfl
  · simp only [Bool.and_eq_true] at hab
    unfold conc
    rw [eqA_ok h hab.2, nb hab.1]
  · unfold conc
    rw [eqL_ok h hab]
  · cases hab
theorem eqL_ok {ρ : Nat → Nat} {φ φ' : Phi} (h : Ren ρ φ φ') : ∀ {a b : List AV}, eqL ρ a b = true → concL φ a = concL φ' b := by
  intro a b hab
  unfold eqL at hab
  split at hab
  · rfl
  · simp only [Bool.and_eq_true] at hab
    unfold concL
    rw [eqA_ok h hab.1, eqL_ok h hab.2]
  · cases hab
end

def eqM (ρ : Nat → Nat) : List (Int × AV) → List (Int × AV) → Bool
  | [], [] => true
  | (k, v) :: l, (k', v') :: l' => decide (k = k') && eqA ρ v v' && eqM ρ l l'
  | _, _ => false
theorem eqM_ok {ρ : Nat → Nat} {φ φ' : Phi} (h : Ren ρ φ φ') : ∀ {a b : List (Int × AV)}, eqM ρ a b = true → a.map (pairOf φ) = b.map (pairOf φ')
  | [], [], _ => rfl
  | (k, v) :: l, (k', v') :: l', hab => by
    simp only [eqM, Bool.and_eq_true, decide_eq_true_eq] at hab
    rw [List.map_cons, List.map_cons, eqM_ok h hab.2]
    unfold pairOf
    rw [hab.1.1, eqA_ok h hab.1.2]
  | [], _ :: _, hab => by cases hab
  | _ :: _, [], hab => by cases hab
/-- A block as it was laid, and the canonical one of a name. -/
def eqO (ρ : Nat → Nat) (b : Nat) : Option AObj → Option AObj → Bool
  | some (.row _ l t none), some (.row _ l' t' none) => eqL ρ l l' && Nat.beq t t' && quiet b
  | some (.row _ l t (some z)), some (.row _ l' t' (some z')) => eqL ρ l l' && Nat.beq t t' && Nat.beq z z' && quiet b
  | some (.row _ [v] t none), some (.row _ [v'] t' (some 1)) => eqA ρ v v' && Nat.beq t t' && !quiet b
  | some (.map _ l), some (.map _ l') => eqM ρ l l' && quiet b
  | _, _ => false
theorem eqO_ok {ρ : Nat → Nat} {φ φ' : Phi} {w : World} {b : Nat} {x : Option AObj} {o' : AObj} (h : Ren ρ φ φ') (he : eqO ρ b x (some o') = true) (hx : ∀ o, x = some o → Holds φ (ρ b) o w) : Holds φ' b o' w := by
  have nb : ∀ {x y : Nat}, Nat.beq x y = true → x = y := fun h => Nat.eq_of_beq_eq_true h
  unfold eqO at he
  split at he
  · rename_i _ l t _ l' t' e1
    obtain rfl := Option.some.inj e1
    simp only [Bool.and_eq_true] at he
    exact (hx _ rfl).same (h.same _ he.2) ⟨eqL_ok h he.1.1, nb he.1.2, rfl⟩
  · rename_i _ l t z _ l' t' z' e1
    obtain rfl := Option.some.inj e1
    simp only [Bool.and_eq_true] at he
    exact (hx _ rfl).same (h.same _ he.2) ⟨eqL_ok h he.1.1.1, nb he.1.1.2, by rw [nb he.1.2]⟩
  · rename_i _ v t _ v' t' e1
    obtain rfl := Option.some.inj e1
    simp only [Bool.and_eq_true, Bool.not_eq_true'] at he
    have h1 := hx _ rfl
    have h2 := h.sv _ he.2
    unfold Holds at h1 ⊢
    simp only at h1 ⊢
    refine ⟨#[], 1, ?_, ?_, ?_, ?_⟩
    · rw [h2]
      simp only
      rw [h1, nb he.1.2]
      simp only [concL, eqA_ok h he.1.1]
      simp
    · rw [h2]; simp
    · rfl
    · rw [h2]; show 1 + 0 ≤ Go.maxLen; decide
  · rename_i _ l _ l' e1
    obtain rfl := Option.some.inj e1
    simp only [Bool.and_eq_true] at he
    exact (hx _ rfl).same (h.same _ he.2) (eqM_ok h he.1)
  · cases he

/-- Names that have moved. -/
def rl : List (Nat × Nat) → Nat → Nat
  | [], i => i
  | (b, x) :: l, i => match Nat.beq i b with
    | true => x
    | false => rl l i
def freshB : List (Nat × Nat) → Bool
  | [] => true
  | (_, x) :: l => Nat.ble 96 x && l.all (fun p => !Nat.beq p.2 x) && freshB l
theorem rl_or : ∀ (l : List (Nat × Nat)) (i : Nat), rl l i = i ∨ ∃ p ∈ l, rl l i = p.2
  | [], i => .inl rfl
  | (b, x) :: l, i => by
    unfold rl
    split
    · exact .inr ⟨(b, x), by simp, rfl⟩
    · rcases rl_or l i with h | ⟨p, hp, h⟩
      · exact .inl h
      · exact .inr ⟨p, by simp [hp], h⟩
theorem rl_inj : ∀ {l : List (Nat × Nat)}, freshB l = true → ∀ {b d : Nat}, b < 96 → d < 96 → rl l b = rl l d → b = d
  | [], _, b, d, _, _, h => h
  | (y, x) :: l, hf, b, d, hb, hd, h => by
    simp only [freshB, Bool.and_eq_true, List.all_eq_true, Bool.not_eq_true'] at hf
    obtain ⟨⟨h1, h2⟩, h3⟩ := hf
    have h1 := Nat.le_of_ble_eq_true h1
    have away : ∀ i, i < 96 → rl l i ≠ x := fun i hi e => by
      rcases rl_or l i with h | ⟨p, hp, h⟩
      · omega
      · have := h2 p hp
        rw [← h, e] at this
        simp at this
    unfold rl at h
    split at h <;> split at h
    · rename_i e1 _ e2
      rw [Nat.eq_of_beq_eq_true e1, Nat.eq_of_beq_eq_true e2]
    · exact absurd h.symm (away d hd)
    · exact absurd h (away b hb)
    · exact rl_inj h3 hb hd h

def ptrOf : AV → Option Nat
  | .ptr b _ => some b
  | .mapv b => some b
  | .slice b _ _ _ => some b
  | .oslice b _ _ _ _ _ => some b
  | .iface _ v => ptrOf v
  | _ => none
def follow (s : St) (b i : Nat) : Nat := match s.get b with
  | some (.row _ l _ _) => match getL l i with
    | some v => (ptrOf v).getD 0
    | none => 0
  | _ => 0
def listOf (s : St) (b : Nat) (u : Nat) : Nat := match s.get b with
  | some (.map _ l) => match findM u l with
    | some v => (ptrOf v).getD 0
    | none => 0
  | _ => 0
/-- Where the canonical blocks have been laid. -/
def laid (s : St) (n many p r : Nat) : List (Nat × Nat) :=
  let w := follow s p 0
  let line := follow s p 3
  let mem := follow s w 0
  let objs := follow s p 1
  let lm := follow s line 0
  let u := follow s objs 2
  [(0, p), (1, w), (2, mem), (3, follow s mem 0), (4, line), (5, lm), (6, r), (9, objs), (10, follow s w 34), (12, u)]
    ++ (if many = 0 then [] else (List.range n).map fun t => (16 + t, listOf s lm t))
    ++ ((List.range n).map fun t => (64 + t, follow s u (4 + t)))
    ++ ((List.range n).map fun t => (80 + t, follow s (follow s u (4 + t)) 2))

def zeroRep : AObj := .row false [.nils, .nils, .int .i64 0, .int .i64 0, .int .i64 0, .int .i64 0, .int .i64 0, .int .i64 0, .int .i64 0] 34 none
def j0 (n many : Nat) (O : Nat → Option AObj) : Jk where
  turn := 0
  ats := fun _ => 0
  cn := fun _ => 0
  idle := 0
  now := 0
  inv := fun _ => 0
  marks := fun _ => false
  cnt := fun _ => 0
  evl := 0
  evs := []
  left := (3 * n * many : Nat)
  lmap := if many = 0 then [] else (List.range n).map fun (t : Nat) => ((t : Int), .soslice (16 + t) 1 0 0 (3 * many) (3 * many))
  tr := false
  trmap := []
  was := []
  ans := fun _ _ => 0
  off := fun _ => 0
  sv := fun _ => 0
  oth := fun b => if b = 6 then some zeroRep else O b
/-- Is what a run has laid the canonical heap? -/
def begun (n many : Nat) (O : Nat → Option AObj) (r : Res (Ex × Env)) : Bool := match r with
  | .ok (.normal, env) s => match env.look 10, env.look 8, env.look 9 with
    | some (.ptr p 0), some (.ptr q 0), some (.int .i64 0) =>
      let l := laid s n many p q
      freshB l && l.all (fun x => s.wr.testBit x.2 && eqO (rl l) x.1 (s.get x.2) (heap n many c0 (j0 n many O) x.1)) && !s.wr.testBit 7 && !s.wr.testBit 13 && !s.wr.testBit 14 && !s.wr.testBit 15 && Nat.ble 96 s.next
    | _, _, _ => false
  | _ => false
def preOf {α : Type} (r : Res α) : Prop := match r with
  | .ok _ s => s.pre
  | .fail _ => False
end Ct
end Go.Proofs.YtpkfimijnkkbjaaGreat

namespace Go.Proofs.YtpkfimijnkkbjaaGreat
namespace Ct
open Ev

def sndC : Code → Code
  | .seq _ b => b
  | c => c
def lpB : Code → Code
  | .block _ (.loop x) => x
  | .block _ x => x
  | c => c
def opsC : Code → List Oper
  | .region _ ops _ => ops.toList
  | _ => []
def opsA : Code → Array Oper
  | .region _ ops _ => ops
  | _ => #[]
/-- The loop's body in a piece that ends with a loop. -/
def bodyC (c : Code) : Code := lpB (sndC c)

def clArg (n many : Nat) : AV := if many = 0 then .nils else .oslice 7 6 0 0 (3 * n * many) (3 * n * many)
def specRow : List AV := [.int .i64 2, .int .i64 0, .int .i64 0, .int .i64 3, .int .i64 0, .int .i64 0, .int .i64 7, .int .i64 1, .int .i64 64]
def hs0 (n many : Nat) : List (Nat × AObj) := if many = 0 then [(1, .row false specRow 39 none)] else [(1, .row false specRow 39 none), (7, .row false (callsOf n many) 42 (some 6))]

/-- What the play's beginning shows. -/
def beg (n many : Nat) (O : Nat → Option AObj) (r : Res (Ex × Env)) : Option (Bool × Prop × Option AV) := match r with
  | .ok (x, env) s => some (begun n many O (.ok (x, env) s), s.pre, env.look 3)
  | .fail _ => none
theorem v15_r4 (pl : Nat) : viewC [26, 27, 28] [] (evCode Tryz.prog (evFn Tryz.prog noSums 60) 38 100000 (takeC 0 (takeC 0 (dropC 2 (Tryz.f15.body.getD .skip)))) [(3, .soslice 13 1 0 0 pl pl)] ⟨mk [], 96, 0, 0, True, []⟩) =
    some (.normal, [some (.soslice 13 1 0 0 pl pl), some (.sint .i64 pl), some (.int .i64 0)], True, 96, [], []) := by kernel_rfl
theorem v15_test (pl i : Nat) : viewC [29] [] (evCode Tryz.prog (evFn Tryz.prog noSums 60) 38 100000 (takeC 1 (bodyC (takeC 0 (dropC 2 (Tryz.f15.body.getD .skip))))) [(8, .ptr 6 0), (10, .ptr 0 0), (26, .soslice 13 1 0 0 pl pl), (27, .sint .i64 pl), (28, .sint .i64 i)] ⟨mk [], 96, 0, 0, True, [.br true]⟩) =
    some (.normal, [some (.bool true)], True ∧ cmpI .lss i pl = true, 96, [], []) := by kernel_rfl
theorem v15_out (pl i : Nat) : viewC [29] [] (evCode Tryz.prog (evFn Tryz.prog noSums 60) 38 100000 (bodyC (takeC 0 (dropC 2 (Tryz.f15.body.getD .skip)))) [(8, .ptr 6 0), (10, .ptr 0 0), (26, .soslice 13 1 0 0 pl pl), (27, .sint .i64 pl), (28, .sint .i64 i)] ⟨mk [], 96, 0, 0, True, [.br false]⟩) =
    some (.exit 0, [some (.bool false)], True ∧ cmpI .lss i pl = false, 96, [], []) := by kernel_rfl
theorem v15_load (pl i : Nat) (x : Int) (ps : List AV) : viewC [13] [] (evCode Tryz.prog (evFn Tryz.prog noSums 60) 38 100000 (takeC 0 (lpB (takeC 0 (dropC 1 (bodyC (takeC 0 (dropC 2 (Tryz.f15.body.getD .skip)))))))) [(8, .ptr 6 0), (10, .ptr 0 0), (26, .soslice 13 1 0 0 pl pl), (27, .sint .i64 pl), (28, .sint .i64 i)] ⟨mk [(13, .row true ps 3 (some 1))], 96, 0, 0, True, [.val [.sint .i64 x]]⟩) =
    some (.normal, [some (.sint .i64 x)], ((True ∧ 0 + pl ≤ pl) ∧ (0 : Int) ≤ i ∧ (i : Int) < pl) ∧ 1 = 1 ∧ ∀ k : Nat, k < 1 → ps[(0 + (i : Int).toNat) * 1 + k]? = [AV.sint .i64 x][k]?, 96, [], []) := by kernel_rfl
theorem v15_next (pl i : Nat) : viewC [28] [] (evCode Tryz.prog (evFn Tryz.prog noSums 60) 38 100000 (dropC 0 (dropC 1 (bodyC (takeC 0 (dropC 2 (Tryz.f15.body.getD .skip)))))) [(8, .ptr 6 0), (10, .ptr 0 0), (26, .soslice 13 1 0 0 pl pl), (27, .sint .i64 pl), (28, .sint .i64 i)] ⟨mk [], 96, 0, 0, True, []⟩) =
    some (.normal, [some (.sint .i64 (IntKind.i64.wrap (i + 1)))], True ∧ true = true, 96, [], []) := by kernel_rfl
theorem v15_tail (ev : AV) (hev : ev = .nils ∨ ∃ k, ev = .soslice 8 8 0 0 k k) (cl : AV) (turn : Int) (ats : Nat → Int) (cn : Nat → Int) (idle now : Int) (inv : Nat → Int) (marks : Nat → AV) (lw : Nat) (cnt : Nat → Int) (words : List AV) :
    viewR Tryz.prog Tryz.f15.results.toList [114] (evCode Tryz.prog (evFn Tryz.prog noSums 60) 38 100000 (dropC 0 (dropC 2 (Tryz.f15.body.getD .skip))) [(8, .ptr 6 0), (10, .ptr 0 0)] ⟨mk [(0, .row false (PL' cl (.sint .i64 turn) (fun _ => .nili) (fun u => .sint .i64 (ats u)) ev .nils (fun i => .sint .i64 (cn i)) idle) 83 none), (1, .row false (WL now (fun u => .sint .i64 (inv u)) marks) 92 none), (2, .row false (ML lw lw cnt) 129 none), (3, .row true words 40 (some 1)), (6, zeroRep)], 96, 0, 0, True, [.br false]⟩) =
    some ([AV.agg [ev, AV.soslice 114 1 0 0 lw lw, AV.sint .i64 (cnt 0), AV.sint .i64 (cnt 1), AV.sint .i64 (cnt 2), AV.sint .i64 (cnt 3), AV.sint .i64 (cnt 4), AV.sint .i64 now, AV.sint .i64 idle], AV.int .i64 0],
      ((True ∧ 0 + lw ≤ lw) ∧ 0 < lw ∧ lw * 8 ≤ room ∧ lw ≤ Go.maxLen) ∧ 0 * 1 + lw * 1 ≤ words.length, 116, [0, 6, 96, 97, 98, 99, 100, 101, 102, 103, 104, 105, 106, 107, 108, 109, 110, 111, 112, 113, 114, 115], [some (.row true (List.take (lw * 1) (List.drop (0 * 1) words)) 40 (some 1))]) := by
  rcases hev with rfl | ⟨k, rfl⟩
  · kernel_rfl
  · kernel_rfl
end Ct
end Go.Proofs.YtpkfimijnkkbjaaGreat

namespace Go.Proofs.YtpkfimijnkkbjaaGreat
namespace Ev

variable {κ : Keep}

variable {P : Program}

theorem Same.congr {φ φ' : Phi} {D : Nat → Prop} {o o' : AObj} (h : Same φ φ o o') (hφ : ∀ i, D i → φ' i = φ i) (ho : o.All D) (ho' : o'.All D) : Same φ' φ' o o' :=
  ((Same.of_all ho hφ).symm.trans h).trans (Same.of_all ho' hφ)
theorem seg_last {sm : Sums} (hnm : Named P) (hmix : P.follows .mixedOrders = true) (hsm : SumsOk P sm) {d nt F : Nat} {c : Code} {env env' : Env} {s s' : St} {x : Ex} (hev : evCode P (evFn P sm d) nt F c env s = .ok (x, env') s') {H : Nat → Option AObj} {φ : Phi} {w : World} {a : Act} (h : At κ H nt s.next env φ w a)
    (hs : ∀ c o, s.get c = some o → o.All (· < s.next) ∧ ∃ o0, H c = some o0 ∧ Same φ φ o0 o) (hp : s'.pre) {Q : Exit → Act → World → Prop}
    (hQ : ∀ φ' w' a', (∀ i, i < s.next → φ' i = φ i) → At κ (after H s') nt s'.next env' φ' w' a' → (∀ c o, s'.get c = some o → ∃ o0, after H s' c = some o0 ∧ Same φ' φ' o0 o) → Q x.to a' w') : c.wp P Q a w := by
  have hd := (evCode_ok hnm (draw_ok hmix) (sound hnm hmix hsm d) (nt := nt) F).1 _ _ _ _ _ _ hev
  obtain ⟨R, W, sp, _, _⟩ := hd
  refine seg ((evCode_ok hnm (draw_ok hmix) (sound hnm hmix hsm d) (nt := nt) F).1 _ _ _ _ _ _ hev) h hs hp (K := fun a w => Q x.to a w) (fun φ' w' a' hφ hat => hQ φ' w' a' hφ hat fun c o hc => ?_) Q (fun a w h => h)
  unfold after
  by_cases hw : s'.wr.testBit c = true
  · rw [if_pos hw]; exact ⟨o, hc, Same.refl _ _⟩
  · rw [if_neg hw]
    have hc' : s.get c = some o := by rw [← sp.same c (fun hh => hw (sp.wr c hh))]; exact hc
    obtain ⟨h1, o0, h2, h3⟩ := hs c o hc'
    exact ⟨o0, h2, h3.congr (D := (· < s.next)) hφ (h.ids c o0 h2).2 h1⟩
end Ev
end Go.Proofs.YtpkfimijnkkbjaaGreat
