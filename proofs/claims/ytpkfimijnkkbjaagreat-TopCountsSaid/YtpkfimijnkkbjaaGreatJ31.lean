/-
  How a run's blocks make the next heap of the counting play, where a thread has begun an operation.
  Ways through Player.Pick, printed by uni.py from what the kernel reckoned: tally0 tally0N.
  Ways through Player.Pick, printed by uni.py from what the kernel reckoned: univ0.
-/
import Derived.Test.YtpkfimijnkkbjaaGreatJ25
import Derived.Test.YtpkfimijnkkbjaaGreatJ16
import Derived.Test.YtpkfimijnkkbjaaGreatProg
import Derived.KernelRfl
set_option linter.unusedVariables false
namespace Go.Proofs.YtpkfimijnkkbjaaGreat
namespace Ct
open Ev

variable {κ : Keep}

/-- The events' cells behind a new one. -/
theorem evs_app {n : Nat} {c c' : Cf} {j : Jk} {φ : Phi} {t : Nat} {x : AV} {y call nw : Int} {O : Nat} (h : EvsOk j.evs j.evl fun i => ∃ u, u < n ∧ (c.mode u).busy = 1 ∧ j.ats u = i) (ht : t < n) (hO : O = 8 * j.evl + 3) (hx : x = .sint .i64 y ∨ x = .int .i64 y) (hb0 : (c.mode t).busy = 0) (hb : (c'.mode t).busy = 1) (hbu : ∀ u, u ≠ t → (c'.mode u).busy = (c.mode u).busy) :
    EvsOk (((j.evs ++ [AV.sint .i64 call, AV.sint .i64 nw, AV.int .i64 (0 : Int), AV.int .i64 (0 : Int), AV.int .i64 (0 : Int), AV.int .u64 (0 : Int), AV.nils, AV.nils]).set O x).map (kept φ)) (j.evl + 1) (fun i => ∃ u, u < n ∧ (c'.mode u).busy = 1 ∧ updA j.ats t j.evl u = i) ∧
    ∀ v ∈ (j.evs ++ [AV.sint .i64 call, AV.sint .i64 nw, AV.int .i64 (0 : Int), AV.int .i64 (0 : Int), AV.int .i64 (0 : Int), AV.int .u64 (0 : Int), AV.nils, AV.nils]).set O x, v.flat = true := by
  subst hO
  have hl := h.len
  refine ⟨EvsOk.of (by rw [List.length_set, List.length_append, hl]; simp; omega) (fun i hi => ?_) (fun i hi => ?_), flat_set (flat_app (fun v hv => (h.all v hv).1) (by simp [AV.flat])) (by rcases hx with rfl | rfl <;> rfl)⟩
  · by_cases e : i = j.evl
    · subst e
      rw [get_self (by rw [List.length_append, hl]; simp)]
      exact ⟨y, hx.imp (fun e => by rw [e]) (fun e => by rw [e])⟩
    · rw [List.getElem?_set_ne (by omega), List.getElem?_append_left (by omega)]
      obtain ⟨s, hs⟩ := h.stp i (by omega)
      exact ⟨s, .inl hs⟩
  · rw [List.getElem?_set_ne (by omega)]
    by_cases e : i = j.evl
    · subst e
      rw [List.getElem?_append_right (by omega), hl, show 8 * j.evl + 2 - 8 * j.evl = 2 by omega]
      exact ⟨0, .inr rfl, .inr ⟨t, ht, hb, by rw [updA_eq, if_pos rfl]⟩⟩
    · rw [List.getElem?_append_left (by omega)]
      obtain ⟨r, hr, h2⟩ := h.rsp i (by omega)
      refine ⟨r, .inl hr, h2.imp id fun ⟨u, h1, h3, h4⟩ => ⟨u, h1, ?_, ?_⟩⟩
      · rw [hbu u (fun e => by rw [e, hb0] at h3; cases h3)]; exact h3
      · rw [updA_eq, if_neg (fun e => by rw [e, hb0] at h3; cases h3)]; exact h4

/-- A thread has begun an operation. -/
theorem arr_start {n many k : Nat} {c : Cf} {j : Jk} {φ φ1 : Phi} {w' : World} {t : Nat} (hn : n ≤ 6) (hmany : many ≠ 0) (ht : t < n) (hj : JOk n many c j k) (hk : k ≤ 1000000)
    {M : Mode} (hmode : c.mode t = .none) (hM : M.busy = 1) (hφ : ∀ i, i < 96 → φ1 i = φ i) {s : St} {WR : List Nat} (hWR : ∀ b, b ∈ WR → b = 0 ∨ b = 1 ∨ b = 2 ∨ b = 3 ∨ b = 8 ∨ b = 64 + t ∨ (96 ≤ b ∧ b < 128)) {mm : Nat} (hin : 0 ∈ WR ∧ 1 ∈ WR ∧ 2 ∈ WR ∧ 98 ∈ WR ∧ mm ∈ WR) (hmm : 98 < mm ∧ mm < 128)
    (hwr : ∀ b, b < 128 → (s.wr.testBit b = true ↔ b ∈ WR)) (hfit : FitH κ (after (heap n many c j) s) φ1 w')
    {turn : AV} {turn' : Int} (hturn : turn = .int .i64 turn') {cnt : Nat → Int} {X A E : AV} {L : List AV} {a : Int} {y1 : Bool} {off : Int} {an : Nat → Int}
    (h0 : s.get 0 = some (.row false (PL (3 * n * many) turn (updA (mOf c) t X) (updA (fun u => .sint .i64 (j.ats u : Int)) t A) E .nils (fun i => .sint .i64 (j.cn i)) j.idle) 83 none))
    (hA : ∀ φ : Phi, conc φ A = .int .i64 (j.evl : Int)) (hE : conc φ1 E = conc φ1 (.soslice 98 8 0 0 (j.evl + 1) (j.evl + 1)))
    (h1 : s.get 1 = some (.row false (WL (IntKind.i64.wrap (j.now + (1 : Int))) (updA (fun u => .sint .i64 (j.inv u)) t (.sint .i64 a)) (updA (markOf j) t .nils)) 92 none))
    (h2 : s.get 2 = some (.row false (ML (2 * n + 65) (2 * n + 65) cnt) 129 none))
    (h8 : s.get 98 = some (.row y1 L 48 (some 8))) (hL : EvsOk (L.map (kept φ1)) (j.evl + 1) (fun i => ∃ u, u < n ∧ (updA c.mode t M u).busy = 1 ∧ updA j.ats t j.evl u = i)) (hflat : ∀ v ∈ L, v.flat = true)
    (h32 : (∃ v : Nat, M = .tallied v ∧ X = .iface 231 (.ptr mm 0) ∧ s.get mm = some (.row false [.int .i64 0, .sint .i64 n, .int .i64 t, .sint .u64 v, .bool true] 233 none)) ∨
      (M = .act 1 (0, 0) ∧ X = .iface 279 (.ptr mm 0) ∧ s.get mm = some (.row false [.ptr 12 0, .ptr (64 + t) 0, .int .i64 t, .int .i64 1, .sint .u64 (pk (t, c.fin t / 3 + M.one)), .int .u64 off, .int .i64 (an 0), .int .u64 (an 1), .nils, .nils] 282 none)))
    (h3 : (3 ∉ WR ∧ wordsOf n { c with mode := updA c.mode t M } = wordsOf n c) ∨ (3 ∈ WR ∧ s.get 3 = some (.row true (wordsOf n { c with mode := updA c.mode t M }) 40 (some 1))))
    (h64 : (64 + t ∉ WR ∧ M.one = 0) ∨ (64 + t ∈ WR ∧ s.get (64 + t) = some (.row false (RL ((c.fin t / 3 + M.one : Nat) : Int) (c.app t : Nat) (.oslice (80 + t) 1 0 0 1 1) (lastOf c t)) 188 none))) :
    Goes κ n many k φ j.oth { c with mode := updA c.mode t M } (.returned (.bool false)) w' := by
  have hnow := hj.now
  subst hturn
  let c' : Cf := { c with mode := updA c.mode t M }
  let j' : Jk := { j with turn := turn', ats := updA j.ats t j.evl, now := IntKind.i64.wrap (j.now + 1), inv := updA j.inv t a, cnt := cnt, evl := j.evl + 1, evs := L.map (kept φ1), off := updA j.off t off, ans := updA j.ans t an, marks := updA j.marks t false }
  have hmt : c'.mode t = M := by show updA c.mode t M t = M; rw [updA_eq, if_pos rfl]
  have hmu : ∀ u, u ≠ t → c'.mode u = c.mode u := fun u hu => by show updA c.mode t M u = _; rw [updA_eq, if_neg hu]
  have hE' : evsOf j' = .soslice 8 8 0 0 (j.evl + 1) (j.evl + 1) := by
    show (if j.evl + 1 = 0 then AV.nils else .soslice 8 8 0 0 (j.evl + 1) (j.evl + 1)) = _
    rw [if_neg (by omega)]
  have rlt : ∀ i, (i < 8 ∨ i = 9 ∨ i = 10 ∨ (11 < i ∧ i < 32) ∨ (64 ≤ i ∧ i < 80)) → rh t t 98 11 mm (80 + t) (48 + t) i = i := fun i h => rh_lt h (by omega) (by omega)
  have r48 : ∀ u, u < 16 → rh t t 98 11 mm (80 + t) (48 + t) (48 + u) = 48 + u := fun u hu => by
    by_cases e : u = t
    · rw [e, rh48 (by omega) (by omega)]
    · exact rh_mark hu (by omega) e
  have hmkw : ∀ u, u < 16 → conc φ1 (updA (markOf j) t .nils u) = conc (fun i => φ1 (rh t t 98 11 mm (80 + t) (48 + t) i)) (markOf j' u) := fun u hu => by
    rw [updA_eq]
    have hm' : markOf j' u = if (updA j.marks t false u) = true then .oslice (48 + u) 1 0 0 1 1 else .nils := by
      unfold markOf
      show (match updA j.marks t false u with | true => _ | false => _) = _
      cases updA j.marks t false u <;> rfl
    rw [hm', updA_eq]
    split
    · rfl
    · unfold markOf
      cases j.marks u
      · rfl
      · exact conc_os (by show φ1 (48 + u) = φ1 (rh t t 98 11 mm (80 + t) (48 + t) (48 + u)); rw [r48 u hu])
  have hag : Agree n t c c' j j' := ⟨hmu, fun _ _ => rfl, fun _ _ => rfl, fun _ _ _ => rfl, fun u hu => by show updA j.off t off u = j.off u; rw [updA_eq, if_neg hu], fun u hu => by show updA j.ans t _ u = j.ans u; rw [updA_eq, if_neg hu], fun u hu => rfl, rfl⟩
  have hannt : c'.ann t = c.fin t / 3 + M.one := by show c.fin t / 3 + (c'.mode t).one = _; rw [hmt]
  have hlast : lastOf c' t = lastOf c t := last_congr rfl rfl
  have keep : ∀ b, b ≠ 0 → b ≠ 1 → b ≠ 8 → (b < 12 ∨ b = 64 + t ∨ b = 80 + t) → b ∉ WR → heap n many c' j' b = heap n many c j b → ∀ o', heap n many c' j' b = some o' → ∃ o, heap n many c j b = some o ∧ b ∉ WR ∧ rh t t 98 11 mm (80 + t) (48 + t) b = b ∧ Same φ1 (fun i => φ1 (rh t t 98 11 mm (80 + t) (48 + t) i)) o o' := by
    intro b b0 b1 b8 b12 hbw he o' ho'
    rw [he] at ho'
    have rb : rh t t 98 11 mm (80 + t) (48 + t) b = b := by
      by_cases e : b = 11
      · rw [e, rh11]
      · by_cases e2 : b = 80 + t
        · rw [e2, rh80 (by omega)]
        · exact rlt b (by omega)
    exact ⟨o', ho', hbw, rb, same_keep hj ho' ⟨b0, b1⟩ (fun _ => rfl) (fun _ => rfl) (by omega) (by omega)⟩
  have nin : ∀ b, b < 96 → b ≠ 0 → b ≠ 1 → b ≠ 2 → b ≠ 3 → b ≠ 8 → b ≠ 64 + t → b ∉ WR := fun b g1 g2 g3 g4 g5 g6 g7 hb => by have := hWR b hb; omega
  have q : ∀ i, (i < 8 ∨ i = 9 ∨ i = 10 ∨ (11 < i ∧ i < 32) ∨ (64 ≤ i ∧ i < 80)) → φ1 (rh t t 98 11 mm (80 + t) (48 + t) i) = φ1 i := fun i h => by rw [rlt i h]
  refine ⟨fun i => φ1 (rh t t 98 11 mm (80 + t) (48 + t) i), j', false, rfl, ?_, arrive (t := t) (WR := WR) hj hag (by omega) hwr (fun b hb => by have := hWR b hb; omega) hfit (rh_ok (by omega) (by omega) (by omega) (by omega) (by omega) (by omega) (by omega)) (rh_inj (by omega) (by omega) (by omega) (by omega) (by omega) (by omega) (by omega) (by omega)) ?_, ?_, rfl⟩
  · intro i hi
    show φ1 (rh _ _ _ _ _ _ _ i) = φ i
    rw [rlt i (by omega)]; exact hφ i (by omega)
  · intro b hb o' ho'
    rcases hb with rfl | rfl | rfl | rfl | rfl | rfl | rfl | rfl | rfl | rfl | rfl | rfl
    · refine .inl ⟨_, by rw [rlt 0 (by omega)]; exact h0, by rw [rlt 0 (by omega)]; exact hin.1, ?_⟩
      obtain rfl := Option.some.inj ((heap0 hmany hE').symm.trans ho')
      refine pl_same (q 1 (by omega)) (q 9 (by omega)) (q 7 (by omega)) (q 4 (by omega)) hmu (fun u hu hne => by show φ1 (rh t t 98 11 mm (80 + t) (48 + t) (32 + u)) = φ1 (32 + u); rw [rh_mach hu (by omega) hne (by omega)]) ?_ (hA _) ?_ rfl (fun _ _ _ => rfl)
      · rcases h32 with ⟨v, e1, e2, _⟩ | ⟨e1, e2, _⟩
        · have hm2 : mOf c' t = .iface 231 (.ptr (32 + t) 0) := by unfold mOf; rw [hmt, e1]
          rw [hm2, e2]; simp only [conc]; rw [rh32]
        · have hm2 : mOf c' t = .iface 279 (.ptr (32 + t) 0) := by unfold mOf; rw [hmt, e1]
          rw [hm2, e2]; simp only [conc]; rw [rh32]
      · rw [hE]; exact conc_sos (by show φ1 98 = φ1 (rh t t 98 11 mm (80 + t) (48 + t) 8); rw [rh8])
    · refine .inl ⟨_, by rw [rlt 1 (by omega)]; exact h1, by rw [rlt 1 (by omega)]; exact hin.2.1, ?_⟩
      obtain rfl := Option.some.inj (heap1.symm.trans ho')
      refine wl_same (q 2 (by omega)) (q 10 (by omega)) (fun u _ => ?_) hmkw
      show conc φ1 (updA (fun u => AV.sint .i64 (j.inv u)) t (.sint .i64 a) u) = conc _ (AV.sint .i64 (updA j.inv t a u))
      rw [updA_eq, updA_eq]
      split <;> rfl
    · refine .inl ⟨_, by rw [rlt 2 (by omega)]; exact h2, by rw [rlt 2 (by omega)]; exact hin.2.2.1, ?_⟩
      obtain rfl := Option.some.inj (heap2.symm.trans ho')
      refine ⟨?_, rfl, rfl⟩
      unfold ML
      rw [concL, concL, conc_sos (show φ1 3 = (fun i => φ1 (rh t t 98 11 mm (80 + t) (48 + t) i)) 3 from (q 3 (by omega)).symm)]
      rfl
    · rcases h3 with ⟨h3a, h3b⟩ | ⟨h3a, h3b⟩
      · exact .inr (keep 3 (by omega) (by omega) (by omega) (by omega) h3a (by rw [heap3, heap3, h3b]) o' ho')
      · refine .inl ⟨_, by rw [rlt 3 (by omega)]; exact h3b, by rw [rlt 3 (by omega)]; exact h3a, ?_⟩
        obtain rfl := Option.some.inj (heap3.symm.trans ho')
        exact ⟨ints_same _ _ _, rfl, rfl⟩
    · exact .inr (keep 4 (by omega) (by omega) (by omega) (by omega) (nin _ (by omega) (by omega) (by omega) (by omega) (by omega) (by omega) (by omega)) (by rw [heap4, heap4]) o' ho')
    · exact .inr (keep 5 (by omega) (by omega) (by omega) (by omega) (nin _ (by omega) (by omega) (by omega) (by omega) (by omega) (by omega) (by omega)) (by rw [heap5, heap5]) o' ho')
    · refine .inl ⟨_, by rw [rh8]; exact h8, by rw [rh8]; exact hin.2.2.2.1, ?_⟩
      obtain rfl := Option.some.inj ((heap8 (j := j') (by show j.evl + 1 ≠ 0; omega)).symm.trans ho')
      exact ⟨(concL_kept hflat).symm, rfl, rfl⟩
    · exact .inr (keep 10 (by omega) (by omega) (by omega) (by omega) (nin _ (by omega) (by omega) (by omega) (by omega) (by omega) (by omega) (by omega)) (by rw [heap10, heap10]) o' ho')
    · refine .inr (keep 11 (by omega) (by omega) (by omega) (by omega) (nin _ (by omega) (by omega) (by omega) (by omega) (by omega) (by omega) (by omega)) ?_ o' ho')
      rw [heap_fix (by omega), heap_fix (by omega)]; rfl
    · rw [heap32 ht hn] at ho'
      rcases h32 with ⟨v, e1, _, e3⟩ | ⟨e1, _, e3⟩
      · refine .inl ⟨_, by rw [rh32]; exact e3, by rw [rh32]; exact hin.2.2.2.2, ?_⟩
        have : machOf n c' j' t = some (.row false [.int .i64 0, .sint .i64 n, .int .i64 t, .sint .u64 v, .bool true] 233 none) := by unfold machOf; rw [hmt, e1]
        obtain rfl := Option.some.inj (this.symm.trans ho')
        exact ⟨rfl, rfl, rfl⟩
      · refine .inl ⟨_, by rw [rh32]; exact e3, by rw [rh32]; exact hin.2.2.2.2, ?_⟩
        have : machOf n c' j' t = some (.row false [.ptr 12 0, .ptr (64 + t) 0, .int .i64 t, .int .i64 (1 : Nat), .sint .u64 (pk (t, c'.ann t)), .sint .u64 (j'.off t), .sint .i64 (j'.ans t 0), .sint .u64 (j'.ans t 1), .nils, .nils] 282 none) := by unfold machOf; rw [hmt, e1]
        obtain rfl := Option.some.inj (this.symm.trans ho')
        have ho2 : j'.off t = off := by show updA j.off t off t = off; rw [updA_eq, if_pos rfl]
        have ho3 : j'.ans t = an := by show updA j.ans t _ t = _; rw [updA_eq, if_pos rfl]
        rw [hannt, ho2, ho3]
        refine ⟨?_, rfl, rfl⟩
        simp only [concL, conc]
        rw [rlt 12 (by omega), rlt (64 + t) (by omega)]
        rfl
    · rcases h64 with ⟨h6a, h6b⟩ | ⟨h6a, h6b⟩
      · refine .inr (keep _ (by omega) (by omega) (by omega) (by omega) h6a ?_ o' ho')
        have : c'.ann t = c.ann t := by rw [hannt, h6b]; unfold Cf.ann; rw [hmode]; rfl
        rw [heap64 ht hn, heap64 ht hn, hlast, this]
      · refine .inl ⟨_, by rw [rlt (64 + t) (by omega)]; exact h6b, by rw [rlt (64 + t) (by omega)]; exact h6a, ?_⟩
        obtain rfl := Option.some.inj ((heap64 ht hn).symm.trans ho')
        rw [hannt, hlast]
        refine ⟨?_, rfl, rfl⟩
        unfold RL
        rw [concL_append, concL_append, sixteen_same (fun u _ => rfl)]
        rw [concL, concL, concL, concL, concL, concL, conc_os (show φ1 (80 + t) = (fun i => φ1 (rh t t 98 11 mm (80 + t) (48 + t) i)) (80 + t) by show φ1 (80 + t) = φ1 (rh t t 98 11 mm (80 + t) (48 + t) (80 + t)); rw [rh80 (by omega)])]
        rfl
    · refine .inr (keep _ (by omega) (by omega) (by omega) (by omega) (nin _ (by omega) (by omega) (by omega) (by omega) (by omega) (by omega) (by omega)) ?_ o' ho')
      rw [heap80 ht hn, heap80 ht hn]
  · have hnw : IntKind.i64.wrap (j.now + 1) = j.now + 1 := wrap64 (by omega) (by omega)
    have hb0 : (c.mode t).busy = 0 := by rw [hmode]; rfl
    refine ⟨?_, ?_, hL, ?_, hj.lm, hj.lm0, hj.lmall, hj.tr0, hj.tr1, hj.was, ?_, ?_, hj.oth⟩
    · show 0 ≤ IntKind.i64.wrap (j.now + 1) ∧ IntKind.i64.wrap (j.now + 1) ≤ ((k + 1 : Nat) : Int)
      rw [hnw]; omega
    · show j.evl + 1 = _
      have h1 := sumN_upd (fun u => c.fin u + (c.mode u).busy) t (c.fin t + 1) n ht
      rw [← hj.evl] at h1
      rw [sumN_congr (f := fun u => c'.fin u + (c'.mode u).busy) (g := updA (fun u => c.fin u + (c.mode u).busy) t (c.fin t + 1)) n (fun u _ => by
        rw [updA_eq]
        show c.fin u + (updA c.mode t M u).busy = _
        rw [updA_eq]; split
        · rename_i e; rw [e, hM]
        · rfl)]
      simp only [hb0] at h1
      omega
    · intro u hu hb
      show updA j.ats t j.evl u < j.evl + 1
      rw [updA_eq]; split
      · omega
      · rename_i e
        have := hj.ats u hu (by rw [← hmu u e]; exact hb)
        omega
    · intro u o hu ho
      by_cases e : u = t
      · rw [e, hmt] at ho
        rcases h32 with ⟨v, e1, _⟩ | ⟨e1, _⟩ <;> rw [e1] at ho <;> cases ho
      · show updA j.off t off u = _
        rw [updA_eq, if_neg e]; exact hj.off u o hu (by rw [← hmu u e]; exact ho)
    · intro u v hu hv
      show updA j.marks t false u = false
      rw [updA_eq]; split
      · rfl
      · rename_i e; exact hj.mark u v hu (by rw [← hmu u e]; exact hv)
end Ct
end Go.Proofs.YtpkfimijnkkbjaaGreat

namespace Go.Proofs.YtpkfimijnkkbjaaGreat
namespace Ct
open Ev
theorem way_tally0 (t : Nat) (ht : t < 6) (nc : Nat) (turn : AV) (m : Nat→AV) (ats : Nat→AV) (at1 : Int) (wd : AV) (cn : Nat→AV) (idle : Int) (now : Int) (inv : Nat→AV) (marks : Nat→AV) (lw : Nat) (cnt : Nat→Int) (n : Int) (words : List AV) (evl : Nat) (evs : List AV) (left : Int) (lmap : List (Int × AV)) (lst : List AV) (calls : List AV) (lk : Nat) (ll : Nat) (lt : Nat) (call : Int) (old : Int) :
    view [0, 1, 2, 8, 98, 101] (evFn Tryz.prog noSums 60 22 [.ptr 0 0, .int .i64 t] ⟨(mk [(0, .row false (PL nc turn (updA m t (.nili)) (updA ats t (.sint .i64 at1)) (.soslice 8 8 0 0 evl evl) wd cn idle) 83 none), (1, .row false (WL now inv (updA marks t (marks t))) 92 none), (2, .row false (ML lw lw cnt) 129 none), (3, .row true words 40 (some 1)), (4, .row false [.mapv 5, .sint .i64 left] 113 none), (5, .map true lmap), ((16 + t), .row true lst 3 (some 1)), (8, .row true evs 48 (some 8)), (9, .row false (OL n) 107 (some 1)), (7, .row true calls 42 (some 6))]), 96, 0, 0, True, [.val [AV.soslice ((16 + t) : Nat) (1 : Nat) lk (0 : Nat) ll lt], .br false, .val [AV.soslice ((16 + t) : Nat) (1 : Nat) lk (0 : Nat) ll lt], .val [AV.sint .i64 call], .val [AV.int .i64 (↑t : Int), AV.int .i64 (0 : Int), AV.int .i64 (0 : Int), AV.int .u64 (0 : Int), AV.int .u64 (0 : Int), AV.int .u64 (0 : Int)], .br false, .val [AV.sint .u64 old], .val [AV.sint .u64 old], .val [AV.int .i64 (0 : Int)]]⟩) =
    some (AV.bool false, ((((((((((((((((((((((True ∧ findM (↑t : Int) lmap = some (AV.soslice (16 + t) 1 lk 0 ll lt)) ∧ cmpI .eql (↑ll : Int) (0 : Int) = false) ∧ findM (↑t : Int) lmap = some (AV.soslice (16 + t) 1 lk 0 ll lt)) ∧ lk + ll ≤ lt) ∧ (0 : Int) ≤ (0 : Int) ∧ (0 : Int) < (↑ll : Int)) ∧ 1 = 1 ∧ ∀ (i : Nat), i < (1 : Nat) → lst[(lk + Int.toNat (0 : Int)) * (1 : Nat) + i]? = [AV.sint .i64 call][i]?) ∧ true = true) ∧ (0 : Nat) + nc ≤ nc) ∧ (0 : Int) ≤ call ∧ call < (↑nc : Int)) ∧ 6 = 6 ∧ ∀ (i : Nat), i < (6 : Nat) → calls[((0 : Nat) + call.toNat) * (6 : Nat) + i]? = [AV.int .i64 (↑t : Int), AV.int .i64 (0 : Int), AV.int .i64 (0 : Int), AV.int .u64 (0 : Int), AV.int .u64 (0 : Int), AV.int .u64 (0 : Int)][i]?) ∧ evl = evl ∧ evs.length = evl * (8 : Nat) ∧ (evl + (0 + (1 : Nat))) * 96 ≤ room ∧ evl + (0 + (1 : Nat)) ≤ maxLen) ∧ cmpI .geq (IntKind.i64.wrap ((0 : Int) + (↑t : Int))) (↑lw : Int) = false) ∧ true = true) ∧ (0 : Nat) + lw ≤ lw) ∧ (0 : Int) ≤ IntKind.i64.wrap ((0 : Int) + (↑t : Int)) ∧ IntKind.i64.wrap ((0 : Int) + (↑t : Int)) < (↑lw : Int)) ∧ 1 = 1 ∧ ∀ (i : Nat), i < (1 : Nat) → words[((0 : Nat) + (IntKind.i64.wrap ((0 : Int) + (↑t : Int))).toNat) * (1 : Nat) + i]? = [AV.sint .u64 old][i]?) ∧ (0 : Nat) + lw ≤ lw) ∧ (0 : Int) ≤ IntKind.i64.wrap ((0 : Int) + (↑t : Int)) ∧ IntKind.i64.wrap ((0 : Int) + (↑t : Int)) < (↑lw : Int)) ∧ 1 = 1 ∧ ∀ (i : Nat), i < (1 : Nat) → words[((0 : Nat) + (IntKind.i64.wrap ((0 : Int) + (↑t : Int))).toNat) * (1 : Nat) + i]? = [AV.sint .u64 old][i]?) ∧ (0 : Nat) + (evl + (0 + (1 : Nat))) ≤ evl + (0 + (1 : Nat))) ∧ (0 : Int) ≤ (↑evl : Int) ∧ (↑evl : Int) < (↑(evl + (0 + (1 : Nat))) : Int)) ∧ 1 = 1 ∧ ∀ (i : Nat), i < (1 : Nat) → (evs ++ [AV.sint .i64 call, AV.sint .i64 (IntKind.i64.wrap (now + (1 : Int))), AV.int .i64 (0 : Int), AV.int .i64 (0 : Int), AV.int .i64 (0 : Int), AV.int .u64 (0 : Int), AV.nils, AV.nils])[((0 : Nat) + (↑evl : Int).toNat) * (8 : Nat) + (2 + (1 : Nat)) + i]? = [AV.int .i64 (0 : Int)][i]?) ∧ ((0 : Nat) + (↑evl : Int).toNat) * (8 : Nat) + (2 + (1 : Nat)) < (evs ++ [AV.sint .i64 call, AV.sint .i64 (IntKind.i64.wrap (now + (1 : Int))), AV.int .i64 (0 : Int), AV.int .i64 (0 : Int), AV.int .i64 (0 : Int), AV.int .u64 (0 : Int), AV.nils, AV.nils]).length, 103, [0, 1, 2, 8, 96, 97, 98, 99, 100, 101, 102], [some (.row false (PL nc (AV.int .i64 (Int.ofNat t)) (updA m t (AV.iface 231 (AV.ptr 101 0))) (updA ats t (AV.sint .i64 (↑evl : Int))) (AV.soslice 98 8 0 0 (evl + (0 + (1 : Nat))) (evl + (0 + (1 : Nat)))) (wd) cn idle) 83 none), some (.row false (WL (IntKind.i64.wrap (now + (1 : Int))) (updA inv t (AV.sint .i64 (IntKind.i64.wrap (now + (1 : Int))))) (updA marks t (AV.nils))) 92 none), some (.row false [AV.soslice 3 1 0 0 lw lw, AV.sint .i64 (IntKind.i64.wrap (cnt (0 : Nat) + (1 : Int))), AV.sint .i64 (cnt (1 : Nat)), AV.sint .i64 (cnt (2 : Nat)), AV.sint .i64 (cnt (3 : Nat)), AV.sint .i64 (cnt (4 : Nat)), AV.nilf] 129 none), none, some (.row true ((evs ++ [AV.sint .i64 call, AV.sint .i64 (IntKind.i64.wrap (now + (1 : Int))), AV.int .i64 (0 : Int), AV.int .i64 (0 : Int), AV.int .i64 (0 : Int), AV.int .u64 (0 : Int), AV.nils, AV.nils]).set (((0 : Nat) + (↑evl : Int).toNat) * (8 : Nat) + (2 + (1 : Nat))) (AV.int .i64 (IntKind.i64.wrap ((0 : Int) + (1 : Int))))) 48 (some 8)), some (.row false [AV.int .i64 (Int.ofNat 0), AV.sint .i64 n, AV.int .i64 (Int.ofNat t), AV.sint .u64 old, AV.bool true] 233 none)]) :=
  match t, ht with
  | 0, _ => by kernel_rfl
  | 1, _ => by kernel_rfl
  | 2, _ => by kernel_rfl
  | 3, _ => by kernel_rfl
  | 4, _ => by kernel_rfl
  | 5, _ => by kernel_rfl
theorem way_tally0N (t : Nat) (ht : t < 6) (nc : Nat) (turn : AV) (m : Nat→AV) (ats : Nat→AV) (at1 : Int) (wd : AV) (cn : Nat→AV) (idle : Int) (now : Int) (inv : Nat→AV) (marks : Nat→AV) (lw : Nat) (cnt : Nat→Int) (n : Int) (words : List AV) (left : Int) (lmap : List (Int × AV)) (lst : List AV) (calls : List AV) (lk : Nat) (ll : Nat) (lt : Nat) (call : Int) (old : Int) :
    view [0, 1, 2, 98, 101] (evFn Tryz.prog noSums 60 22 [.ptr 0 0, .int .i64 t] ⟨(mk [(0, .row false (PL nc turn (updA m t (.nili)) (updA ats t (.sint .i64 at1)) (.nils) wd cn idle) 83 none), (1, .row false (WL now inv (updA marks t (marks t))) 92 none), (2, .row false (ML lw lw cnt) 129 none), (3, .row true words 40 (some 1)), (4, .row false [.mapv 5, .sint .i64 left] 113 none), (5, .map true lmap), ((16 + t), .row true lst 3 (some 1)), (9, .row false (OL n) 107 (some 1)), (7, .row true calls 42 (some 6))]), 96, 0, 0, True, [.val [AV.soslice ((16 + t) : Nat) (1 : Nat) lk (0 : Nat) ll lt], .br false, .val [AV.soslice ((16 + t) : Nat) (1 : Nat) lk (0 : Nat) ll lt], .val [AV.sint .i64 call], .val [AV.int .i64 (↑t : Int), AV.int .i64 (0 : Int), AV.int .i64 (0 : Int), AV.int .u64 (0 : Int), AV.int .u64 (0 : Int), AV.int .u64 (0 : Int)], .br false, .val [AV.sint .u64 old], .val [AV.sint .u64 old]]⟩) =
    some (AV.bool false, (((((((((((((((((True ∧ findM (↑t : Int) lmap = some (AV.soslice (16 + t) 1 lk 0 ll lt)) ∧ cmpI .eql (↑ll : Int) (0 : Int) = false) ∧ findM (↑t : Int) lmap = some (AV.soslice (16 + t) 1 lk 0 ll lt)) ∧ lk + ll ≤ lt) ∧ (0 : Int) ≤ (0 : Int) ∧ (0 : Int) < (↑ll : Int)) ∧ 1 = 1 ∧ ∀ (i : Nat), i < (1 : Nat) → lst[(lk + Int.toNat (0 : Int)) * (1 : Nat) + i]? = [AV.sint .i64 call][i]?) ∧ true = true) ∧ (0 : Nat) + nc ≤ nc) ∧ (0 : Int) ≤ call ∧ call < (↑nc : Int)) ∧ 6 = 6 ∧ ∀ (i : Nat), i < (6 : Nat) → calls[((0 : Nat) + call.toNat) * (6 : Nat) + i]? = [AV.int .i64 (↑t : Int), AV.int .i64 (0 : Int), AV.int .i64 (0 : Int), AV.int .u64 (0 : Int), AV.int .u64 (0 : Int), AV.int .u64 (0 : Int)][i]?) ∧ cmpI .geq (IntKind.i64.wrap ((0 : Int) + (↑t : Int))) (↑lw : Int) = false) ∧ true = true) ∧ (0 : Nat) + lw ≤ lw) ∧ (0 : Int) ≤ IntKind.i64.wrap ((0 : Int) + (↑t : Int)) ∧ IntKind.i64.wrap ((0 : Int) + (↑t : Int)) < (↑lw : Int)) ∧ 1 = 1 ∧ ∀ (i : Nat), i < (1 : Nat) → words[((0 : Nat) + (IntKind.i64.wrap ((0 : Int) + (↑t : Int))).toNat) * (1 : Nat) + i]? = [AV.sint .u64 old][i]?) ∧ (0 : Nat) + lw ≤ lw) ∧ (0 : Int) ≤ IntKind.i64.wrap ((0 : Int) + (↑t : Int)) ∧ IntKind.i64.wrap ((0 : Int) + (↑t : Int)) < (↑lw : Int)) ∧ 1 = 1 ∧ ∀ (i : Nat), i < (1 : Nat) → words[((0 : Nat) + (IntKind.i64.wrap ((0 : Int) + (↑t : Int))).toNat) * (1 : Nat) + i]? = [AV.sint .u64 old][i]?, 103, [0, 1, 2, 96, 97, 98, 99, 100, 101, 102], [some (.row false (PL nc (AV.int .i64 (Int.ofNat t)) (updA m t (AV.iface 231 (AV.ptr 101 0))) (updA ats t (AV.int .i64 (Int.ofNat 0))) (AV.oslice 98 8 0 0 1 1) (wd) cn idle) 83 none), some (.row false (WL (IntKind.i64.wrap (now + (1 : Int))) (updA inv t (AV.sint .i64 (IntKind.i64.wrap (now + (1 : Int))))) (updA marks t (AV.nils))) 92 none), some (.row false [AV.soslice 3 1 0 0 lw lw, AV.sint .i64 (IntKind.i64.wrap (cnt (0 : Nat) + (1 : Int))), AV.sint .i64 (cnt (1 : Nat)), AV.sint .i64 (cnt (2 : Nat)), AV.sint .i64 (cnt (3 : Nat)), AV.sint .i64 (cnt (4 : Nat)), AV.nilf] 129 none), some (.row false [AV.sint .i64 call, AV.sint .i64 (IntKind.i64.wrap (now + (1 : Int))), AV.int .i64 (Int.ofNat 0), AV.int .i64 (Int.ofNat 1), AV.int .i64 (Int.ofNat 0), AV.int .u64 (Int.ofNat 0), AV.nils, AV.nils] 48 (some 8)), some (.row false [AV.int .i64 (Int.ofNat 0), AV.sint .i64 n, AV.int .i64 (Int.ofNat t), AV.sint .u64 old, AV.bool true] 233 none)]) :=
  match t, ht with
  | 0, _ => by kernel_rfl
  | 1, _ => by kernel_rfl
  | 2, _ => by kernel_rfl
  | 3, _ => by kernel_rfl
  | 4, _ => by kernel_rfl
  | 5, _ => by kernel_rfl
end Ct
end Go.Proofs.YtpkfimijnkkbjaaGreat

namespace Go.Proofs.YtpkfimijnkkbjaaGreat
namespace Ct
open Ev
theorem way_univ0 (t : Nat) (ht : t < 6) (nc : Nat) (turn : AV) (m : Nat→AV) (ats : Nat→AV) (at1 : Int) (wd : AV) (cn : Nat→AV) (idle : Int) (now : Int) (inv : Nat→AV) (marks : Nat→AV) (lw : Nat) (cnt : Nat→Int) (n : Int) (words : List AV) (evl : Nat) (evs : List AV) (left : Int) (lmap : List (Int × AV)) (lst : List AV) (calls : List AV) (lk : Nat) (ll : Nat) (lt : Nat) (call : Int) (old : Int) (own : Nat→AV) (ann : Int) (app : Int) (last : Nat→Int) (sv : Int) :
    view [0, 1, 2, 3, 8, (64 + t), 98, 104] (evFn Tryz.prog noSums 60 22 [.ptr 0 0, .int .i64 t] ⟨(mk [(0, .row false (PL nc turn (updA m t (.nili)) (updA ats t (.sint .i64 at1)) (.soslice 8 8 0 0 evl evl) wd cn idle) 83 none), (1, .row false (WL now inv (updA marks t (marks t))) 92 none), (2, .row false (ML lw lw cnt) 129 none), (3, .row true words 40 (some 1)), (4, .row false [.mapv 5, .sint .i64 left] 113 none), (5, .map true lmap), ((16 + t), .row true lst 3 (some 1)), (8, .row true evs 48 (some 8)), (12, .row false (UL n (updA own t (.ptr (64 + t) 0))) 182 none), ((64 + t), .row false (RL ann app (.oslice (80 + t) 1 0 0 1 1) last) 188 none), ((80 + t), .row false [.sint .u64 sv] 40 (some 1)), (9, .row false (OL n) 107 (some 1)), (7, .row true calls 42 (some 6))]), 96, 0, 0, True, [.val [AV.soslice ((16 + t) : Nat) (1 : Nat) lk (0 : Nat) ll lt], .br false, .val [AV.soslice ((16 + t) : Nat) (1 : Nat) lk (0 : Nat) ll lt], .val [AV.sint .i64 call], .val [AV.int .i64 (↑t : Int), AV.int .i64 (2 : Int), AV.int .i64 (1 : Int), AV.int .u64 (1 : Int), AV.int .u64 (0 : Int), AV.int .u64 (0 : Int)], .br false, .br false, .val [AV.sint .u64 old], .br false, .val [AV.int .i64 (0 : Int)]]⟩) =
    some (AV.bool false, ((((((((((((((((((((((((((((True ∧ findM (↑t : Int) lmap = some (AV.soslice (16 + t) 1 lk 0 ll lt)) ∧ cmpI .eql (↑ll : Int) (0 : Int) = false) ∧ findM (↑t : Int) lmap = some (AV.soslice (16 + t) 1 lk 0 ll lt)) ∧ lk + ll ≤ lt) ∧ (0 : Int) ≤ (0 : Int) ∧ (0 : Int) < (↑ll : Int)) ∧ 1 = 1 ∧ ∀ (i : Nat), i < (1 : Nat) → lst[(lk + Int.toNat (0 : Int)) * (1 : Nat) + i]? = [AV.sint .i64 call][i]?) ∧ true = true) ∧ (0 : Nat) + nc ≤ nc) ∧ (0 : Int) ≤ call ∧ call < (↑nc : Int)) ∧ 6 = 6 ∧ ∀ (i : Nat), i < (6 : Nat) → calls[((0 : Nat) + call.toNat) * (6 : Nat) + i]? = [AV.int .i64 (↑t : Int), AV.int .i64 (2 : Int), AV.int .i64 (1 : Int), AV.int .u64 (1 : Int), AV.int .u64 (0 : Int), AV.int .u64 (0 : Int)][i]?) ∧ evl = evl ∧ evs.length = evl * (8 : Nat) ∧ (evl + (0 + (1 : Nat))) * 96 ≤ room ∧ evl + (0 + (1 : Nat)) ≤ maxLen) ∧ true = true) ∧ true = true) ∧ true = true) ∧ true = true) ∧ cmpI .lss (IntKind.i64.wrap (n + (1 : Int) + (↑t : Int))) (0 : Int) = false) ∧ cmpI .geq (IntKind.i64.wrap (n + (1 : Int) + (↑t : Int))) (↑lw : Int) = false) ∧ true = true) ∧ (0 : Nat) + lw ≤ lw) ∧ (0 : Int) ≤ IntKind.i64.wrap (n + (1 : Int) + (↑t : Int)) ∧ IntKind.i64.wrap (n + (1 : Int) + (↑t : Int)) < (↑lw : Int)) ∧ 1 = 1 ∧ ∀ (i : Nat), i < (1 : Nat) → words[((0 : Nat) + (IntKind.i64.wrap (n + (1 : Int) + (↑t : Int))).toNat) * (1 : Nat) + i]? = [AV.sint .u64 old][i]?) ∧ (0 : Nat) + lw ≤ lw) ∧ (0 : Int) ≤ IntKind.i64.wrap (n + (1 : Int) + (↑t : Int)) ∧ IntKind.i64.wrap (n + (1 : Int) + (↑t : Int)) < (↑lw : Int)) ∧ ((0 : Nat) + (IntKind.i64.wrap (n + (1 : Int) + (↑t : Int))).toNat) * (1 : Nat) < words.length) ∧ cmpI .eql app (64 : Int) = false) ∧ (0 : Nat) + (evl + (0 + (1 : Nat))) ≤ evl + (0 + (1 : Nat))) ∧ (0 : Int) ≤ (↑evl : Int) ∧ (↑evl : Int) < (↑(evl + (0 + (1 : Nat))) : Int)) ∧ 1 = 1 ∧ ∀ (i : Nat), i < (1 : Nat) → (evs ++ [AV.sint .i64 call, AV.sint .i64 (IntKind.i64.wrap (now + (1 : Int))), AV.int .i64 (0 : Int), AV.int .i64 (0 : Int), AV.int .i64 (0 : Int), AV.int .u64 (0 : Int), AV.nils, AV.nils])[((0 : Nat) + (↑evl : Int).toNat) * (8 : Nat) + (2 + (1 : Nat)) + i]? = [AV.int .i64 (0 : Int)][i]?) ∧ ((0 : Nat) + (↑evl : Int).toNat) * (8 : Nat) + (2 + (1 : Nat)) < (evs ++ [AV.sint .i64 call, AV.sint .i64 (IntKind.i64.wrap (now + (1 : Int))), AV.int .i64 (0 : Int), AV.int .i64 (0 : Int), AV.int .i64 (0 : Int), AV.int .u64 (0 : Int), AV.nils, AV.nils]).length, 106, [0, 1, 2, 3, 8, (64 + t), 96, 97, 98, 99, 100, 101, 102, 103, 104, 105], [some (.row false (PL nc (AV.int .i64 (Int.ofNat t)) (updA m t (AV.iface 279 (AV.ptr 104 0))) (updA ats t (AV.sint .i64 (↑evl : Int))) (AV.soslice 98 8 0 0 (evl + (0 + (1 : Nat))) (evl + (0 + (1 : Nat)))) (wd) cn idle) 83 none), some (.row false (WL (IntKind.i64.wrap (now + (1 : Int))) (updA inv t (AV.sint .i64 (IntKind.i64.wrap (now + (1 : Int))))) (updA marks t (AV.nils))) 92 none), some (.row false [AV.soslice 3 1 0 0 lw lw, AV.sint .i64 (cnt (0 : Nat)), AV.sint .i64 (IntKind.i64.wrap (cnt (1 : Nat) + (1 : Int))), AV.sint .i64 (cnt (2 : Nat)), AV.sint .i64 (cnt (3 : Nat)), AV.sint .i64 (cnt (4 : Nat)), AV.nilf] 129 none), some (.row true (words.set (((0 : Nat) + (IntKind.i64.wrap (n + (1 : Int) + (↑t : Int))).toNat) * (1 : Nat)) (AV.sint .u64 (pack t ann))) 40 (some 1)), none, some (.row false (RL (IntKind.u64.wrap (ann + (1 : Int))) app (AV.oslice (80 + t) 1 0 0 1 1) last) 188 none), some (.row true ((evs ++ [AV.sint .i64 call, AV.sint .i64 (IntKind.i64.wrap (now + (1 : Int))), AV.int .i64 (0 : Int), AV.int .i64 (0 : Int), AV.int .i64 (0 : Int), AV.int .u64 (0 : Int), AV.nils, AV.nils]).set (((0 : Nat) + (↑evl : Int).toNat) * (8 : Nat) + (2 + (1 : Nat))) (AV.int .i64 (IntKind.i64.wrap ((0 : Int) + (1 : Int))))) 48 (some 8)), some (.row false [AV.ptr 12 0, AV.ptr (64 + t) 0, AV.int .i64 (Int.ofNat t), AV.int .i64 (Int.ofNat 1), AV.sint .u64 (pack t ann), AV.int .u64 (Int.ofNat 0), AV.int .i64 (Int.ofNat 0), AV.int .u64 (Int.ofNat 0), AV.nils, AV.nils] 282 none)]) :=
  match t, ht with
  | 0, _ => by kernel_rfl
  | 1, _ => by kernel_rfl
  | 2, _ => by kernel_rfl
  | 3, _ => by kernel_rfl
  | 4, _ => by kernel_rfl
  | 5, _ => by kernel_rfl
end Ct
end Go.Proofs.YtpkfimijnkkbjaaGreat
