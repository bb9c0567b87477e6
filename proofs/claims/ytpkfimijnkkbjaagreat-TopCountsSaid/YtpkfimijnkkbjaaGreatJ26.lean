/-
  How a run's blocks make the next heap of the counting play, where a thread has applied its own entry.
-/
import Derived.Test.YtpkfimijnkkbjaaGreatJ25
set_option linter.unusedVariables false
namespace Go.Proofs.YtpkfimijnkkbjaaGreat
namespace Ct
open Ev

variable {κ : Keep}

/-- A thread has applied its own entry of the log. -/
theorem arr_took {n many k : Nat} {c : Cf} {j : Jk} {φ φ1 : Phi} {w' : World} {t : Nat} (hn : n ≤ 6) (hm : many ≤ 5) (ht : t < n) (hok : Ok n many c) (hj : JOk n many c j k) (hk : k ≤ 1000000)
    {pc0 : Nat} {o0 : Nat × Nat} {log' : List (Nat × Nat)} (hmode : c.mode t = .act pc0 o0) (hlog : ∀ u, u < n → u ≠ t → log'.take (c.app u) = c.log.take (c.app u)) (hφ : ∀ i, i < 96 → φ1 i = φ i) {s : St} {WR : List Nat} (hWR : ∀ b, b ∈ WR → b = 0 ∨ b = 1 ∨ b = 2 ∨ b = 3 ∨ b = 4 ∨ b = 5 ∨ b = 8 ∨ b = 32 + t ∨ b = 64 + t ∨ (96 ≤ b ∧ b < 128)) (hin : 0 ∈ WR ∧ 1 ∈ WR ∧ 2 ∈ WR ∧ 8 ∈ WR ∧ 64 + t ∈ WR ∧ 4 ∈ WR ∧ 5 ∈ WR)
    (hwr : ∀ b, b < 128 → (s.wr.testBit b = true ↔ b ∈ WR)) (hfit : FitH κ (after (heap n many c j) s) φ1 w')
    {turn : AV} {turn' : Int} (hturn : turn = .int .i64 turn') {stpv : Int} {L : List AV} {cnt : Nat → Int} {w0 sn x w1 m1 : Nat} {b' : Bool} {MK : AV} {sv' : Int} {y0 : Bool} {left' : Int} (hw0 : w0 < 16) (hw0t : ∀ v, c.mode w0 ≠ .tallied v) (hsn : 96 ≤ sn ∧ sn < 128 ∧ sn ∈ WR) (hx : (x = 48 + w0 ∨ (96 ≤ x ∧ x < 128)) ∧ x ≠ sn) (hMK : ∀ φ' : Phi, φ' (48 + w0) = φ1 x → conc φ1 MK = conc φ' (if b' = true then .oslice (48 + w0) 1 0 0 1 1 else .nils))
    (hlast' : (fun w => ((cntw w (log'.take (c.app t + 1)) : Nat) : Int)) = updA (lastOf c t) w1 m1)
    (h0 : s.get 0 = some (.row false (PL (3 * n * many) turn (updA (mOf c) t .nili) (updA (fun u => .sint .i64 (j.ats u : Int)) t (.sint .i64 (j.ats t : Int))) (.soslice 8 8 0 0 j.evl j.evl) .nils (fun i => .sint .i64 (j.cn i)) j.idle) 83 none))
    (h1 : s.get 1 = some (.row y0 (WL (IntKind.i64.wrap (j.now + (1 : Int))) (fun u => .sint .i64 (j.inv u)) (updA (markOf j) w0 MK)) 92 none))
    (h2 : s.get 2 = some (.row false (ML (2 * n + 65) (2 * n + 65) cnt) 129 none))
    (h8 : s.get 8 = some (.row true L 48 (some 8)))
    (hL : Mid j.evs (((0 : Nat) + (j.ats t : Int).toNat) * (8 : Nat)) (.sint .i64 stpv) (.sint .i64 (j.now + 1)) L)
    (h4 : s.get 4 = some (.row false [.mapv 5, .sint .i64 left'] 113 none))
    (h5 : s.get 5 = some (.map true (putM (t : Int) (.soslice (16 + t) 1 (c.fin t + 1) (c.fin t) (3 * many - c.fin t - 1) (3 * many)) j.lmap)))
    (h64 : s.get (64 + t) = some (.row true (RL ((c.ann t : Nat) : Int) ((c.app t + 1 : Nat) : Int) (.oslice sn 1 0 0 1 1) (updA (lastOf c t) w1 m1)) 188 none))
    (h80 : s.get sn = some (.row false [.sint .u64 sv'] 40 (some 1)))
    (h3 : (3 ∉ WR ∧ wordsOf n { c with mode := updA c.mode t .none, app := updA c.app t (c.app t + 1), fin := updA c.fin t (c.fin t + 1), log := log' } = wordsOf n c) ∨ (3 ∈ WR ∧ s.get 3 = some (.row true (wordsOf n { c with mode := updA c.mode t .none, app := updA c.app t (c.app t + 1), fin := updA c.fin t (c.fin t + 1), log := log' }) 40 (some 1)))) : Goes κ n many k φ j.oth { c with mode := updA c.mode t .none, app := updA c.app t (c.app t + 1), fin := updA c.fin t (c.fin t + 1), log := log' } (.returned (.bool true)) w' := by
  have hbusy : (c.mode t).busy = 1 := by rw [hmode]; rfl
  have hmany : many ≠ 0 := by have := hok.act t _ _ ht hmode; omega
  have hat := hj.ats t ht hbusy
  have hev0 : j.evl ≠ 0 := by omega
  have hnow := hj.now
  subst hturn
  let c' : Cf := { c with mode := updA c.mode t .none, app := updA c.app t (c.app t + 1), fin := updA c.fin t (c.fin t + 1), log := log' }
  let j' : Jk := { j with turn := turn', ats := updA j.ats t (j.ats t), now := IntKind.i64.wrap (j.now + 1), cnt := cnt, evs := L.map (kept φ1), left := left', lmap := putM (t : Int) (nextCalls many t (c.fin t)) j.lmap, sv := updA j.sv t sv', marks := updA j.marks w0 b' }
  obtain ⟨a1, a2, a3, a4⟩ := hok.act t _ _ ht hmode
  have hann : ∀ u, c'.ann u = c.ann u := fun u => by
    show updA c.fin t (c.fin t + 1) u / 3 + (updA c.mode t .none u).one = c.fin u / 3 + (c.mode u).one
    rw [updA_eq, updA_eq]
    split
    · rename_i e; rw [e, hmode]; simp only [Mode.one]; omega
    · rfl
  have hats : j'.ats = j.ats := updA_self rfl
  have hE' : evsOf j' = .soslice 8 8 0 0 j.evl j.evl := by
    show (if j.evl = 0 then AV.nils else .soslice 8 8 0 0 j.evl j.evl) = _
    rw [if_neg hev0]
  have rlt : ∀ i, (i < 8 ∨ i = 9 ∨ i = 10 ∨ (11 < i ∧ i < 32) ∨ (64 ≤ i ∧ i < 80)) → rh t w0 8 11 (32 + t) sn x i = i := fun i h => rh_lt h (by omega) hw0
  have r32 : ∀ u, u < 16 → rh t w0 8 11 (32 + t) sn x (32 + u) = 32 + u := fun u hu => by
    by_cases e : u = t
    · rw [e, rh32]
    · exact rh_mach hu hw0 e (by omega)
  have hmkw : ∀ u, u < 16 → conc φ1 (updA (markOf j) w0 MK u) = conc (fun i => φ1 (rh t w0 8 11 (32 + t) sn x i)) (markOf j' u) := fun u hu => by
    rw [updA_eq]
    have hm' : markOf j' u = if (updA j.marks w0 b' u) = true then .oslice (48 + u) 1 0 0 1 1 else .nils := by
      unfold markOf
      show (match updA j.marks w0 b' u with | true => _ | false => _) = _
      cases updA j.marks w0 b' u <;> rfl
    rw [hm', updA_eq]
    split
    · rename_i e
      rw [e]
      exact hMK _ (by show φ1 (rh t w0 8 11 (32 + t) sn x (48 + w0)) = φ1 x; rw [rh48 (by omega) hw0])
    · rename_i e
      unfold markOf
      cases j.marks u
      · rfl
      · exact conc_os (by show φ1 (48 + u) = φ1 (rh t w0 8 11 (32 + t) sn x (48 + u)); rw [rh_mark hu (by omega) e])
  have hag : Agree n t c c' j j' := ⟨fun u hu => by show updA c.mode t _ u = c.mode u; rw [updA_eq, if_neg hu], fun u hu => by show updA c.fin t _ u = c.fin u; rw [updA_eq, if_neg hu], fun u hu => by show updA c.app t _ u = c.app u; rw [updA_eq, if_neg hu], hlog, fun _ _ => rfl, fun _ _ => rfl, fun u hu => by show updA j.sv t _ u = j.sv u; rw [updA_eq, if_neg hu], rfl⟩
  have happ' : c'.app t = c.app t + 1 := by show updA c.app t _ t = _; rw [updA_eq, if_pos rfl]
  have hlast : lastOf c' t = updA (lastOf c t) w1 m1 := by
    rw [← hlast']; funext w; unfold lastOf; rw [happ']
  have this : mOf c' t = .nili := by
    unfold mOf
    show (match updA c.mode t .none t with | .none => AV.nili | .tallied _ => _ | .act _ _ => _) = _
    rw [updA_eq, if_pos rfl]
  have keep : ∀ b, b ≠ 0 → b ≠ 1 → b < 12 → b ≠ 8 → b ∉ WR → heap n many c' j' b = heap n many c j b → ∀ o', heap n many c' j' b = some o' → ∃ o, heap n many c j b = some o ∧ b ∉ WR ∧ rh t w0 8 11 (32 + t) sn x b = b ∧ Same φ1 (fun i => φ1 (rh t w0 8 11 (32 + t) sn x i)) o o' := by
    intro b b0 b1 b12 b8 hbw he o' ho'
    rw [he] at ho'
    have rb : rh t w0 8 11 (32 + t) sn x b = b := by
      by_cases e : b = 11
      · rw [e, rh11]
      · exact rlt b (by omega)
    exact ⟨o', ho', hbw, rb, same_keep hj ho' ⟨b0, b1⟩ (fun _ => rfl) (fun _ => by omega) (by omega) hw0⟩
  have nin : ∀ b, b < 96 → b ≠ 0 → b ≠ 1 → b ≠ 2 → b ≠ 3 → b ≠ 4 → b ≠ 5 → b ≠ 8 → b ≠ 32 + t → b ≠ 64 + t → b ∉ WR := fun b g1 g2 g3 g4 g5 g6 g7 g8 g9 g10 hb => by have := hWR b hb; omega
  refine ⟨fun i => φ1 (rh t w0 8 11 (32 + t) sn x i), j', true, rfl, ?_, arrive (t := t) (WR := WR) hj hag (by omega) hwr (fun b hb => by have := hWR b hb; omega) hfit (rh_ok (by omega) hw0 (by omega) (by omega) (by omega) (by omega) hx.1) (rh_inj (by omega) hw0 (by omega) (by omega) (by omega) (by omega) hx.1 (by omega)) ?_, ?_, rfl⟩
  · intro i hi
    show φ1 (rh _ _ _ _ _ _ _ i) = φ i
    rw [rlt i (by omega)]; exact hφ i (by omega)
  · intro b hb o' ho'
    rcases hb with rfl | rfl | rfl | rfl | rfl | rfl | rfl | rfl | rfl | rfl | rfl | rfl
    · refine .inl ⟨_, by rw [rlt 0 (by omega)]; exact h0, by rw [rlt 0 (by omega)]; exact hin.1, ?_⟩
      obtain rfl := Option.some.inj ((heap0 hmany hE').symm.trans ho')
      have q : ∀ i, (i < 8 ∨ i = 9 ∨ i = 10 ∨ (11 < i ∧ i < 32) ∨ (64 ≤ i ∧ i < 80)) → φ1 (rh t w0 8 11 (32 + t) sn x i) = φ1 i := fun i h => by rw [rlt i h]
      refine pl_same (q 1 (by omega)) (q 9 (by omega)) (q 7 (by omega)) (q 4 (by omega)) (fun u hu => by show updA c.mode t _ u = c.mode u; rw [updA_eq, if_neg hu]) (fun u hu _ => by show φ1 (rh t w0 8 11 (32 + t) sn x (32 + u)) = φ1 (32 + u); rw [r32 u hu]) ?_ rfl ?_ rfl (fun _ _ _ => rfl)
      · rw [this]; rfl
      · exact conc_sos (by show φ1 8 = φ1 (rh t w0 8 11 (32 + t) sn x 8); rw [rh8])
    · refine .inl ⟨_, by rw [rlt 1 (by omega)]; exact h1, by rw [rlt 1 (by omega)]; exact hin.2.1, ?_⟩
      obtain rfl := Option.some.inj (heap1.symm.trans ho')
      exact wl_same (by show φ1 (rh t w0 8 11 (32 + t) sn x 2) = _; rw [rlt 2 (by omega)]) (by show φ1 (rh t w0 8 11 (32 + t) sn x 10) = _; rw [rlt 10 (by omega)]) (fun _ _ => rfl) hmkw
    · refine .inl ⟨_, by rw [rlt 2 (by omega)]; exact h2, by rw [rlt 2 (by omega)]; exact hin.2.2.1, ?_⟩
      obtain rfl := Option.some.inj (heap2.symm.trans ho')
      refine ⟨?_, rfl, rfl⟩
      unfold ML
      rw [concL, concL, conc_sos (show φ1 3 = (fun i => φ1 (rh t w0 8 11 (32 + t) sn x i)) 3 by show φ1 3 = φ1 (rh t w0 8 11 (32 + t) sn x 3); rw [rlt 3 (by omega)])]
      rfl
    · rcases h3 with ⟨h3a, h3b⟩ | ⟨h3a, h3b⟩
      · exact .inr (keep 3 (by omega) (by omega) (by omega) (by omega) h3a (by rw [heap3, heap3, h3b]) o' ho')
      · refine .inl ⟨_, by rw [rlt 3 (by omega)]; exact h3b, by rw [rlt 3 (by omega)]; exact h3a, ?_⟩
        obtain rfl := Option.some.inj (heap3.symm.trans ho')
        exact ⟨ints_same _ _ _, rfl, rfl⟩
    · refine .inl ⟨_, by rw [rlt 4 (by omega)]; exact h4, by rw [rlt 4 (by omega)]; exact hin.2.2.2.2.2.1, ?_⟩
      obtain rfl := Option.some.inj (heap4.symm.trans ho')
      refine ⟨?_, rfl, rfl⟩
      simp only [concL, conc]
      rw [rlt 5 (by omega)]
    · refine .inl ⟨_, by rw [rlt 5 (by omega)]; exact h5, by rw [rlt 5 (by omega)]; exact hin.2.2.2.2.2.2, ?_⟩
      obtain rfl := Option.some.inj (heap5.symm.trans ho')
      refine putM_pairs (next_conc (by show φ1 (16 + t) = φ1 (rh t w0 8 11 (32 + t) sn x (16 + t)); rw [rlt (16 + t) (by omega)])) fun p hp => ?_
      refine (conc_congr (D := fun i => 16 ≤ i ∧ i < 32) (fun i hi => ?_) (hj.lmall p hp)).symm
      show φ1 (rh t w0 8 11 (32 + t) sn x i) = φ1 i
      rw [rlt i (by omega)]
    · refine .inl ⟨_, by rw [rh8]; exact h8, by rw [rh8]; exact hin.2.2.2.1, ?_⟩
      obtain rfl := Option.some.inj ((heap8 (j := j') hev0).symm.trans ho')
      exact ⟨(concL_kept hL.flat).symm, rfl, rfl⟩
    · exact .inr (keep 10 (by omega) (by omega) (by omega) (by omega) (nin _ (by omega) (by omega) (by omega) (by omega) (by omega) (by omega) (by omega) (by omega) (by omega) (by omega)) (by rw [heap10, heap10]) o' ho')
    · refine .inr (keep 11 (by omega) (by omega) (by omega) (by omega) (nin _ (by omega) (by omega) (by omega) (by omega) (by omega) (by omega) (by omega) (by omega) (by omega) (by omega)) ?_ o' ho')
      rw [heap_fix (by omega), heap_fix (by omega)]; rfl
    · have hm32 : machOf n c' j' t = none := by
        unfold machOf
        show (match updA c.mode t .none t with | .none => none | .tallied v => _ | .act pc _ => _) = _
        rw [updA_eq, if_pos rfl]
      rw [heap32 ht hn, hm32] at ho'
      cases ho'
    · refine .inl ⟨_, by rw [rlt (64 + t) (by omega)]; exact h64, by rw [rlt (64 + t) (by omega)]; exact hin.2.2.2.2.1, ?_⟩
      obtain rfl := Option.some.inj ((heap64 ht hn).symm.trans ho')
      rw [hann, hlast, happ']
      refine ⟨?_, rfl, rfl⟩
      unfold RL
      rw [concL_append, concL_append, sixteen_same (fun u _ => rfl)]
      rw [concL, concL, concL, concL, concL, concL, conc_os (show φ1 sn = (fun i => φ1 (rh t w0 8 11 (32 + t) sn x i)) (80 + t) by show φ1 sn = φ1 (rh t w0 8 11 (32 + t) sn x (80 + t)); rw [rh80 (by omega)])]
      rfl
    · refine .inl ⟨_, by rw [rh80 (by omega)]; exact h80, by rw [rh80 (by omega)]; exact hsn.2.2, ?_⟩
      obtain rfl := Option.some.inj ((heap80 ht hn).symm.trans ho')
      have hs2 : j'.sv t = sv' := by show updA j.sv t sv' t = sv'; rw [updA_eq, if_pos rfl]
      rw [hs2]
      exact ⟨rfl, rfl, rfl⟩
  · have hnw : IntKind.i64.wrap (j.now + 1) = j.now + 1 := wrap64 (by omega) (by omega)
    have hl := hj.evs.len
    refine JOk.fin hj hn ht (by omega) a2 hk rfl rfl hnw ?_ ?_ (fun u hu => by rw [hats]) rfl hj.tr0 hj.tr1 ?_ (fun _ _ => rfl) ?_ rfl
    · show j.evl + _ = _
      rw [hbusy]
    · refine hL.done (may := fun i => ∃ u, u < n ∧ (c.mode u).busy = 1 ∧ j.ats u = i) (at1 := j.ats t) (by omega) (by omega) (.inl rfl) hl (fun i hi _ => ?_) (fun i hi _ => ?_) ?_
      · obtain ⟨s, h⟩ := hj.evs.stp i hi; exact ⟨s, .inl h⟩
      · obtain ⟨r, h, h'⟩ := hj.evs.rsp i hi; exact ⟨r, .inl h, h'⟩
      · rintro i hne ⟨u, hu, hb, hi⟩
        refine ⟨u, hu, ?_, by rw [hats]; exact hi⟩
        show (updA c.mode t .none u).busy = 1
        rw [updA_eq, if_neg (fun e => hne (by rw [← hi, e]))]; exact hb
    · refine Nat.le_trans hj.was (sumN_le n fun u _ => ?_)
      show (c.fin u + 2) / 3 ≤ (updA c.fin t (c.fin t + 1) u + 2) / 3
      rw [updA_eq]; split
      · rename_i e; subst e; omega
      · exact Nat.le_refl _
    · intro u v hne hu hv
      show updA j.marks w0 b' u = false
      rw [updA_eq]; split
      · rename_i e; rw [e] at hv; exact absurd hv (hw0t v)
      · exact hj.mark u v hu hv
end Ct
end Go.Proofs.YtpkfimijnkkbjaaGreat
