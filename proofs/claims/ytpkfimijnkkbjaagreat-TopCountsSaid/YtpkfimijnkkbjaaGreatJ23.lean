/-
  How a run's blocks make the next heap of the counting play, where a thread has applied another one's entry.
  Ways through Player.Pick, printed by uni.py from what the kernel reckoned: eYf eAf.
-/
import Derived.Test.YtpkfimijnkkbjaaGreatJ18
import Derived.Test.YtpkfimijnkkbjaaGreatJ16
import Derived.Test.YtpkfimijnkkbjaaGreatProg
import Derived.KernelRfl
set_option linter.unusedVariables false
namespace Go.Proofs.YtpkfimijnkkbjaaGreat
namespace Ct
open Ev

variable {κ : Keep}

/-- A thread has applied another one's entry of the log. -/
theorem arr_take {n many k : Nat} {c : Cf} {j : Jk} {φ φ1 : Phi} {w' : World} {t : Nat} (hn : n ≤ 6) (hm : many ≤ 5) (ht : t < n) (hok : Ok n many c) (hj : JOk n many c j k) (hk : k ≤ 1000000)
    {pc0 : Nat} {o0 : Nat × Nat} {log' : List (Nat × Nat)} (hmode : c.mode t = .act pc0 o0) (hlog : ∀ u, u < n → u ≠ t → log'.take (c.app u) = c.log.take (c.app u)) (hφ : ∀ i, i < 96 → φ1 i = φ i) {s : St} {WR : List Nat} (hWR : ∀ b, b ∈ WR → b = 0 ∨ b = 1 ∨ b = 2 ∨ b = 3 ∨ b = 8 ∨ b = 32 + t ∨ b = 64 + t ∨ (96 ≤ b ∧ b < 128)) (hin : 0 ∈ WR ∧ 1 ∈ WR ∧ 2 ∈ WR ∧ 8 ∈ WR ∧ 32 + t ∈ WR ∧ 64 + t ∈ WR)
    (hwr : ∀ b, b < 128 → (s.wr.testBit b = true ↔ b ∈ WR)) (hfit : FitH κ (after (heap n many c j) s) φ1 w')
    {turn : AV} {turn' : Int} (hturn : turn = .int .i64 turn') {stp : Int} {off : Int} {cnt : Nat → Int} {w0 sn x w1 m1 : Nat} {b' : Bool} {MK : AV} {sv' : Int} {y0 : Bool} (hw0 : w0 < 16) (hw0t : ∀ v, c.mode w0 ≠ .tallied v) (hsn : 96 ≤ sn ∧ sn < 128 ∧ sn ∈ WR) (hx : (x = 48 + w0 ∨ (96 ≤ x ∧ x < 128)) ∧ x ≠ sn) (hMK : ∀ φ' : Phi, φ' (48 + w0) = φ1 x → conc φ1 MK = conc φ' (if b' = true then .oslice (48 + w0) 1 0 0 1 1 else .nils))
    (hlast' : (fun w => ((cntw w (log'.take (c.app t + 1)) : Nat) : Int)) = updA (lastOf c t) w1 m1)
    (h0 : s.get 0 = some (.row false (PL (3 * n * many) turn (updA (mOf c) t (.iface 279 (.ptr (32 + t) 0))) (updA (fun u => .sint .i64 (j.ats u : Int)) t (.sint .i64 (j.ats t : Int))) (.soslice 8 8 0 0 j.evl j.evl) .nils (fun i => .sint .i64 (j.cn i)) j.idle) 83 none))
    (h1 : s.get 1 = some (.row y0 (WL (IntKind.i64.wrap (j.now + (1 : Int))) (fun u => .sint .i64 (j.inv u)) (updA (markOf j) w0 MK)) 92 none))
    (h2 : s.get 2 = some (.row false (ML (2 * n + 65) (2 * n + 65) cnt) 129 none))
    (h8 : s.get 8 = some (.row true (j.evs.set (((0 : Nat) + (j.ats t : Int).toNat) * (8 : Nat) + (2 + (1 : Nat))) (.sint .i64 (IntKind.i64.wrap (stp + (1 : Int))))) 48 (some 8)))
    (h32 : s.get (32 + t) = some (.row false [.ptr 12 0, .ptr (64 + t) 0, .int .i64 (t : Int), .int .i64 1, .sint .u64 (pk (t, c.ann t) : Nat), .sint .u64 off, .int .i64 0, .sint .u64 (j.sv t), .nils, .nils] 282 none))
    (h64 : s.get (64 + t) = some (.row true (RL ((c.ann t : Nat) : Int) ((c.app t + 1 : Nat) : Int) (.oslice sn 1 0 0 1 1) (updA (lastOf c t) w1 m1)) 188 none))
    (h80 : s.get sn = some (.row false [.sint .u64 sv'] 40 (some 1)))
    (h3 : (3 ∉ WR ∧ wordsOf n { c with mode := updA c.mode t (.act 1 (0, 0)), app := updA c.app t (c.app t + 1), log := log' } = wordsOf n c) ∨ (3 ∈ WR ∧ s.get 3 = some (.row true (wordsOf n { c with mode := updA c.mode t (.act 1 (0, 0)), app := updA c.app t (c.app t + 1), log := log' }) 40 (some 1)))) : Goes κ n many k φ j.oth { c with mode := updA c.mode t (.act 1 (0, 0)), app := updA c.app t (c.app t + 1), log := log' } (.returned (.bool false)) w' := by
  have hbusy : (c.mode t).busy = 1 := by rw [hmode]; rfl
  have hmany : many ≠ 0 := by have := hok.act t _ _ ht hmode; omega
  have hat := hj.ats t ht hbusy
  have hev0 : j.evl ≠ 0 := by omega
  have hnow := hj.now
  subst hturn
  let L : List AV := j.evs.set (((0 : Nat) + (j.ats t : Int).toNat) * (8 : Nat) + (2 + (1 : Nat))) (AV.sint .i64 (IntKind.i64.wrap (stp + (1 : Int))))
  have hflat : ∀ v ∈ L, v.flat = true := flat_set (fun v hv => (hj.evs.all v hv).1) rfl
  let c' : Cf := { c with mode := updA c.mode t (.act 1 (0, 0)), app := updA c.app t (c.app t + 1), log := log' }
  let j' : Jk := { j with turn := turn', ats := updA j.ats t (j.ats t), now := IntKind.i64.wrap (j.now + 1), cnt := cnt, evs := L.map (kept φ1), off := updA j.off t off, ans := updA j.ans t (fun i => match i with | 0 => 0 | _ => j.sv t), sv := updA j.sv t sv', marks := updA j.marks w0 b' }
  have hb' : ∀ u, (c'.mode u).busy = (c.mode u).busy := fun u => by
    show (updA c.mode t (.act 1 (0, 0)) u).busy = _
    rw [updA_eq]; split
    · rename_i e; rw [e, hbusy]; rfl
    · rfl
  have hone : ∀ u, (c'.mode u).one = (c.mode u).one := fun u => by
    show (updA c.mode t (.act 1 (0, 0)) u).one = _
    rw [updA_eq]; split
    · rename_i e; rw [e, hmode]; rfl
    · rfl
  have hann : ∀ u, c'.ann u = c.ann u := fun u => by unfold Cf.ann; rw [hone]
  have hats : j'.ats = j.ats := updA_self rfl
  have hE' : evsOf j' = .soslice 8 8 0 0 j.evl j.evl := by
    show (if j.evl = 0 then AV.nils else .soslice 8 8 0 0 j.evl j.evl) = _
    rw [if_neg hev0]
  have rlt : ∀ i, (i < 8 ∨ i = 9 ∨ i = 10 ∨ (11 < i ∧ i < 32) ∨ (64 ≤ i ∧ i < 80)) → rh t w0 8 11 (32 + t) sn x i = i := fun i h => rh_lt h (by omega) hw0
  have r32 : ∀ u, u < 16 → rh t w0 8 11 (32 + t) sn x (32 + u) = 32 + u := fun u hu => by
    by_cases e : u = t
    · rw [e, rh32]
    · exact rh_mach hu hw0 e (by omega)
  have hmkw : ∀ u, u < 16 → conc φ1 (updA (markOf j) w0 MK u) = conc (fun i => φ1 (rh t w0 8 11 (32 + t) sn x i)) (markOf j' u) := fun u hu => by
    rw [updA_eq]
    have hm' : markOf j' u = if (updA j.marks w0 b' u) = true then .oslice (48 + u) 1 0 0 1 1 else .nils := by
      unfold markOf
      show (match updA j.marks w0 b' u with | true => _ | false => _) = _
      cases updA j.marks w0 b' u <;> rfl
    rw [hm', updA_eq]
    split
    · rename_i e
      rw [e]
      exact hMK _ (by show φ1 (rh t w0 8 11 (32 + t) sn x (48 + w0)) = φ1 x; rw [rh48 (by omega) hw0])
    · rename_i e
      unfold markOf
      cases j.marks u
      · rfl
      · exact conc_os (by show φ1 (48 + u) = φ1 (rh t w0 8 11 (32 + t) sn x (48 + u)); rw [rh_mark hu (by omega) e])
  have hag : Agree n t c c' j j' := ⟨fun u hu => by show updA c.mode t _ u = c.mode u; rw [updA_eq, if_neg hu], fun _ _ => rfl, fun u hu => by show updA c.app t _ u = c.app u; rw [updA_eq, if_neg hu], hlog, fun u hu => by show updA j.off t off u = j.off u; rw [updA_eq, if_neg hu], fun u hu => by show updA j.ans t _ u = j.ans u; rw [updA_eq, if_neg hu], fun u hu => by show updA j.sv t _ u = j.sv u; rw [updA_eq, if_neg hu], rfl⟩
  have happ' : c'.app t = c.app t + 1 := by show updA c.app t _ t = _; rw [updA_eq, if_pos rfl]
  have hlast : lastOf c' t = updA (lastOf c t) w1 m1 := by
    rw [← hlast']; funext w; unfold lastOf; rw [happ']
  have this : mOf c' t = .iface 279 (.ptr (32 + t) 0) := by
    unfold mOf
    show (match updA c.mode t (.act 1 (0, 0)) t with | .none => AV.nili | .tallied _ => _ | .act _ _ => _) = _
    rw [updA_eq, if_pos rfl]
  have keep : ∀ b, b ≠ 0 → b ≠ 1 → b < 12 → b ≠ 8 → b ∉ WR → heap n many c' j' b = heap n many c j b → ∀ o', heap n many c' j' b = some o' → ∃ o, heap n many c j b = some o ∧ b ∉ WR ∧ rh t w0 8 11 (32 + t) sn x b = b ∧ Same φ1 (fun i => φ1 (rh t w0 8 11 (32 + t) sn x i)) o o' := by
    intro b b0 b1 b12 b8 hbw he o' ho'
    rw [he] at ho'
    have rb : rh t w0 8 11 (32 + t) sn x b = b := by
      by_cases e : b = 11
      · rw [e, rh11]
      · exact rlt b (by omega)
    exact ⟨o', ho', hbw, rb, same_keep hj ho' ⟨b0, b1⟩ (fun _ => rfl) (fun _ => by omega) (by omega) hw0⟩
  have nin : ∀ b, b < 96 → b ≠ 0 → b ≠ 1 → b ≠ 2 → b ≠ 3 → b ≠ 8 → b ≠ 32 + t → b ≠ 64 + t → b ∉ WR := fun b h1 h2 h3 h4 h5 h6 h7 h8 hb => by have := hWR b hb; omega
  refine ⟨fun i => φ1 (rh t w0 8 11 (32 + t) sn x i), j', false, rfl, ?_, arrive (t := t) (WR := WR) hj hag (by omega) hwr (fun b hb => by have := hWR b hb; omega) hfit (rh_ok (by omega) hw0 (by omega) (by omega) (by omega) (by omega) hx.1) (rh_inj (by omega) hw0 (by omega) (by omega) (by omega) (by omega) hx.1 (by omega)) ?_, ?_, rfl⟩
  · intro i hi
    show φ1 (rh _ _ _ _ _ _ _ i) = φ i
    rw [rlt i (by omega)]; exact hφ i (by omega)
  · intro b hb o' ho'
    rcases hb with rfl | rfl | rfl | rfl | rfl | rfl | rfl | rfl | rfl | rfl | rfl | rfl
    · refine .inl ⟨_, by rw [rlt 0 (by omega)]; exact h0, by rw [rlt 0 (by omega)]; exact hin.1, ?_⟩
      obtain rfl := Option.some.inj ((heap0 hmany hE').symm.trans ho')
      have q : ∀ i, (i < 8 ∨ i = 9 ∨ i = 10 ∨ (11 < i ∧ i < 32) ∨ (64 ≤ i ∧ i < 80)) → φ1 (rh t w0 8 11 (32 + t) sn x i) = φ1 i := fun i h => by rw [rlt i h]
      refine pl_same (q 1 (by omega)) (q 9 (by omega)) (q 7 (by omega)) (q 4 (by omega)) (fun u hu => by show updA c.mode t _ u = c.mode u; rw [updA_eq, if_neg hu]) (fun u hu _ => by show φ1 (rh t w0 8 11 (32 + t) sn x (32 + u)) = φ1 (32 + u); rw [r32 u hu]) ?_ rfl ?_ rfl (fun _ _ _ => rfl)
      · rw [this]; simp only [conc]; rw [r32 t (by omega)]
      · exact conc_sos (by show φ1 8 = φ1 (rh t w0 8 11 (32 + t) sn x 8); rw [rh8])
    · refine .inl ⟨_, by rw [rlt 1 (by omega)]; exact h1, by rw [rlt 1 (by omega)]; exact hin.2.1, ?_⟩
      obtain rfl := Option.some.inj (heap1.symm.trans ho')
      exact wl_same (by show φ1 (rh t w0 8 11 (32 + t) sn x 2) = _; rw [rlt 2 (by omega)]) (by show φ1 (rh t w0 8 11 (32 + t) sn x 10) = _; rw [rlt 10 (by omega)]) (fun _ _ => rfl) hmkw
    · refine .inl ⟨_, by rw [rlt 2 (by omega)]; exact h2, by rw [rlt 2 (by omega)]; exact hin.2.2.1, ?_⟩
      obtain rfl := Option.some.inj (heap2.symm.trans ho')
      refine ⟨?_, rfl, rfl⟩
      unfold ML
      rw [concL, concL, conc_sos (show φ1 3 = (fun i => φ1 (rh t w0 8 11 (32 + t) sn x i)) 3 by show φ1 3 = φ1 (rh t w0 8 11 (32 + t) sn x 3); rw [rlt 3 (by omega)])]
      rfl
    · rcases h3 with ⟨h3a, h3b⟩ | ⟨h3a, h3b⟩
      · exact .inr (keep 3 (by omega) (by omega) (by omega) (by omega) h3a (by rw [heap3, heap3, h3b]) o' ho')
      · refine .inl ⟨_, by rw [rlt 3 (by omega)]; exact h3b, by rw [rlt 3 (by omega)]; exact h3a, ?_⟩
        obtain rfl := Option.some.inj (heap3.symm.trans ho')
        exact ⟨ints_same _ _ _, rfl, rfl⟩
    · exact .inr (keep 4 (by omega) (by omega) (by omega) (by omega) (nin _ (by omega) (by omega) (by omega) (by omega) (by omega) (by omega) (by omega) (by omega)) (by rw [heap4, heap4]) o' ho')
    · exact .inr (keep 5 (by omega) (by omega) (by omega) (by omega) (nin _ (by omega) (by omega) (by omega) (by omega) (by omega) (by omega) (by omega) (by omega)) (by rw [heap5, heap5]) o' ho')
    · refine .inl ⟨_, by rw [rh8]; exact h8, by rw [rh8]; exact hin.2.2.2.1, ?_⟩
      obtain rfl := Option.some.inj ((heap8 (j := j') hev0).symm.trans ho')
      exact ⟨(concL_kept hflat).symm, rfl, rfl⟩
    · exact .inr (keep 10 (by omega) (by omega) (by omega) (by omega) (nin _ (by omega) (by omega) (by omega) (by omega) (by omega) (by omega) (by omega) (by omega)) (by rw [heap10, heap10]) o' ho')
    · refine .inr (keep 11 (by omega) (by omega) (by omega) (by omega) (nin _ (by omega) (by omega) (by omega) (by omega) (by omega) (by omega) (by omega) (by omega)) ?_ o' ho')
      rw [heap_fix (by omega), heap_fix (by omega)]; rfl
    · refine .inl ⟨_, by rw [rh32]; exact h32, by rw [rh32]; exact hin.2.2.2.2.1, ?_⟩
      have hm32 : machOf n c' j' t = some (.row false [.ptr 12 0, .ptr (64 + t) 0, .int .i64 t, .int .i64 (1 : Nat), .sint .u64 (pk (t, c'.ann t) : Nat), .sint .u64 (j'.off t), .sint .i64 (j'.ans t 0), .sint .u64 (j'.ans t 1), .nils, .nils] 282 none) := by
        unfold machOf
        show (match updA c.mode t (.act 1 (0, 0)) t with | .none => none | .tallied v => _ | .act pc _ => _) = _
        rw [updA_eq, if_pos rfl]
      obtain rfl := Option.some.inj (((heap32 ht hn).trans hm32).symm.trans ho')
      have ho2 : j'.off t = off := by show updA j.off t off t = off; rw [updA_eq, if_pos rfl]
      have ho3 : j'.ans t = fun i => match i with | 0 => 0 | _ => j.sv t := by show updA j.ans t _ t = _; rw [updA_eq, if_pos rfl]
      rw [hann, ho2, ho3]
      refine ⟨?_, rfl, rfl⟩
      simp only [concL, conc]
      rw [rlt 12 (by omega), rlt (64 + t) (by omega)]
      rfl
    · refine .inl ⟨_, by rw [rlt (64 + t) (by omega)]; exact h64, by rw [rlt (64 + t) (by omega)]; exact hin.2.2.2.2.2, ?_⟩
      obtain rfl := Option.some.inj ((heap64 ht hn).symm.trans ho')
      rw [hann, hlast, happ']
      refine ⟨?_, rfl, rfl⟩
      unfold RL
      rw [concL_append, concL_append, sixteen_same (fun u _ => rfl)]
      rw [concL, concL, concL, concL, concL, concL, conc_os (show φ1 sn = (fun i => φ1 (rh t w0 8 11 (32 + t) sn x i)) (80 + t) by show φ1 sn = φ1 (rh t w0 8 11 (32 + t) sn x (80 + t)); rw [rh80 (by omega)])]
      rfl
    · refine .inl ⟨_, by rw [rh80 (by omega)]; exact h80, by rw [rh80 (by omega)]; exact hsn.2.2, ?_⟩
      obtain rfl := Option.some.inj ((heap80 ht hn).symm.trans ho')
      have hs2 : j'.sv t = sv' := by show updA j.sv t sv' t = sv'; rw [updA_eq, if_pos rfl]
      rw [hs2]
      exact ⟨rfl, rfl, rfl⟩
  · have hnw : IntKind.i64.wrap (j.now + 1) = j.now + 1 := wrap64 (by omega) (by omega)
    refine ⟨?_, ?_, ?_, ?_, hj.lm, hj.lm0, hj.lmall, hj.tr0, hj.tr1, hj.was, ?_, ?_, hj.oth⟩
    · show 0 ≤ IntKind.i64.wrap (j.now + 1) ∧ IntKind.i64.wrap (j.now + 1) ≤ ((k + 1 : Nat) : Int)
      rw [hnw]; omega
    · show j.evl = _
      rw [hj.evl]
      exact sumN_congr n fun u _ => by rw [hb' u]
    · rw [hats]
      exact evs_step (c' := c') hj.evs hat (.inl rfl) hb' (by omega)
    · intro u hu hb
      rw [hats]
      exact hj.ats u hu (by rw [← hb' u]; exact hb)
    · intro u o2 hu ho2
      have ho3 : updA c.mode t (.act 1 (0, 0)) u = .act 3 o2 := ho2
      show updA j.off t off u = (pk o2 : Int)
      rw [updA_eq] at ho3 ⊢
      split
      · rename_i e; rw [if_pos e] at ho3; cases ho3
      · rename_i e; rw [if_neg e] at ho3; exact hj.off u o2 hu ho3
    · intro u v hu hv
      have hv' : updA c.mode t (.act 1 (0, 0)) u = .tallied v := hv
      rw [updA_eq] at hv'
      split at hv'
      · cases hv'
      · show updA j.marks w0 b' u = false
        rw [updA_eq]
        split
        · rename_i e; rw [e] at hv'; exact absurd hv' (hw0t v)
        · exact hj.mark u v hu hv'
end Ct
end Go.Proofs.YtpkfimijnkkbjaaGreat

namespace Go.Proofs.YtpkfimijnkkbjaaGreat
namespace Ct
open Ev
theorem way_eYf (t : Nat) (ht : t < 6) (nc : Nat) (turn : AV) (m : Nat→AV) (ats : Nat→AV) (at1 : Int) (wd : AV) (cn : Nat→AV) (idle : Int) (now : Int) (inv : Nat→AV) (marks : Nat→AV) (lw : Nat) (cnt : Nat→Int) (n : Int) (words : List AV) (evl : Nat) (evs : List AV) (left : Int) (lmap : List (Int × AV)) (lst : List AV) (lk : Nat) (ll : Nat) (lt : Nat) (call : Int) (stp : Int) (own : Nat→AV) (app : Int) (sv : Int) (word : Int) (offers : Int) (ans : Nat→AV) (y : Int) (R : List AV) :
    view [0, 1, 2, 8, (32 + t), (64 + t), 112, 113] (evFn Tryz.prog noSums 60 22 [.ptr 0 0, .int .i64 t] ⟨(mk [(0, .row false (PL nc turn (updA m t (.iface 279 (.ptr (32 + t) 0))) (updA ats t (.sint .i64 at1)) (.soslice 8 8 0 0 evl evl) wd cn idle) 83 none), (1, .row false (WL now inv (updA marks t (marks t))) 92 none), (2, .row false (ML lw lw cnt) 129 none), (3, .row true words 40 (some 1)), (4, .row false [.mapv 5, .sint .i64 left] 113 none), (5, .map true lmap), ((16 + t), .row true lst 3 (some 1)), (8, .row true evs 48 (some 8)), (12, .row false (UL n (updA own t (.ptr (64 + t) 0))) 182 none), ((80 + t), .row false [.sint .u64 sv] 40 (some 1)), (32 + t, .row false [.ptr 12 0, .ptr (64 + t) 0, .int .i64 t, .int .i64 1, .sint .u64 word, .sint .u64 offers, ans 0, ans 1, ans 2, .nils] 282 none), ((64 + t), .row true R 188 none)]), 96, 0, 0, True, [.val [AV.soslice ((16 + t) : Nat) (1 : Nat) lk (0 : Nat) ll lt], .br false, .val [AV.soslice ((16 + t) : Nat) (1 : Nat) lk (0 : Nat) ll lt], .val [AV.sint .i64 call], .val [AV.sint .i64 app], .br false, .br false, .val [AV.sint .u64 y], .val [AV.sint .u64 y], .br true, .val [AV.oslice ((80 + t) : Nat) (1 : Nat) (0 : Nat) (0 : Nat) (1 : Nat) (1 : Nat)], .br false, .br false, .br false, .val [AV.sint .i64 app], .br false, .val [AV.sint .i64 (IntKind.i64.wrap (app + (1 : Int)))], .br false, .val [AV.sint .i64 stp]]⟩) =
    some (AV.bool false, (((((((((((((((((((((((((((((((((((((((((((((True ∧ findM (↑t : Int) lmap = some (AV.soslice (16 + t) 1 lk 0 ll lt)) ∧ cmpI .eql (↑ll : Int) (0 : Int) = false) ∧ findM (↑t : Int) lmap = some (AV.soslice (16 + t) 1 lk 0 ll lt)) ∧ lk + ll ≤ lt) ∧ (0 : Int) ≤ (0 : Int) ∧ (0 : Int) < (↑ll : Int)) ∧ 1 = 1 ∧ ∀ (i : Nat), i < (1 : Nat) → lst[(lk + Int.toNat (0 : Int)) * (1 : Nat) + i]? = [AV.sint .i64 call][i]?) ∧ true = true) ∧ true = true) ∧ 1 = 1 ∧ ∀ (i : Nat), i < (1 : Nat) → R[(0 : Nat) + (0 + (1 : Nat)) + i]? = [AV.sint .i64 app][i]?) ∧ true = true) ∧ cmpI .lss (IntKind.i64.wrap (IntKind.i64.wrap (n + (1 : Int) + n) + app)) (0 : Int) = false) ∧ cmpI .geq (IntKind.i64.wrap (IntKind.i64.wrap (n + (1 : Int) + n) + app)) (↑lw : Int) = false) ∧ true = true) ∧ (0 : Nat) + lw ≤ lw) ∧ (0 : Int) ≤ IntKind.i64.wrap (IntKind.i64.wrap (n + (1 : Int) + n) + app) ∧ IntKind.i64.wrap (IntKind.i64.wrap (n + (1 : Int) + n) + app) < (↑lw : Int)) ∧ 1 = 1 ∧ ∀ (i : Nat), i < (1 : Nat) → words[((0 : Nat) + (IntKind.i64.wrap (IntKind.i64.wrap (n + (1 : Int) + n) + app)).toNat) * (1 : Nat) + i]? = [AV.sint .u64 y][i]?) ∧ (0 : Nat) + lw ≤ lw) ∧ (0 : Int) ≤ IntKind.i64.wrap (IntKind.i64.wrap (n + (1 : Int) + n) + app) ∧ IntKind.i64.wrap (IntKind.i64.wrap (n + (1 : Int) + n) + app) < (↑lw : Int)) ∧ 1 = 1 ∧ ∀ (i : Nat), i < (1 : Nat) → words[((0 : Nat) + (IntKind.i64.wrap (IntKind.i64.wrap (n + (1 : Int) + n) + app)).toNat) * (1 : Nat) + i]? = [AV.sint .u64 y][i]?) ∧ cmpI .neq y (0 : Int) = true) ∧ 1 = 1 ∧ ∀ (i : Nat), i < (1 : Nat) → R[(0 : Nat) + (1 + (1 : Nat)) + i]? = [AV.oslice ((80 + t) : Nat) (1 : Nat) (0 : Nat) (0 : Nat) (1 : Nat) (1 : Nat)][i]?) ∧ true = true) ∧ true = true) ∧ true = true) ∧ true = true) ∧ cmpI .lss (IntKind.i64.wrap (fld y 32 8)) (0 : Int) = false) ∧ cmpI .geq (IntKind.i64.wrap (fld y 32 8)) (2 : Int) = false) ∧ cmpI .eql (IntKind.i64.wrap (fld y 32 8)) (0 : Int) = false) ∧ true = true) ∧ (0 : Nat) + (1 + (1 : Nat)) < R.length) ∧ true = true) ∧ true = true) ∧ true = true) ∧ (0 : Int) ≤ IntKind.i64.wrap (fld y 40 4) ∧ IntKind.i64.wrap (fld y 40 4) < (↑(16 : Nat) : Int)) ∧ (0 : Nat) + (2 + (1 : Nat)) + (0 : Nat) + (IntKind.i64.wrap (fld y 40 4)).toNat * (0 + (1 : Nat)) < (R.set ((0 : Nat) + (1 + (1 : Nat))) (AV.oslice 113 (1) (0 : Nat) (0 : Nat) ((0 : Nat) + (0 + (1 : Nat))) ((0 : Nat) + (0 + (1 : Nat))))).length) ∧ 1 = 1 ∧ ∀ (i : Nat), i < (1 : Nat) → ((R.set ((0 : Nat) + (1 + (1 : Nat))) (AV.oslice 113 (1) (0 : Nat) (0 : Nat) ((0 : Nat) + (0 + (1 : Nat))) ((0 : Nat) + (0 + (1 : Nat))))).set ((0 : Nat) + (2 + (1 : Nat)) + (0 : Nat) + (IntKind.i64.wrap (fld y 40 4)).toNat * (0 + (1 : Nat))) (AV.sint .u64 (num y)))[(0 : Nat) + (0 + (1 : Nat)) + i]? = [AV.sint .i64 app][i]?) ∧ true = true) ∧ (0 : Nat) + (0 + (1 : Nat)) < ((R.set ((0 : Nat) + (1 + (1 : Nat))) (AV.oslice 113 (1) (0 : Nat) (0 : Nat) ((0 : Nat) + (0 + (1 : Nat))) ((0 : Nat) + (0 + (1 : Nat))))).set ((0 : Nat) + (2 + (1 : Nat)) + (0 : Nat) + (IntKind.i64.wrap (fld y 40 4)).toNat * (0 + (1 : Nat))) (AV.sint .u64 (num y))).length) ∧ cmpI .eql y word = false) ∧ 1 = 1 ∧ ∀ (i : Nat), i < (1 : Nat) → (((R.set ((0 : Nat) + (1 + (1 : Nat))) (AV.oslice 113 (1) (0 : Nat) (0 : Nat) ((0 : Nat) + (0 + (1 : Nat))) ((0 : Nat) + (0 + (1 : Nat))))).set ((0 : Nat) + (2 + (1 : Nat)) + (0 : Nat) + (IntKind.i64.wrap (fld y 40 4)).toNat * (0 + (1 : Nat))) (AV.sint .u64 (num y))).set ((0 : Nat) + (0 + (1 : Nat))) (AV.sint .i64 (IntKind.i64.wrap (app + (1 : Int)))))[(0 : Nat) + (0 + (1 : Nat)) + i]? = [AV.sint .i64 (IntKind.i64.wrap (app + (1 : Int)))][i]?) ∧ cmpI .eql (IntKind.i64.wrap (app + (1 : Int))) (64 : Int) = false) ∧ (0 : Nat) + evl ≤ evl) ∧ (0 : Int) ≤ at1 ∧ at1 < (↑evl : Int)) ∧ 1 = 1 ∧ ∀ (i : Nat), i < (1 : Nat) → evs[((0 : Nat) + at1.toNat) * (8 : Nat) + (2 + (1 : Nat)) + i]? = [AV.sint .i64 stp][i]?) ∧ true = true) ∧ ((0 : Nat) + at1.toNat) * (8 : Nat) + (2 + (1 : Nat)) < evs.length, 114, [0, 1, 2, 8, (32 + t), (64 + t), 96, 97, 98, 99, 100, 101, 102, 103, 104, 105, 106, 107, 108, 109, 110, 111, 112, 113], [some (.row false (PL nc (AV.int .i64 (Int.ofNat t)) (updA m t (AV.iface 279 (AV.ptr (32 + t) 0))) (updA ats t (AV.sint .i64 at1)) (AV.soslice 8 8 0 0 evl evl) (wd) cn idle) 83 none), some (.row false (WL (IntKind.i64.wrap (now + (1 : Int))) inv (updA marks t (updA marks (t : Nat) (marks (t : Nat)) t))) 92 none), some (.row false [AV.soslice 3 1 0 0 lw lw, AV.sint .i64 (IntKind.i64.wrap (cnt (0 : Nat) + (1 : Int))), AV.sint .i64 (cnt (1 : Nat)), AV.sint .i64 (cnt (2 : Nat)), AV.sint .i64 (cnt (3 : Nat)), AV.sint .i64 (cnt (4 : Nat)), AV.nilf] 129 none), some (.row true (evs.set (((0 : Nat) + at1.toNat) * (8 : Nat) + (2 + (1 : Nat))) (AV.sint .i64 (IntKind.i64.wrap (stp + (1 : Int))))) 48 (some 8)), some (.row false [AV.ptr 12 0, AV.ptr (64 + t) 0, AV.int .i64 (Int.ofNat t), AV.int .i64 (Int.ofNat 1), AV.sint .u64 word, AV.sint .u64 offers, AV.int .i64 (Int.ofNat 0), AV.sint .u64 sv, AV.nils, AV.nils] 282 none), some (.row true (((R.set ((0 : Nat) + (1 + (1 : Nat))) (AV.oslice 113 (1) (0 : Nat) (0 : Nat) ((0 : Nat) + (0 + (1 : Nat))) ((0 : Nat) + (0 + (1 : Nat))))).set ((0 : Nat) + (2 + (1 : Nat)) + (0 : Nat) + (IntKind.i64.wrap (fld y 40 4)).toNat * (0 + (1 : Nat))) (AV.sint .u64 (num y))).set ((0 : Nat) + (0 + (1 : Nat))) (AV.sint .i64 (IntKind.i64.wrap (app + (1 : Int))))) 188 none), some (.row false [] 40 none), some (.row false [AV.sint .u64 (IntKind.u64.wrap (sv + fld y 0 32))] 40 (some 1))]) :=
  match t, ht with
  | 0, _ => by kernel_rfl
  | 1, _ => by kernel_rfl
  | 2, _ => by kernel_rfl
  | 3, _ => by kernel_rfl
  | 4, _ => by kernel_rfl
  | 5, _ => by kernel_rfl
theorem way_eAf (t : Nat) (ht : t < 6) (nc : Nat) (turn : AV) (m : Nat→AV) (ats : Nat→AV) (at1 : Int) (wd : AV) (cn : Nat→AV) (idle : Int) (now : Int) (inv : Nat→AV) (marks : Nat→AV) (lw : Nat) (cnt : Nat→Int) (n : Int) (words : List AV) (evl : Nat) (evs : List AV) (left : Int) (lmap : List (Int × AV)) (lst : List AV) (lk : Nat) (ll : Nat) (lt : Nat) (call : Int) (stp : Int) (own : Nat→AV) (app : Int) (sv : Int) (word : Int) (offers : Int) (ans : Nat→AV) (y : Int) (R : List AV) :
    view [0, 1, 2, 8, (32 + t), (64 + t), 112, 113] (evFn Tryz.prog noSums 60 22 [.ptr 0 0, .int .i64 t] ⟨(mk [(0, .row false (PL nc turn (updA m t (.iface 279 (.ptr (32 + t) 0))) (updA ats t (.sint .i64 at1)) (.soslice 8 8 0 0 evl evl) wd cn idle) 83 none), (1, .row false (WL now inv (updA marks t (marks t))) 92 none), (2, .row false (ML lw lw cnt) 129 none), (3, .row true words 40 (some 1)), (4, .row false [.mapv 5, .sint .i64 left] 113 none), (5, .map true lmap), ((16 + t), .row true lst 3 (some 1)), (8, .row true evs 48 (some 8)), (12, .row false (UL n (updA own t (.ptr (64 + t) 0))) 182 none), ((80 + t), .row false [.sint .u64 sv] 40 (some 1)), (32 + t, .row false [.ptr 12 0, .ptr (64 + t) 0, .int .i64 t, .int .i64 4, .sint .u64 word, .sint .u64 offers, ans 0, ans 1, ans 2, .nils] 282 none), ((64 + t), .row true R 188 none)]), 96, 0, 0, True, [.val [AV.soslice ((16 + t) : Nat) (1 : Nat) lk (0 : Nat) ll lt], .br false, .val [AV.soslice ((16 + t) : Nat) (1 : Nat) lk (0 : Nat) ll lt], .val [AV.sint .i64 call], .val [AV.sint .i64 app], .br false, .br false, .val [AV.sint .u64 y], .val [AV.sint .u64 y], .br true, .val [AV.oslice ((80 + t) : Nat) (1 : Nat) (0 : Nat) (0 : Nat) (1 : Nat) (1 : Nat)], .br false, .br false, .br false, .val [AV.sint .i64 app], .br false, .val [AV.sint .i64 (IntKind.i64.wrap (app + (1 : Int)))], .br false, .val [AV.sint .i64 stp]]⟩) =
    some (AV.bool false, (((((((((((((((((((((((((((((((((((((((((((((True ∧ findM (↑t : Int) lmap = some (AV.soslice (16 + t) 1 lk 0 ll lt)) ∧ cmpI .eql (↑ll : Int) (0 : Int) = false) ∧ findM (↑t : Int) lmap = some (AV.soslice (16 + t) 1 lk 0 ll lt)) ∧ lk + ll ≤ lt) ∧ (0 : Int) ≤ (0 : Int) ∧ (0 : Int) < (↑ll : Int)) ∧ 1 = 1 ∧ ∀ (i : Nat), i < (1 : Nat) → lst[(lk + Int.toNat (0 : Int)) * (1 : Nat) + i]? = [AV.sint .i64 call][i]?) ∧ true = true) ∧ true = true) ∧ 1 = 1 ∧ ∀ (i : Nat), i < (1 : Nat) → R[(0 : Nat) + (0 + (1 : Nat)) + i]? = [AV.sint .i64 app][i]?) ∧ true = true) ∧ cmpI .lss (IntKind.i64.wrap (IntKind.i64.wrap (n + (1 : Int) + n) + app)) (0 : Int) = false) ∧ cmpI .geq (IntKind.i64.wrap (IntKind.i64.wrap (n + (1 : Int) + n) + app)) (↑lw : Int) = false) ∧ true = true) ∧ (0 : Nat) + lw ≤ lw) ∧ (0 : Int) ≤ IntKind.i64.wrap (IntKind.i64.wrap (n + (1 : Int) + n) + app) ∧ IntKind.i64.wrap (IntKind.i64.wrap (n + (1 : Int) + n) + app) < (↑lw : Int)) ∧ 1 = 1 ∧ ∀ (i : Nat), i < (1 : Nat) → words[((0 : Nat) + (IntKind.i64.wrap (IntKind.i64.wrap (n + (1 : Int) + n) + app)).toNat) * (1 : Nat) + i]? = [AV.sint .u64 y][i]?) ∧ (0 : Nat) + lw ≤ lw) ∧ (0 : Int) ≤ IntKind.i64.wrap (IntKind.i64.wrap (n + (1 : Int) + n) + app) ∧ IntKind.i64.wrap (IntKind.i64.wrap (n + (1 : Int) + n) + app) < (↑lw : Int)) ∧ 1 = 1 ∧ ∀ (i : Nat), i < (1 : Nat) → words[((0 : Nat) + (IntKind.i64.wrap (IntKind.i64.wrap (n + (1 : Int) + n) + app)).toNat) * (1 : Nat) + i]? = [AV.sint .u64 y][i]?) ∧ cmpI .neq y (0 : Int) = true) ∧ 1 = 1 ∧ ∀ (i : Nat), i < (1 : Nat) → R[(0 : Nat) + (1 + (1 : Nat)) + i]? = [AV.oslice ((80 + t) : Nat) (1 : Nat) (0 : Nat) (0 : Nat) (1 : Nat) (1 : Nat)][i]?) ∧ true = true) ∧ true = true) ∧ true = true) ∧ true = true) ∧ cmpI .lss (IntKind.i64.wrap (fld y 32 8)) (0 : Int) = false) ∧ cmpI .geq (IntKind.i64.wrap (fld y 32 8)) (2 : Int) = false) ∧ cmpI .eql (IntKind.i64.wrap (fld y 32 8)) (0 : Int) = false) ∧ true = true) ∧ (0 : Nat) + (1 + (1 : Nat)) < R.length) ∧ true = true) ∧ true = true) ∧ true = true) ∧ (0 : Int) ≤ IntKind.i64.wrap (fld y 40 4) ∧ IntKind.i64.wrap (fld y 40 4) < (↑(16 : Nat) : Int)) ∧ (0 : Nat) + (2 + (1 : Nat)) + (0 : Nat) + (IntKind.i64.wrap (fld y 40 4)).toNat * (0 + (1 : Nat)) < (R.set ((0 : Nat) + (1 + (1 : Nat))) (AV.oslice 113 (1) (0 : Nat) (0 : Nat) ((0 : Nat) + (0 + (1 : Nat))) ((0 : Nat) + (0 + (1 : Nat))))).length) ∧ 1 = 1 ∧ ∀ (i : Nat), i < (1 : Nat) → ((R.set ((0 : Nat) + (1 + (1 : Nat))) (AV.oslice 113 (1) (0 : Nat) (0 : Nat) ((0 : Nat) + (0 + (1 : Nat))) ((0 : Nat) + (0 + (1 : Nat))))).set ((0 : Nat) + (2 + (1 : Nat)) + (0 : Nat) + (IntKind.i64.wrap (fld y 40 4)).toNat * (0 + (1 : Nat))) (AV.sint .u64 (num y)))[(0 : Nat) + (0 + (1 : Nat)) + i]? = [AV.sint .i64 app][i]?) ∧ true = true) ∧ (0 : Nat) + (0 + (1 : Nat)) < ((R.set ((0 : Nat) + (1 + (1 : Nat))) (AV.oslice 113 (1) (0 : Nat) (0 : Nat) ((0 : Nat) + (0 + (1 : Nat))) ((0 : Nat) + (0 + (1 : Nat))))).set ((0 : Nat) + (2 + (1 : Nat)) + (0 : Nat) + (IntKind.i64.wrap (fld y 40 4)).toNat * (0 + (1 : Nat))) (AV.sint .u64 (num y))).length) ∧ cmpI .eql y word = false) ∧ 1 = 1 ∧ ∀ (i : Nat), i < (1 : Nat) → (((R.set ((0 : Nat) + (1 + (1 : Nat))) (AV.oslice 113 (1) (0 : Nat) (0 : Nat) ((0 : Nat) + (0 + (1 : Nat))) ((0 : Nat) + (0 + (1 : Nat))))).set ((0 : Nat) + (2 + (1 : Nat)) + (0 : Nat) + (IntKind.i64.wrap (fld y 40 4)).toNat * (0 + (1 : Nat))) (AV.sint .u64 (num y))).set ((0 : Nat) + (0 + (1 : Nat))) (AV.sint .i64 (IntKind.i64.wrap (app + (1 : Int)))))[(0 : Nat) + (0 + (1 : Nat)) + i]? = [AV.sint .i64 (IntKind.i64.wrap (app + (1 : Int)))][i]?) ∧ cmpI .eql (IntKind.i64.wrap (app + (1 : Int))) (64 : Int) = false) ∧ (0 : Nat) + evl ≤ evl) ∧ (0 : Int) ≤ at1 ∧ at1 < (↑evl : Int)) ∧ 1 = 1 ∧ ∀ (i : Nat), i < (1 : Nat) → evs[((0 : Nat) + at1.toNat) * (8 : Nat) + (2 + (1 : Nat)) + i]? = [AV.sint .i64 stp][i]?) ∧ true = true) ∧ ((0 : Nat) + at1.toNat) * (8 : Nat) + (2 + (1 : Nat)) < evs.length, 114, [0, 1, 2, 8, (32 + t), (64 + t), 96, 97, 98, 99, 100, 101, 102, 103, 104, 105, 106, 107, 108, 109, 110, 111, 112, 113], [some (.row false (PL nc (AV.int .i64 (Int.ofNat t)) (updA m t (AV.iface 279 (AV.ptr (32 + t) 0))) (updA ats t (AV.sint .i64 at1)) (AV.soslice 8 8 0 0 evl evl) (wd) cn idle) 83 none), some (.row false (WL (IntKind.i64.wrap (now + (1 : Int))) inv (updA marks t (updA marks (t : Nat) (marks (t : Nat)) t))) 92 none), some (.row false [AV.soslice 3 1 0 0 lw lw, AV.sint .i64 (IntKind.i64.wrap (cnt (0 : Nat) + (1 : Int))), AV.sint .i64 (cnt (1 : Nat)), AV.sint .i64 (cnt (2 : Nat)), AV.sint .i64 (cnt (3 : Nat)), AV.sint .i64 (cnt (4 : Nat)), AV.nilf] 129 none), some (.row true (evs.set (((0 : Nat) + at1.toNat) * (8 : Nat) + (2 + (1 : Nat))) (AV.sint .i64 (IntKind.i64.wrap (stp + (1 : Int))))) 48 (some 8)), some (.row false [AV.ptr 12 0, AV.ptr (64 + t) 0, AV.int .i64 (Int.ofNat t), AV.int .i64 (Int.ofNat 1), AV.sint .u64 word, AV.sint .u64 offers, AV.int .i64 (Int.ofNat 0), AV.sint .u64 sv, AV.nils, AV.nils] 282 none), some (.row true (((R.set ((0 : Nat) + (1 + (1 : Nat))) (AV.oslice 113 (1) (0 : Nat) (0 : Nat) ((0 : Nat) + (0 + (1 : Nat))) ((0 : Nat) + (0 + (1 : Nat))))).set ((0 : Nat) + (2 + (1 : Nat)) + (0 : Nat) + (IntKind.i64.wrap (fld y 40 4)).toNat * (0 + (1 : Nat))) (AV.sint .u64 (num y))).set ((0 : Nat) + (0 + (1 : Nat))) (AV.sint .i64 (IntKind.i64.wrap (app + (1 : Int))))) 188 none), some (.row false [] 40 none), some (.row false [AV.sint .u64 (IntKind.u64.wrap (sv + fld y 0 32))] 40 (some 1))]) :=
  match t, ht with
  | 0, _ => by kernel_rfl
  | 1, _ => by kernel_rfl
  | 2, _ => by kernel_rfl
  | 3, _ => by kernel_rfl
  | 4, _ => by kernel_rfl
  | 5, _ => by kernel_rfl
end Ct
end Go.Proofs.YtpkfimijnkkbjaaGreat
