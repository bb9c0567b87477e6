/-
  Steps of the counting play within an operation on the log that leave the log as it is (printed by gen_cts1.py).
-/
import Derived.Test.YtpkfimijnkkbjaaGreatJ18
import Derived.Test.YtpkfimijnkkbjaaGreatJ21
set_option linter.unusedVariables false
namespace Go.Proofs.YtpkfimijnkkbjaaGreat
namespace Ct
open Ev

variable {κ : Keep}

theorem step_eN {n many k : Nat} {c : Cf} {j : Jk} {φ : Phi} {w : World} {t : Nat} (hn : n ≤ 6) (hm : many ≤ 5) (ht : t < n) (hok : Ok n many c) (hj : JOk n many c j k) (hk : k ≤ 1000000) (hfit : FitH κ (heap n many c j) φ w)
    {o : Nat × Nat} (hmode : c.mode t = .act 1 o) (happ : c.app t = c.log.length) :
    Calls Tryz.prog 22 #[conc φ (.ptr 0 0), .int .i64 (t : Int)] w (Goes κ n many k φ j.oth { c with mode := updA c.mode t (.act 2 (0, 0)) }) := by
  obtain ⟨a1, a2, a3, a4⟩ := hok.act t _ _ ht hmode
  have hbusy : (c.mode t).busy = 1 := by rw [hmode]; rfl
  have hat := hj.ats t ht hbusy
  obtain ⟨stp, hstp⟩ := hj.evs.stp _ hat
  have hlen := hj.evs.len
  have hevl := busy_le hn hm hok
  rw [← hj.evl] at hevl
  have hlog := log_le hn hm hok
  have happle := hok.app t ht
  have hmany : many ≠ 0 := by omega
  have hlm := hj.lm hmany t ht
  rw [if_neg (by omega)] at hlm
  have hnow := hj.now
  have hlst := lst_get (n := n) (many := many) (u := t) (k := c.fin t) (by omega)
  have hwl := words_len n c
  have hmo : mOf c t = .iface 279 (.ptr (32 + t) 0) := by unfold mOf; rw [hmode]
  have hev0 : j.evl ≠ 0 := by omega
  have hE : evsOf j = .soslice 8 8 0 0 j.evl j.evl := by unfold evsOf; rw [if_neg hev0]
  have hown : ownOf n t = .ptr (64 + t) 0 := by unfold ownOf; rw [if_pos ht]
  have hmach : machOf n c j t = some (.row false [.ptr 12 0, .ptr (64 + t) 0, .int .i64 t, .int .i64 (1 : Nat), .sint .u64 (pk (t, c.ann t)), .sint .u64 (j.off t), .sint .i64 (j.ans t 0), .sint .u64 (j.ans t 1), .nils, .nils] 282 none) := by unfold machOf; rw [hmode]
  have hw1 := words_get (n := n) (c := c) (i := 2 * n + 1 + c.app t) (by omega)
  have hw0 : wordAt n c (2 * n + 1 + c.app t) = 0 := by
    unfold wordAt
    rw [if_neg (by omega), if_neg (by omega), if_neg (by omega), show 2 * n + 1 + c.app t - (2 * n + 1) = c.app t by omega, List.getElem?_eq_none (by omega)]
  have hr3 := hstp
  have hev := way_eN t (by omega) (nc := 3 * n * many) (turn := .sint .i64 j.turn) (m := mOf c) (ats := fun u => .sint .i64 (j.ats u : Int)) (at1 := (j.ats t : Int)) (wd := .nils) (cn := fun i => .sint .i64 (j.cn i)) (idle := j.idle) (now := j.now) (inv := fun u => .sint .i64 (j.inv u)) (marks := markOf j) (lw := 2 * n + 65) (cnt := j.cnt) (n := (n : Int)) (words := wordsOf n c) (evl := j.evl) (evs := j.evs) (left := j.left) (lmap := j.lmap) (lst := lstOf n many t) (lk := c.fin t) (ll := 3 * many - c.fin t) (lt := 3 * many) (call := ((callIx n t (c.fin t) : Nat) : Int)) (stp := stp) (own := ownOf n) (ann := ((c.ann t : Nat) : Int)) (app := ((c.app t : Nat) : Int)) (last := lastOf c t) (sv := j.sv t) (word := ((pk (t, c.ann t) : Nat) : Int)) (offers := j.off t) (ans := fun i => match i with | 0 => .sint .i64 (j.ans t 0) | 1 => .sint .u64 (j.ans t 1) | _ => .nils) (y := ((wordAt n c (2 * n + 1 + c.app t) : Nat) : Int))
  obtain ⟨s, hs, hpre, hnx, hwr, hrows⟩ := view_some hev
  have hP : s.pre := by
    rw [hpre]
    clear hev hpre hrows hs
    simp (disch := omega) only [wrap64]
    repeat' apply And.intro
    all_goals first
      | exact True.intro
      | exact Eq.refl true
      | exact hlm
      | omega
      | exact load1 hlst (by omega)
      | exact load1 hw1 (by omega)
      | exact load1 hstp (by omega)
      | exact load1 rl1 (by omega)
      | exact load1 hr3 (by omega)
      | (simp only [cmpI, decide_eq_true_eq, decide_eq_false_iff_not, beq_iff_eq, beq_eq_false_iff_ne, bne_iff_ne, bne_eq_false_iff_eq]; omega)
  refine (fit_call named mixed noSums_ok hs hP hfit (heap_ok hj) (hs_of (heap_ok hj) ?_) (by simp [AllL, AV.All])).mono ?_
  · rw [updA_self hmo, updA_self (f := fun u => AV.sint .i64 (j.ats u : Int)) (t := t) rfl, updA_self (f := markOf j) (t := t) rfl, updA_self hown]
    exact cons_all (.same (heap0 hmany hE)) <| cons_all (.same heap1) <| cons_all (.same heap2) <| cons_all (.same heap3) <| cons_all (.same heap4) <| cons_all (.same heap5) <| cons_all (.same (heap16 ht hn hmany)) <| cons_all (.same (heap8 hev0)) <| cons_all (.same heap12) <| cons_all (.same (heap64 ht hn)) <| cons_all (.same (heap80 ht hn)) <| cons_all (.same ((heap32 ht hn).trans hmach)) <| nil_all
  · rintro e w' ⟨φ1, rfl, hφ, hfit', _⟩
    exact arr_act hn hm ht hok hj hk hmode hφ (by intro b hb; simp only [List.mem_cons, List.not_mem_nil, or_false] at hb; omega) ⟨by simp, by simp, by simp, by simp, by simp⟩ hwr hfit' (turn' := (t : Int)) rfl (stp := stp) (cnt := fun i => match i with | 0 => IntKind.i64.wrap (j.cnt 0 + 1) | i => j.cnt i) (pc := 2) rfl
      (get_of_names hrows 0 rfl rfl) ((get_of_names hrows 1 rfl rfl).trans (by rw [updA_eq (markOf j) t (markOf j t) t, if_pos rfl])) (get_of_names hrows 2 rfl rfl) (get_of_names hrows 3 rfl rfl) (get_of_names hrows 4 rfl rfl) (fun h => by cases h)

theorem step_sF {n many k : Nat} {c : Cf} {j : Jk} {φ : Phi} {w : World} {t : Nat} (hn : n ≤ 6) (hm : many ≤ 5) (ht : t < n) (hok : Ok n many c) (hj : JOk n many c j k) (hk : k ≤ 1000000) (hfit : FitH κ (heap n many c j) φ w)
    {o : Nat × Nat} (hmode : c.mode t = .act 3 o) (happ : c.app t < c.log.length) :
    Calls Tryz.prog 22 #[conc φ (.ptr 0 0), .int .i64 (t : Int)] w (Goes κ n many k φ j.oth { c with mode := updA c.mode t (.act 4 (0, 0)) }) := by
  obtain ⟨a1, a2, a3, a4⟩ := hok.act t _ _ ht hmode
  have hbusy : (c.mode t).busy = 1 := by rw [hmode]; rfl
  have hat := hj.ats t ht hbusy
  obtain ⟨stp, hstp⟩ := hj.evs.stp _ hat
  have hlen := hj.evs.len
  have hevl := busy_le hn hm hok
  rw [← hj.evl] at hevl
  have hlog := log_le hn hm hok
  have happle := hok.app t ht
  have hmany : many ≠ 0 := by omega
  have hlm := hj.lm hmany t ht
  rw [if_neg (by omega)] at hlm
  have hnow := hj.now
  have hlst := lst_get (n := n) (many := many) (u := t) (k := c.fin t) (by omega)
  have hwl := words_len n c
  have hmo : mOf c t = .iface 279 (.ptr (32 + t) 0) := by unfold mOf; rw [hmode]
  have hev0 : j.evl ≠ 0 := by omega
  have hE : evsOf j = .soslice 8 8 0 0 j.evl j.evl := by unfold evsOf; rw [if_neg hev0]
  have hown : ownOf n t = .ptr (64 + t) 0 := by unfold ownOf; rw [if_pos ht]
  have hmach : machOf n c j t = some (.row false [.ptr 12 0, .ptr (64 + t) 0, .int .i64 t, .int .i64 (3 : Nat), .sint .u64 (pk (t, c.ann t)), .sint .u64 (j.off t), .sint .i64 (j.ans t 0), .sint .u64 (j.ans t 1), .nils, .nils] 282 none) := by unfold machOf; rw [hmode]
  have hw1 := words_get (n := n) (c := c) (i := 2 * n + 1 + c.app t) (by omega)
  have hw0 : 0 < wordAt n c (2 * n + 1 + c.app t) := by
    unfold wordAt
    rw [if_neg (by omega), if_neg (by omega), if_neg (by omega), show 2 * n + 1 + c.app t - (2 * n + 1) = c.app t by omega, List.getElem?_eq_getElem happ]
    exact pk_pos _
  have hr3 := hstp
  have hev := way_sF t (by omega) (nc := 3 * n * many) (turn := .sint .i64 j.turn) (m := mOf c) (ats := fun u => .sint .i64 (j.ats u : Int)) (at1 := (j.ats t : Int)) (wd := .nils) (cn := fun i => .sint .i64 (j.cn i)) (idle := j.idle) (now := j.now) (inv := fun u => .sint .i64 (j.inv u)) (marks := markOf j) (lw := 2 * n + 65) (cnt := j.cnt) (n := (n : Int)) (words := wordsOf n c) (evl := j.evl) (evs := j.evs) (left := j.left) (lmap := j.lmap) (lst := lstOf n many t) (lk := c.fin t) (ll := 3 * many - c.fin t) (lt := 3 * many) (call := ((callIx n t (c.fin t) : Nat) : Int)) (stp := stp) (own := ownOf n) (ann := ((c.ann t : Nat) : Int)) (app := ((c.app t : Nat) : Int)) (last := lastOf c t) (sv := j.sv t) (word := ((pk (t, c.ann t) : Nat) : Int)) (offers := j.off t) (ans := fun i => match i with | 0 => .sint .i64 (j.ans t 0) | 1 => .sint .u64 (j.ans t 1) | _ => .nils) (y := ((wordAt n c (2 * n + 1 + c.app t) : Nat) : Int))
  obtain ⟨s, hs, hpre, hnx, hwr, hrows⟩ := view_some hev
  have hP : s.pre := by
    rw [hpre]
    clear hev hpre hrows hs
    simp (disch := omega) only [wrap64]
    repeat' apply And.intro
    all_goals first
      | exact True.intro
      | exact Eq.refl true
      | exact hlm
      | omega
      | exact load1 hlst (by omega)
      | exact load1 hw1 (by omega)
      | exact load1 hstp (by omega)
      | exact load1 rl1 (by omega)
      | exact load1 hr3 (by omega)
      | (simp only [cmpI, decide_eq_true_eq, decide_eq_false_iff_not, beq_iff_eq, beq_eq_false_iff_ne, bne_iff_ne, bne_eq_false_iff_eq]; omega)
  refine (fit_call named mixed noSums_ok hs hP hfit (heap_ok hj) (hs_of (heap_ok hj) ?_) (by simp [AllL, AV.All])).mono ?_
  · rw [updA_self hmo, updA_self (f := fun u => AV.sint .i64 (j.ats u : Int)) (t := t) rfl, updA_self (f := markOf j) (t := t) rfl, updA_self hown]
    exact cons_all (.same (heap0 hmany hE)) <| cons_all (.same heap1) <| cons_all (.same heap2) <| cons_all (.same heap3) <| cons_all (.same heap4) <| cons_all (.same heap5) <| cons_all (.same (heap16 ht hn hmany)) <| cons_all (.same (heap8 hev0)) <| cons_all (.same heap12) <| cons_all (.same (heap64 ht hn)) <| cons_all (.same (heap80 ht hn)) <| cons_all (.same ((heap32 ht hn).trans hmach)) <| nil_all
  · rintro e w' ⟨φ1, rfl, hφ, hfit', _⟩
    exact arr_act hn hm ht hok hj hk hmode hφ (by intro b hb; simp only [List.mem_cons, List.not_mem_nil, or_false] at hb; omega) ⟨by simp, by simp, by simp, by simp, by simp⟩ hwr hfit' (turn' := (t : Int)) rfl (stp := stp) (cnt := fun i => match i with | 2 => IntKind.i64.wrap (j.cnt 2 + 1) | i => j.cnt i) (pc := 4) rfl
      (get_of_names hrows 0 rfl rfl) ((get_of_names hrows 1 rfl rfl).trans (by rw [updA_eq (markOf j) t (markOf j t) t, if_pos rfl])) (get_of_names hrows 2 rfl rfl) (get_of_names hrows 3 rfl rfl) (get_of_names hrows 4 rfl rfl) (fun h => by cases h)

theorem step_hN {n many k : Nat} {c : Cf} {j : Jk} {φ : Phi} {w : World} {t : Nat} (hn : n ≤ 6) (hm : many ≤ 5) (ht : t < n) (hok : Ok n many c) (hj : JOk n many c j k) (hk : k ≤ 1000000) (hfit : FitH κ (heap n many c j) φ w)
    {o : Nat × Nat} (hmode : c.mode t = .act 2 o) (hz : c.ann (c.app t % n) = 0) :
    Calls Tryz.prog 22 #[conc φ (.ptr 0 0), .int .i64 (t : Int)] w (Goes κ n many k φ j.oth { c with mode := updA c.mode t (.act 3 (t, c.ann t)) }) := by
  obtain ⟨a1, a2, a3, a4⟩ := hok.act t _ _ ht hmode
  have hbusy : (c.mode t).busy = 1 := by rw [hmode]; rfl
  have hat := hj.ats t ht hbusy
  obtain ⟨stp, hstp⟩ := hj.evs.stp _ hat
  have hlen := hj.evs.len
  have hevl := busy_le hn hm hok
  rw [← hj.evl] at hevl
  have hlog := log_le hn hm hok
  have happle := hok.app t ht
  have hmany : many ≠ 0 := by omega
  have hlm := hj.lm hmany t ht
  rw [if_neg (by omega)] at hlm
  have hnow := hj.now
  have hlst := lst_get (n := n) (many := many) (u := t) (k := c.fin t) (by omega)
  have hwl := words_len n c
  have hmo : mOf c t = .iface 279 (.ptr (32 + t) 0) := by unfold mOf; rw [hmode]
  have hev0 : j.evl ≠ 0 := by omega
  have hE : evsOf j = .soslice 8 8 0 0 j.evl j.evl := by unfold evsOf; rw [if_neg hev0]
  have hown : ownOf n t = .ptr (64 + t) 0 := by unfold ownOf; rw [if_pos ht]
  have hmach : machOf n c j t = some (.row false [.ptr 12 0, .ptr (64 + t) 0, .int .i64 t, .int .i64 (2 : Nat), .sint .u64 (pk (t, c.ann t)), .sint .u64 (j.off t), .sint .i64 (j.ans t 0), .sint .u64 (j.ans t 1), .nils, .nils] 282 none) := by unfold machOf; rw [hmode]
  have hmod : c.app t % n < n := Nat.mod_lt _ (by omega)
  have htm : ((c.app t : Nat) : Int).tmod (n : Int) = ((c.app t % n : Nat) : Int) := (Int.ofNat_tmod _ _).symm
  have hw1 := words_get (n := n) (c := c) (i := n + 1 + c.app t % n) (by omega)
  have hw0 : wordAt n c (n + 1 + c.app t % n) = 0 := by
    unfold wordAt
    rw [if_neg (by omega), if_neg (by omega), if_pos (by omega), show n + 1 + c.app t % n - n - 1 = c.app t % n by omega, if_pos hz]
  have hr3 : (RL ((c.ann t : Nat) : Int) ((c.app t : Nat) : Int) (.oslice (80 + t) 1 0 0 1 1) (lastOf c t))[3 + c.app t % n]? = _ := rl3 (by omega)
  have hev := way_hN t (by omega) (nc := 3 * n * many) (turn := .sint .i64 j.turn) (m := mOf c) (ats := fun u => .sint .i64 (j.ats u : Int)) (at1 := (j.ats t : Int)) (wd := .nils) (cn := fun i => .sint .i64 (j.cn i)) (idle := j.idle) (now := j.now) (inv := fun u => .sint .i64 (j.inv u)) (marks := markOf j) (lw := 2 * n + 65) (cnt := j.cnt) (n := (n : Int)) (words := wordsOf n c) (evl := j.evl) (evs := j.evs) (left := j.left) (lmap := j.lmap) (lst := lstOf n many t) (lk := c.fin t) (ll := 3 * many - c.fin t) (lt := 3 * many) (call := ((callIx n t (c.fin t) : Nat) : Int)) (stp := stp) (own := ownOf n) (ann := ((c.ann t : Nat) : Int)) (app := ((c.app t : Nat) : Int)) (last := lastOf c t) (sv := j.sv t) (word := ((pk (t, c.ann t) : Nat) : Int)) (offers := j.off t) (ans := fun i => match i with | 0 => .sint .i64 (j.ans t 0) | 1 => .sint .u64 (j.ans t 1) | _ => .nils) (y := ((wordAt n c (n + 1 + c.app t % n) : Nat) : Int))
  obtain ⟨s, hs, hpre, hnx, hwr, hrows⟩ := view_some hev
  have hP : s.pre := by
    rw [hpre]
    clear hev hpre hrows hs
    rw [htm]; simp (disch := omega) only [wrap64]
    repeat' apply And.intro
    all_goals first
      | exact True.intro
      | exact Eq.refl true
      | exact hlm
      | omega
      | exact load1 hlst (by omega)
      | exact load1 hw1 (by omega)
      | exact load1 hstp (by omega)
      | exact load1 rl1 (by omega)
      | exact load1 hr3 (by omega)
      | (simp only [cmpI, decide_eq_true_eq, decide_eq_false_iff_not, beq_iff_eq, beq_eq_false_iff_ne, bne_iff_ne, bne_eq_false_iff_eq]; omega)
  refine (fit_call named mixed noSums_ok hs hP hfit (heap_ok hj) (hs_of (heap_ok hj) ?_) (by simp [AllL, AV.All])).mono ?_
  · rw [updA_self hmo, updA_self (f := fun u => AV.sint .i64 (j.ats u : Int)) (t := t) rfl, updA_self (f := markOf j) (t := t) rfl, updA_self hown]
    exact cons_all (.same (heap0 hmany hE)) <| cons_all (.same heap1) <| cons_all (.same heap2) <| cons_all (.same heap3) <| cons_all (.same heap4) <| cons_all (.same heap5) <| cons_all (.same (heap16 ht hn hmany)) <| cons_all (.same (heap8 hev0)) <| cons_all (.same heap12) <| cons_all (.same (heap64 ht hn)) <| cons_all (.same (heap80 ht hn)) <| cons_all (.same ((heap32 ht hn).trans hmach)) <| nil_all
  · rintro e w' ⟨φ1, rfl, hφ, hfit', _⟩
    exact arr_act hn hm ht hok hj hk hmode hφ (by intro b hb; simp only [List.mem_cons, List.not_mem_nil, or_false] at hb; omega) ⟨by simp, by simp, by simp, by simp, by simp⟩ hwr hfit' (turn' := (t : Int)) rfl (stp := stp) (cnt := fun i => match i with | 0 => IntKind.i64.wrap (j.cnt 0 + 1) | i => j.cnt i) (pc := 3) rfl
      (get_of_names hrows 0 rfl rfl) ((get_of_names hrows 1 rfl rfl).trans (by rw [updA_eq (markOf j) t (markOf j t) t, if_pos rfl])) (get_of_names hrows 2 rfl rfl) (get_of_names hrows 3 rfl rfl) (get_of_names hrows 4 rfl rfl) (fun _ => rfl)

theorem step_hL {n many k : Nat} {c : Cf} {j : Jk} {φ : Phi} {w : World} {t : Nat} (hn : n ≤ 6) (hm : many ≤ 5) (ht : t < n) (hok : Ok n many c) (hj : JOk n many c j k) (hk : k ≤ 1000000) (hfit : FitH κ (heap n many c j) φ w)
    {o : Nat × Nat} (hmode : c.mode t = .act 2 o) (hz : c.ann (c.app t % n) ≠ 0) (hold : c.ann (c.app t % n) ≤ cntw (c.app t % n) (c.log.take (c.app t))) :
    Calls Tryz.prog 22 #[conc φ (.ptr 0 0), .int .i64 (t : Int)] w (Goes κ n many k φ j.oth { c with mode := updA c.mode t (.act 3 (t, c.ann t)) }) := by
  obtain ⟨a1, a2, a3, a4⟩ := hok.act t _ _ ht hmode
  have hbusy : (c.mode t).busy = 1 := by rw [hmode]; rfl
  have hat := hj.ats t ht hbusy
  obtain ⟨stp, hstp⟩ := hj.evs.stp _ hat
  have hlen := hj.evs.len
  have hevl := busy_le hn hm hok
  rw [← hj.evl] at hevl
  have hlog := log_le hn hm hok
  have happle := hok.app t ht
  have hmany : many ≠ 0 := by omega
  have hlm := hj.lm hmany t ht
  rw [if_neg (by omega)] at hlm
  have hnow := hj.now
  have hlst := lst_get (n := n) (many := many) (u := t) (k := c.fin t) (by omega)
  have hwl := words_len n c
  have hmo : mOf c t = .iface 279 (.ptr (32 + t) 0) := by unfold mOf; rw [hmode]
  have hev0 : j.evl ≠ 0 := by omega
  have hE : evsOf j = .soslice 8 8 0 0 j.evl j.evl := by unfold evsOf; rw [if_neg hev0]
  have hown : ownOf n t = .ptr (64 + t) 0 := by unfold ownOf; rw [if_pos ht]
  have hmach : machOf n c j t = some (.row false [.ptr 12 0, .ptr (64 + t) 0, .int .i64 t, .int .i64 (2 : Nat), .sint .u64 (pk (t, c.ann t)), .sint .u64 (j.off t), .sint .i64 (j.ans t 0), .sint .u64 (j.ans t 1), .nils, .nils] 282 none) := by unfold machOf; rw [hmode]
  have hmod : c.app t % n < n := Nat.mod_lt _ (by omega)
  have htm : ((c.app t : Nat) : Int).tmod (n : Int) = ((c.app t % n : Nat) : Int) := (Int.ofNat_tmod _ _).symm
  have hw1 := words_get (n := n) (c := c) (i := n + 1 + c.app t % n) (by omega)
  have hw0 : wordAt n c (n + 1 + c.app t % n) = pk (c.app t % n, c.ann (c.app t % n)) := by
    unfold wordAt
    rw [if_neg (by omega), if_neg (by omega), if_pos (by omega), show n + 1 + c.app t % n - n - 1 = c.app t % n by omega, if_neg hz]
  have hal := hok.ann_le hmod
  have hnum := num_pk _ (show c.app t % n < 6 by omega) (c.ann (c.app t % n)) (by omega)
  have hpp := pk_pos (c.app t % n, c.ann (c.app t % n))
  have hlast : lastOf c t (c.app t % n) = ((cntw (c.app t % n) (c.log.take (c.app t)) : Nat) : Int) := rfl
  have hr3 : (RL ((c.ann t : Nat) : Int) ((c.app t : Nat) : Int) (.oslice (80 + t) 1 0 0 1 1) (lastOf c t))[3 + c.app t % n]? = _ := rl3 (by omega)
  have hev := way_hL t (by omega) (nc := 3 * n * many) (turn := .sint .i64 j.turn) (m := mOf c) (ats := fun u => .sint .i64 (j.ats u : Int)) (at1 := (j.ats t : Int)) (wd := .nils) (cn := fun i => .sint .i64 (j.cn i)) (idle := j.idle) (now := j.now) (inv := fun u => .sint .i64 (j.inv u)) (marks := markOf j) (lw := 2 * n + 65) (cnt := j.cnt) (n := (n : Int)) (words := wordsOf n c) (evl := j.evl) (evs := j.evs) (left := j.left) (lmap := j.lmap) (lst := lstOf n many t) (lk := c.fin t) (ll := 3 * many - c.fin t) (lt := 3 * many) (call := ((callIx n t (c.fin t) : Nat) : Int)) (old := lastOf c t (c.app t % n)) (stp := stp) (own := ownOf n) (app := ((c.app t : Nat) : Int)) (sv := j.sv t) (word := ((pk (t, c.ann t) : Nat) : Int)) (offers := j.off t) (ans := fun i => match i with | 0 => .sint .i64 (j.ans t 0) | 1 => .sint .u64 (j.ans t 1) | _ => .nils) (y := ((wordAt n c (n + 1 + c.app t % n) : Nat) : Int)) (R := RL (c.ann t : Nat) (c.app t : Nat) (.oslice (80 + t) 1 0 0 1 1) (lastOf c t))
  obtain ⟨s, hs, hpre, hnx, hwr, hrows⟩ := view_some hev
  have hP : s.pre := by
    rw [hpre]
    clear hev hpre hrows hs
    rw [htm]; simp only [hw0, hnum, hlast]; rw [hw0] at hw1; rw [hlast] at hr3; simp (disch := omega) only [wrap64]
    repeat' apply And.intro
    all_goals first
      | exact True.intro
      | exact Eq.refl true
      | exact hlm
      | omega
      | exact load1 hlst (by omega)
      | exact load1 hw1 (by omega)
      | exact load1 hstp (by omega)
      | exact load1 rl1 (by omega)
      | exact load1 hr3 (by omega)
      | (simp only [cmpI, decide_eq_true_eq, decide_eq_false_iff_not, beq_iff_eq, beq_eq_false_iff_ne, bne_iff_ne, bne_eq_false_iff_eq]; omega)
  refine (fit_call named mixed noSums_ok hs hP hfit (heap_ok hj) (hs_of (heap_ok hj) ?_) (by simp [AllL, AV.All])).mono ?_
  · rw [updA_self hmo, updA_self (f := fun u => AV.sint .i64 (j.ats u : Int)) (t := t) rfl, updA_self (f := markOf j) (t := t) rfl, updA_self hown]
    exact cons_all (.same (heap0 hmany hE)) <| cons_all (.same heap1) <| cons_all (.same heap2) <| cons_all (.same heap3) <| cons_all (.same heap4) <| cons_all (.same heap5) <| cons_all (.same (heap16 ht hn hmany)) <| cons_all (.same (heap8 hev0)) <| cons_all (.same heap12) <| cons_all (.same (heap80 ht hn)) <| cons_all (.same ((heap32 ht hn).trans hmach)) <| cons_all (.rows (heap64 ht hn)) <| nil_all
  · rintro e w' ⟨φ1, rfl, hφ, hfit', _⟩
    exact arr_act hn hm ht hok hj hk hmode hφ (by intro b hb; simp only [List.mem_cons, List.not_mem_nil, or_false] at hb; omega) ⟨by simp, by simp, by simp, by simp, by simp⟩ hwr hfit' (turn' := (t : Int)) rfl (stp := stp) (cnt := fun i => match i with | 0 => IntKind.i64.wrap (j.cnt 0 + 1) | i => j.cnt i) (pc := 3) rfl
      (get_of_names hrows 0 rfl rfl) ((get_of_names hrows 1 rfl rfl).trans (by rw [updA_eq (markOf j) t (markOf j t) t, if_pos rfl])) (get_of_names hrows 2 rfl rfl) (get_of_names hrows 3 rfl rfl) (get_of_names hrows 4 rfl rfl) (fun _ => rfl)

theorem step_hG {n many k : Nat} {c : Cf} {j : Jk} {φ : Phi} {w : World} {t : Nat} (hn : n ≤ 6) (hm : many ≤ 5) (ht : t < n) (hok : Ok n many c) (hj : JOk n many c j k) (hk : k ≤ 1000000) (hfit : FitH κ (heap n many c j) φ w)
    {o : Nat × Nat} (hmode : c.mode t = .act 2 o) (hz : c.ann (c.app t % n) ≠ 0) (hold : cntw (c.app t % n) (c.log.take (c.app t)) < c.ann (c.app t % n)) :
    Calls Tryz.prog 22 #[conc φ (.ptr 0 0), .int .i64 (t : Int)] w (Goes κ n many k φ j.oth { c with mode := updA c.mode t (.act 3 (c.app t % n, c.ann (c.app t % n))) }) := by
  obtain ⟨a1, a2, a3, a4⟩ := hok.act t _ _ ht hmode
  have hbusy : (c.mode t).busy = 1 := by rw [hmode]; rfl
  have hat := hj.ats t ht hbusy
  obtain ⟨stp, hstp⟩ := hj.evs.stp _ hat
  have hlen := hj.evs.len
  have hevl := busy_le hn hm hok
  rw [← hj.evl] at hevl
  have hlog := log_le hn hm hok
  have happle := hok.app t ht
  have hmany : many ≠ 0 := by omega
  have hlm := hj.lm hmany t ht
  rw [if_neg (by omega)] at hlm
  have hnow := hj.now
  have hlst := lst_get (n := n) (many := many) (u := t) (k := c.fin t) (by omega)
  have hwl := words_len n c
  have hmo : mOf c t = .iface 279 (.ptr (32 + t) 0) := by unfold mOf; rw [hmode]
  have hev0 : j.evl ≠ 0 := by omega
  have hE : evsOf j = .soslice 8 8 0 0 j.evl j.evl := by unfold evsOf; rw [if_neg hev0]
  have hown : ownOf n t = .ptr (64 + t) 0 := by unfold ownOf; rw [if_pos ht]
  have hmach : machOf n c j t = some (.row false [.ptr 12 0, .ptr (64 + t) 0, .int .i64 t, .int .i64 (2 : Nat), .sint .u64 (pk (t, c.ann t)), .sint .u64 (j.off t), .sint .i64 (j.ans t 0), .sint .u64 (j.ans t 1), .nils, .nils] 282 none) := by unfold machOf; rw [hmode]
  have hmod : c.app t % n < n := Nat.mod_lt _ (by omega)
  have htm : ((c.app t : Nat) : Int).tmod (n : Int) = ((c.app t % n : Nat) : Int) := (Int.ofNat_tmod _ _).symm
  have hw1 := words_get (n := n) (c := c) (i := n + 1 + c.app t % n) (by omega)
  have hw0 : wordAt n c (n + 1 + c.app t % n) = pk (c.app t % n, c.ann (c.app t % n)) := by
    unfold wordAt
    rw [if_neg (by omega), if_neg (by omega), if_pos (by omega), show n + 1 + c.app t % n - n - 1 = c.app t % n by omega, if_neg hz]
  have hal := hok.ann_le hmod
  have hnum := num_pk _ (show c.app t % n < 6 by omega) (c.ann (c.app t % n)) (by omega)
  have hpp := pk_pos (c.app t % n, c.ann (c.app t % n))
  have hlast : lastOf c t (c.app t % n) = ((cntw (c.app t % n) (c.log.take (c.app t)) : Nat) : Int) := rfl
  have hr3 : (RL ((c.ann t : Nat) : Int) ((c.app t : Nat) : Int) (.oslice (80 + t) 1 0 0 1 1) (lastOf c t))[3 + c.app t % n]? = _ := rl3 (by omega)
  have hev := way_hG t (by omega) (nc := 3 * n * many) (turn := .sint .i64 j.turn) (m := mOf c) (ats := fun u => .sint .i64 (j.ats u : Int)) (at1 := (j.ats t : Int)) (wd := .nils) (cn := fun i => .sint .i64 (j.cn i)) (idle := j.idle) (now := j.now) (inv := fun u => .sint .i64 (j.inv u)) (marks := markOf j) (lw := 2 * n + 65) (cnt := j.cnt) (n := (n : Int)) (words := wordsOf n c) (evl := j.evl) (evs := j.evs) (left := j.left) (lmap := j.lmap) (lst := lstOf n many t) (lk := c.fin t) (ll := 3 * many - c.fin t) (lt := 3 * many) (call := ((callIx n t (c.fin t) : Nat) : Int)) (old := lastOf c t (c.app t % n)) (stp := stp) (own := ownOf n) (app := ((c.app t : Nat) : Int)) (sv := j.sv t) (word := ((pk (t, c.ann t) : Nat) : Int)) (offers := j.off t) (ans := fun i => match i with | 0 => .sint .i64 (j.ans t 0) | 1 => .sint .u64 (j.ans t 1) | _ => .nils) (y := ((wordAt n c (n + 1 + c.app t % n) : Nat) : Int)) (R := RL (c.ann t : Nat) (c.app t : Nat) (.oslice (80 + t) 1 0 0 1 1) (lastOf c t))
  obtain ⟨s, hs, hpre, hnx, hwr, hrows⟩ := view_some hev
  have hP : s.pre := by
    rw [hpre]
    clear hev hpre hrows hs
    rw [htm]; simp only [hw0, hnum, hlast]; rw [hw0] at hw1; rw [hlast] at hr3; simp (disch := omega) only [wrap64]
    repeat' apply And.intro
    all_goals first
      | exact True.intro
      | exact Eq.refl true
      | exact hlm
      | omega
      | exact load1 hlst (by omega)
      | exact load1 hw1 (by omega)
      | exact load1 hstp (by omega)
      | exact load1 rl1 (by omega)
      | exact load1 hr3 (by omega)
      | (simp only [cmpI, decide_eq_true_eq, decide_eq_false_iff_not, beq_iff_eq, beq_eq_false_iff_ne, bne_iff_ne, bne_eq_false_iff_eq]; omega)
  refine (fit_call named mixed noSums_ok hs hP hfit (heap_ok hj) (hs_of (heap_ok hj) ?_) (by simp [AllL, AV.All])).mono ?_
  · rw [updA_self hmo, updA_self (f := fun u => AV.sint .i64 (j.ats u : Int)) (t := t) rfl, updA_self (f := markOf j) (t := t) rfl, updA_self hown]
    exact cons_all (.same (heap0 hmany hE)) <| cons_all (.same heap1) <| cons_all (.same heap2) <| cons_all (.same heap3) <| cons_all (.same heap4) <| cons_all (.same heap5) <| cons_all (.same (heap16 ht hn hmany)) <| cons_all (.same (heap8 hev0)) <| cons_all (.same heap12) <| cons_all (.same (heap80 ht hn)) <| cons_all (.same ((heap32 ht hn).trans hmach)) <| cons_all (.rows (heap64 ht hn)) <| nil_all
  · rintro e w' ⟨φ1, rfl, hφ, hfit', _⟩
    exact arr_act hn hm ht hok hj hk hmode hφ (by intro b hb; simp only [List.mem_cons, List.not_mem_nil, or_false] at hb; omega) ⟨by simp, by simp, by simp, by simp, by simp⟩ hwr hfit' (turn' := (t : Int)) rfl (stp := stp) (cnt := fun i => match i with | 0 => IntKind.i64.wrap (j.cnt 0 + 1) | i => j.cnt i) (pc := 3) rfl
      (get_of_names hrows 0 rfl rfl) ((get_of_names hrows 1 rfl rfl).trans (by rw [updA_eq (markOf j) t (markOf j t) t, if_pos rfl])) (get_of_names hrows 2 rfl rfl) (get_of_names hrows 3 rfl rfl) (get_of_names hrows 4 rfl rfl) (fun _ => by rw [hw0])

end Ct
end Go.Proofs.YtpkfimijnkkbjaaGreat
