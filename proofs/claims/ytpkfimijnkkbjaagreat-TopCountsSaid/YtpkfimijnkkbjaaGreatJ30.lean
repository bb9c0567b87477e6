/-
  Steps of the counting play in which a thread applies its own entry of the log, looking at it again (printed by gen_cts3.py).
  The step of the counting play in which a thread puts its own entry into the log (printed by gen_cts3.py).
-/
import Derived.Test.YtpkfimijnkkbjaaGreatJ28
import Derived.Test.YtpkfimijnkkbjaaGreatJ29
import Derived.Test.YtpkfimijnkkbjaaGreatJ24
set_option linter.unusedVariables false
namespace Go.Proofs.YtpkfimijnkkbjaaGreat
namespace Ct
open Ev

variable {κ : Keep}

theorem step_eAoN {n many k : Nat} {c : Cf} {j : Jk} {φ : Phi} {w : World} {t : Nat} (hn : n ≤ 6) (hm : many ≤ 5) (ht : t < n) (hok : Ok n many c) (hj : JOk n many c j k) (hk : k ≤ 1000000) (hfit : FitH κ (heap n many c j) φ w)
    {o : Nat × Nat} (hmode : c.mode t = .act 4 o) (he : c.log[c.app t]? = some (t, c.ann t)) (hmk : j.marks t = false) :
    Calls Tryz.prog 22 #[conc φ (.ptr 0 0), .int .i64 (t : Int)] w (Goes κ n many k φ j.oth { c with mode := updA c.mode t .none, app := updA c.app t (c.app t + 1), fin := updA c.fin t (c.fin t + 1) }) := by
  obtain ⟨a1, a2, a3, a4⟩ := hok.act t _ _ ht hmode
  have hbusy : (c.mode t).busy = 1 := by rw [hmode]; rfl
  have hat := hj.ats t ht hbusy
  obtain ⟨stp, hstp⟩ := hj.evs.stp _ hat
  have hlen := hj.evs.len
  have hevl := busy_le hn hm hok
  rw [← hj.evl] at hevl
  have hlog := log_le hn hm hok
  have happle := hok.app t ht
  have hmany : many ≠ 0 := by omega
  have hlm := hj.lm hmany t ht
  rw [if_neg (by omega)] at hlm
  have hnow := hj.now
  have hlst := lst_get (n := n) (many := many) (u := t) (k := c.fin t) (by omega)
  have hwl := words_len n c
  have hmo : mOf c t = .iface 279 (.ptr (32 + t) 0) := by unfold mOf; rw [hmode]
  have hev0 : j.evl ≠ 0 := by omega
  have hE : evsOf j = .soslice 8 8 0 0 j.evl j.evl := by unfold evsOf; rw [if_neg hev0]
  have hown : ownOf n t = .ptr (64 + t) 0 := by unfold ownOf; rw [if_pos ht]
  have hmach : machOf n c j t = some (.row false [.ptr 12 0, .ptr (64 + t) 0, .int .i64 t, .int .i64 (4 : Nat), .sint .u64 (pk (t, c.ann t)), .sint .u64 (j.off t), .sint .i64 (j.ans t 0), .sint .u64 (j.ans t 1), .nils, .nils] 282 none) := by unfold machOf; rw [hmode]
  have hapl : c.app t < c.log.length := (List.getElem?_eq_some_iff.1 he).1
  obtain ⟨e1, e2⟩ := hok.log _ t (c.ann t) he
  have hnx := cntw_take_next he t
  rw [if_pos rfl] at hnx
  have hle := cntw_take_le t c.log (c.app t + 1)
  have hcn := (hok.cnt t e1).1
  have hal := hok.ann_le e1
  have hfth : fld ((pk (t, c.ann t) : Nat) : Int) 40 4 = (t : Int) := fld_thread t (by omega) (c.ann t) (by omega)
  have hfk : fld ((pk (t, c.ann t) : Nat) : Int) 32 8 = 1 := fld_kind t (by omega) (c.ann t) (by omega)
  have hnum : num ((pk (t, c.ann t) : Nat) : Int) = ((c.ann t : Nat) : Int) := num_pk t (by omega) (c.ann t) (by omega)
  have hpp := pk_pos (t, c.ann t)
  have hw1 := words_get (n := n) (c := c) (i := 2 * n + 1 + c.app t) (by omega)
  have hw0 : wordAt n c (2 * n + 1 + c.app t) = pk (t, c.ann t) := by
    unfold wordAt
    rw [if_neg (by omega), if_neg (by omega), if_neg (by omega), show 2 * n + 1 + c.app t - (2 * n + 1) = c.app t by omega, he]
  rw [hw0] at hw1
  have hmk' : markOf j t = .nils := by unfold markOf; rw [hmk]
  obtain ⟨rsp, hrsp, _⟩ := hj.evs.rsp _ hat
  have hev := way_eAoN t (by omega) (nc := 3 * n * many) (turn := .sint .i64 j.turn) (m := mOf c) (ats := fun u => .sint .i64 (j.ats u : Int)) (at1 := (j.ats t : Int)) (wd := .nils) (cn := fun i => .sint .i64 (j.cn i)) (idle := j.idle) (now := j.now) (inv := fun u => .sint .i64 (j.inv u)) (marks := markOf j) (lw := 2 * n + 65) (cnt := j.cnt) (n := (n : Int)) (words := wordsOf n c) (evl := j.evl) (evs := j.evs) (left := j.left) (lmap := j.lmap) (lst := lstOf n many t) (lk := c.fin t) (ll := 3 * many - c.fin t) (lt := 3 * many) (call := ((callIx n t (c.fin t) : Nat) : Int)) (stp := stp) (own := ownOf n) (app := ((c.app t : Nat) : Int)) (sv := j.sv t) (word := ((pk (t, c.ann t) : Nat) : Int)) (offers := j.off t) (ans := fun i => match i with | 0 => .sint .i64 (j.ans t 0) | 1 => .sint .u64 (j.ans t 1) | _ => .nils) (y := ((pk (t, c.ann t) : Nat) : Int)) (R := RL (c.ann t : Nat) (c.app t : Nat) (.oslice (80 + t) 1 0 0 1 1) (lastOf c t))
  obtain ⟨s, hs, hpre, hnx', hwr, hrows⟩ := view_some hev
  have hP : s.pre := by
    rw [hpre]
    clear hev hpre hrows hs
    simp (disch := omega) only [wrap64, Nat.reduceAdd, Nat.zero_add, Nat.add_zero, Nat.mul_one, Int.toNat_natCast, rl_set2, rl_set, rl_set1, wl_set1, wl_set, rl_len, wl_len, hfth, hfk, hnum]
    repeat' apply And.intro
    all_goals first
      | exact True.intro
      | exact Eq.refl true
      | exact hlm
      | omega
      | exact load1 hlst (by omega)
      | exact load1 hw1 (by omega)
      | exact load1 hstp (by omega)
      | exact load1 rl1 (by omega)
      | exact load1 rl2 (by omega)
      | exact load0 wl0
      | exact load1 wl1 (by omega)
      | (simp only [List.length_set, List.length_append, List.length_take, List.length_drop, AV.cells, List.length_cons, List.length_nil]; omega)
      | exact load1 (get_self (by simp only [List.length_set, List.length_append, List.length_take, List.length_drop, AV.cells, List.length_cons, List.length_nil]; omega)) (by omega)
      | exact load1 (get_ne_self (by simp only [List.length_set, List.length_append, List.length_take, List.length_drop, AV.cells, List.length_cons, List.length_nil]; omega) (by omega)) (by omega)
      | exact load1 (wl_mu (by omega)) (by omega)
      | (simp only [cmpI, decide_eq_true_eq, decide_eq_false_iff_not, beq_iff_eq, beq_eq_false_iff_ne, bne_iff_ne, bne_eq_false_iff_eq] <;> omega)
  refine (fit_call named mixed noSums_ok hs hP hfit (heap_ok hj) (hs_of (heap_ok hj) ?_) (by simp [AllL, AV.All])).mono ?_
  · rw [updA_self hmo, updA_self (f := fun u => AV.sint .i64 (j.ats u : Int)) (t := t) rfl, updA_self hmk', updA_self hown]
    exact cons_all (.same (heap0 hmany hE)) <| cons_all (.same heap1) <| cons_all (.same heap2) <| cons_all (.same heap3) <| cons_all (.same heap4) <| cons_all (.same heap5) <| cons_all (.same (heap16 ht hn hmany)) <| cons_all (.same (heap8 hev0)) <| cons_all (.same heap12) <| cons_all (.same (heap80 ht hn)) <| cons_all (.same ((heap32 ht hn).trans hmach)) <| cons_all (.rows (heap64 ht hn)) <| nil_all
  · rintro e' w' ⟨φ1, rfl, hφ, hfit', _⟩
    have hnw : IntKind.i64.wrap (j.now + 1) = j.now + 1 := wrap64 (by omega) (by omega)
    have h64 := get_of_names hrows 7 rfl rfl
    simp (disch := omega) only [wrap64, Nat.reduceAdd, Nat.zero_add, Nat.add_zero, Nat.mul_one, Int.toNat_natCast, rl_set2, rl_set, rl_set1, wl_set1, wl_set, rl_len, wl_len, hfth, hfk, hnum] at h64
    have h8 := get_of_names hrows 5 rfl rfl
    rw [hnw] at h8
    refine arr_took hn hm ht hok hj hk hmode (log' := c.log) (fun _ _ _ => rfl) hφ (by intro b hb; simp only [List.mem_cons, List.not_mem_nil, or_false] at hb; omega) ⟨by simp, by simp, by simp, by simp, by simp, by simp, by simp⟩ hwr hfit' (turn' := (t : Int)) rfl (stpv := IntKind.i64.wrap (stp + 1)) (cnt := fun i => match i with | 0 => IntKind.i64.wrap (j.cnt 0 + 1) | i => j.cnt i)
      (w0 := t) (sn := 113) (x := 48 + t) (w1 := t) (m1 := c.ann t) (b' := false) (by omega) (fun v => by rw [hmode]; intro h; cases h) ⟨by omega, by omega, by simp⟩ ⟨.inl rfl, by omega⟩ (fun φ' h => rfl) ?_
      (get_of_names hrows 0 rfl rfl) (get_of_names hrows 1 rfl rfl) (get_of_names hrows 2 rfl rfl) h8 ?_ (get_of_names hrows 3 rfl rfl) (get_of_names hrows 4 rfl rfl) h64 (get_of_names hrows 9 rfl rfl) (.inl ⟨by simp; omega, ?_⟩)
    · funext u
      rw [cntw_take_next he, updA_eq]
      split
      · rename_i hu; subst hu; rw [e2]; simp
      · rename_i hu; rw [if_neg (fun h => hu h.symm)]; rfl
    · exact .key (.key (.resp (.key (.cells (.start (by omega) (fun v hv => (hj.evs.all v hv).1) (r := .sint .i64 rsp) (by rw [show ((0 : Nat) + (j.ats t : Int).toNat) * (8 : Nat) + 2 = 8 * j.ats t + 2 by omega]; exact hrsp) rfl) rfl (by simp [AV.cells, AV.flat])) rfl) rfl) (by rw [updA_eq, if_pos rfl]; rfl)) rfl
    · refine words_took ht hmode a1 rfl rfl (fun i => ?_)
      rfl

theorem step_eAoM {n many k : Nat} {c : Cf} {j : Jk} {φ : Phi} {w : World} {t : Nat} (hn : n ≤ 6) (hm : many ≤ 5) (ht : t < n) (hok : Ok n many c) (hj : JOk n many c j k) (hk : k ≤ 1000000) (hfit : FitH κ (heap n many c j) φ w)
    {o : Nat × Nat} (hmode : c.mode t = .act 4 o) (he : c.log[c.app t]? = some (t, c.ann t)) (hmk : j.marks t = true) :
    Calls Tryz.prog 22 #[conc φ (.ptr 0 0), .int .i64 (t : Int)] w (Goes κ n many k φ j.oth { c with mode := updA c.mode t .none, app := updA c.app t (c.app t + 1), fin := updA c.fin t (c.fin t + 1) }) := by
  obtain ⟨a1, a2, a3, a4⟩ := hok.act t _ _ ht hmode
  have hbusy : (c.mode t).busy = 1 := by rw [hmode]; rfl
  have hat := hj.ats t ht hbusy
  obtain ⟨stp, hstp⟩ := hj.evs.stp _ hat
  have hlen := hj.evs.len
  have hevl := busy_le hn hm hok
  rw [← hj.evl] at hevl
  have hlog := log_le hn hm hok
  have happle := hok.app t ht
  have hmany : many ≠ 0 := by omega
  have hlm := hj.lm hmany t ht
  rw [if_neg (by omega)] at hlm
  have hnow := hj.now
  have hlst := lst_get (n := n) (many := many) (u := t) (k := c.fin t) (by omega)
  have hwl := words_len n c
  have hmo : mOf c t = .iface 279 (.ptr (32 + t) 0) := by unfold mOf; rw [hmode]
  have hev0 : j.evl ≠ 0 := by omega
  have hE : evsOf j = .soslice 8 8 0 0 j.evl j.evl := by unfold evsOf; rw [if_neg hev0]
  have hown : ownOf n t = .ptr (64 + t) 0 := by unfold ownOf; rw [if_pos ht]
  have hmach : machOf n c j t = some (.row false [.ptr 12 0, .ptr (64 + t) 0, .int .i64 t, .int .i64 (4 : Nat), .sint .u64 (pk (t, c.ann t)), .sint .u64 (j.off t), .sint .i64 (j.ans t 0), .sint .u64 (j.ans t 1), .nils, .nils] 282 none) := by unfold machOf; rw [hmode]
  have hapl : c.app t < c.log.length := (List.getElem?_eq_some_iff.1 he).1
  obtain ⟨e1, e2⟩ := hok.log _ t (c.ann t) he
  have hnx := cntw_take_next he t
  rw [if_pos rfl] at hnx
  have hle := cntw_take_le t c.log (c.app t + 1)
  have hcn := (hok.cnt t e1).1
  have hal := hok.ann_le e1
  have hfth : fld ((pk (t, c.ann t) : Nat) : Int) 40 4 = (t : Int) := fld_thread t (by omega) (c.ann t) (by omega)
  have hfk : fld ((pk (t, c.ann t) : Nat) : Int) 32 8 = 1 := fld_kind t (by omega) (c.ann t) (by omega)
  have hnum : num ((pk (t, c.ann t) : Nat) : Int) = ((c.ann t : Nat) : Int) := num_pk t (by omega) (c.ann t) (by omega)
  have hpp := pk_pos (t, c.ann t)
  have hw1 := words_get (n := n) (c := c) (i := 2 * n + 1 + c.app t) (by omega)
  have hw0 : wordAt n c (2 * n + 1 + c.app t) = pk (t, c.ann t) := by
    unfold wordAt
    rw [if_neg (by omega), if_neg (by omega), if_neg (by omega), show 2 * n + 1 + c.app t - (2 * n + 1) = c.app t by omega, he]
  rw [hw0] at hw1
  have hmk' : markOf j t = .oslice (48 + t) 1 0 0 1 1 := by unfold markOf; rw [hmk]
  obtain ⟨rsp, hrsp, _⟩ := hj.evs.rsp _ hat
  have hev := way_eAoM t (by omega) (nc := 3 * n * many) (turn := .sint .i64 j.turn) (m := mOf c) (ats := fun u => .sint .i64 (j.ats u : Int)) (at1 := (j.ats t : Int)) (wd := .nils) (cn := fun i => .sint .i64 (j.cn i)) (idle := j.idle) (now := j.now) (inv := fun u => .sint .i64 (j.inv u)) (marks := markOf j) (lw := 2 * n + 65) (cnt := j.cnt) (n := (n : Int)) (words := wordsOf n c) (evl := j.evl) (evs := j.evs) (left := j.left) (lmap := j.lmap) (lst := lstOf n many t) (lk := c.fin t) (ll := 3 * many - c.fin t) (lt := 3 * many) (call := ((callIx n t (c.fin t) : Nat) : Int)) (stp := stp) (own := ownOf n) (app := ((c.app t : Nat) : Int)) (sv := j.sv t) (word := ((pk (t, c.ann t) : Nat) : Int)) (offers := j.off t) (ans := fun i => match i with | 0 => .sint .i64 (j.ans t 0) | 1 => .sint .u64 (j.ans t 1) | _ => .nils) (y := ((pk (t, c.ann t) : Nat) : Int)) (R := RL (c.ann t : Nat) (c.app t : Nat) (.oslice (80 + t) 1 0 0 1 1) (lastOf c t))
  obtain ⟨s, hs, hpre, hnx', hwr, hrows⟩ := view_some hev
  have hP : s.pre := by
    rw [hpre]
    clear hev hpre hrows hs
    simp (disch := omega) only [wrap64, Nat.reduceAdd, Nat.zero_add, Nat.add_zero, Nat.mul_one, Int.toNat_natCast, rl_set2, rl_set, rl_set1, wl_set1, wl_set, rl_len, wl_len, hfth, hfk, hnum]
    repeat' apply And.intro
    all_goals first
      | exact True.intro
      | exact Eq.refl true
      | exact hlm
      | omega
      | exact load1 hlst (by omega)
      | exact load1 hw1 (by omega)
      | exact load1 hstp (by omega)
      | exact load1 rl1 (by omega)
      | exact load1 rl2 (by omega)
      | exact load0 wl0
      | exact load1 wl1 (by omega)
      | (simp only [List.length_set, List.length_append, List.length_take, List.length_drop, AV.cells, List.length_cons, List.length_nil]; omega)
      | exact load1 (get_self (by simp only [List.length_set, List.length_append, List.length_take, List.length_drop, AV.cells, List.length_cons, List.length_nil]; omega)) (by omega)
      | exact load1 (get_ne_self (by simp only [List.length_set, List.length_append, List.length_take, List.length_drop, AV.cells, List.length_cons, List.length_nil]; omega) (by omega)) (by omega)
      | exact load1 (wl_mu (by omega)) (by omega)
      | (simp only [cmpI, decide_eq_true_eq, decide_eq_false_iff_not, beq_iff_eq, beq_eq_false_iff_ne, bne_iff_ne, bne_eq_false_iff_eq] <;> omega)
  refine (fit_call named mixed noSums_ok hs hP hfit (heap_ok hj) (hs_of (heap_ok hj) ?_) (by simp [AllL, AV.All])).mono ?_
  · rw [updA_self hmo, updA_self (f := fun u => AV.sint .i64 (j.ats u : Int)) (t := t) rfl, updA_self hmk', updA_self hown]
    exact cons_all (.same (heap0 hmany hE)) <| cons_all (.same heap1) <| cons_all (.same heap2) <| cons_all (.same heap3) <| cons_all (.same heap4) <| cons_all (.same heap5) <| cons_all (.same (heap16 ht hn hmany)) <| cons_all (.same (heap8 hev0)) <| cons_all (.same heap12) <| cons_all (.same (heap80 ht hn)) <| cons_all (.same ((heap32 ht hn).trans hmach)) <| cons_all (.rows (heap64 ht hn)) <| nil_all
  · rintro e' w' ⟨φ1, rfl, hφ, hfit', _⟩
    have hnw : IntKind.i64.wrap (j.now + 1) = j.now + 1 := wrap64 (by omega) (by omega)
    have h64 := get_of_names hrows 7 rfl rfl
    simp (disch := omega) only [wrap64, Nat.reduceAdd, Nat.zero_add, Nat.add_zero, Nat.mul_one, Int.toNat_natCast, rl_set2, rl_set, rl_set1, wl_set1, wl_set, rl_len, wl_len, hfth, hfk, hnum] at h64
    have h8 := get_of_names hrows 5 rfl rfl
    rw [hnw] at h8
    refine arr_took hn hm ht hok hj hk hmode (log' := c.log) (fun _ _ _ => rfl) hφ (by intro b hb; simp only [List.mem_cons, List.not_mem_nil, or_false] at hb; omega) ⟨by simp, by simp, by simp, by simp, by simp, by simp, by simp⟩ hwr hfit' (turn' := (t : Int)) rfl (stpv := IntKind.i64.wrap (stp + 1)) (cnt := fun i => match i with | 0 => IntKind.i64.wrap (j.cnt 0 + 1) | i => j.cnt i)
      (w0 := t) (sn := 113) (x := 48 + t) (w1 := t) (m1 := c.ann t) (b' := true) (by omega) (fun v => by rw [hmode]; intro h; cases h) ⟨by omega, by omega, by simp⟩ ⟨.inl rfl, by omega⟩ (fun φ' h => conc_os h.symm) ?_
      (get_of_names hrows 0 rfl rfl) (get_of_names hrows 1 rfl rfl) (get_of_names hrows 2 rfl rfl) h8 ?_ (get_of_names hrows 3 rfl rfl) (get_of_names hrows 4 rfl rfl) h64 (get_of_names hrows 9 rfl rfl) (.inl ⟨by simp; omega, ?_⟩)
    · funext u
      rw [cntw_take_next he, updA_eq]
      split
      · rename_i hu; subst hu; rw [e2]; simp
      · rename_i hu; rw [if_neg (fun h => hu h.symm)]; rfl
    · exact .key (.resp (.key (.cells (.start (by omega) (fun v hv => (hj.evs.all v hv).1) (r := .sint .i64 rsp) (by rw [show ((0 : Nat) + (j.ats t : Int).toNat) * (8 : Nat) + 2 = 8 * j.ats t + 2 by omega]; exact hrsp) rfl) rfl (by simp [AV.cells, AV.flat])) rfl) rfl) (by rw [updA_eq, if_pos rfl]; rfl)
    · refine words_took ht hmode a1 rfl rfl (fun i => ?_)
      rfl
end Ct
end Go.Proofs.YtpkfimijnkkbjaaGreat

namespace Go.Proofs.YtpkfimijnkkbjaaGreat
namespace Ct
open Ev

variable {κ : Keep}

set_option maxHeartbeats 1600000 in
theorem step_sTo {n many k : Nat} {c : Cf} {j : Jk} {φ : Phi} {w : World} {t : Nat} (hn : n ≤ 6) (hm : many ≤ 5) (ht : t < n) (hok : Ok n many c) (hj : JOk n many c j k) (hk : k ≤ 1000000) (hfit : FitH κ (heap n many c j) φ w)
    (hmode : c.mode t = .act 3 (t, c.ann t)) (happ : c.app t = c.log.length) :
    Calls Tryz.prog 22 #[conc φ (.ptr 0 0), .int .i64 (t : Int)] w (Goes κ n many k φ j.oth { c with mode := updA c.mode t .none, app := updA c.app t (c.app t + 1), fin := updA c.fin t (c.fin t + 1), log := c.log ++ [(t, c.ann t)] }) := by
  obtain ⟨a1, a2, a3, a4⟩ := hok.act t _ _ ht hmode
  have hbusy : (c.mode t).busy = 1 := by rw [hmode]; rfl
  have hat := hj.ats t ht hbusy
  obtain ⟨stp, hstp⟩ := hj.evs.stp _ hat
  have hlen := hj.evs.len
  have hevl := busy_le hn hm hok
  rw [← hj.evl] at hevl
  have hlog := log_le hn hm hok
  have happle := hok.app t ht
  have hmany : many ≠ 0 := by omega
  have hlm := hj.lm hmany t ht
  rw [if_neg (by omega)] at hlm
  have hnow := hj.now
  have hlst := lst_get (n := n) (many := many) (u := t) (k := c.fin t) (by omega)
  have hwl := words_len n c
  have hmo : mOf c t = .iface 279 (.ptr (32 + t) 0) := by unfold mOf; rw [hmode]
  have hev0 : j.evl ≠ 0 := by omega
  have hE : evsOf j = .soslice 8 8 0 0 j.evl j.evl := by unfold evsOf; rw [if_neg hev0]
  have hown : ownOf n t = .ptr (64 + t) 0 := by unfold ownOf; rw [if_pos ht]
  have hmach : machOf n c j t = some (.row false [.ptr 12 0, .ptr (64 + t) 0, .int .i64 t, .int .i64 (3 : Nat), .sint .u64 (pk (t, c.ann t)), .sint .u64 (j.off t), .sint .i64 (j.ans t 0), .sint .u64 (j.ans t 1), .nils, .nils] 282 none) := by unfold machOf; rw [hmode]
  obtain ⟨e1, e2, e3⟩ : t < n ∧ c.ann t = cntw t c.log + 1 ∧ c.ann t ≤ c.ann t := hok.offered ht hmode happ
  have hal := hok.ann_le e1
  have hfth : fld ((pk (t, c.ann t) : Nat) : Int) 40 4 = (t : Int) := fld_thread t (by omega) (c.ann t) (by omega)
  have hfk : fld ((pk (t, c.ann t) : Nat) : Int) 32 8 = 1 := fld_kind t (by omega) (c.ann t) (by omega)
  have hnum : num ((pk (t, c.ann t) : Nat) : Int) = ((c.ann t : Nat) : Int) := num_pk t (by omega) (c.ann t) (by omega)
  have hoff := hj.off t (t, c.ann t) ht hmode
  have hw1 := words_get (n := n) (c := c) (i := 2 * n + 1 + c.app t) (by omega)
  have hw0 : wordAt n c (2 * n + 1 + c.app t) = 0 := by
    unfold wordAt
    rw [if_neg (by omega), if_neg (by omega), if_neg (by omega), show 2 * n + 1 + c.app t - (2 * n + 1) = c.app t by omega, List.getElem?_eq_none (by omega)]
  rw [hw0] at hw1
  have hct := hok.cnt t e1
  have hw0t : ∀ v, c.mode t ≠ .tallied v := fun v hv => by rw [hv] at hct; simp only [Mode.one] at hct; omega
  obtain ⟨rsp, hrsp, _⟩ := hj.evs.rsp _ hat
  have hev := way_sTo t (by omega) (nc := 3 * n * many) (turn := .sint .i64 j.turn) (m := mOf c) (ats := fun u => .sint .i64 (j.ats u : Int)) (at1 := (j.ats t : Int)) (wd := .nils) (cn := fun i => .sint .i64 (j.cn i)) (idle := j.idle) (now := j.now) (lw := 2 * n + 65) (cnt := j.cnt) (n := (n : Int)) (words := wordsOf n c) (evl := j.evl) (evs := j.evs) (left := j.left) (lmap := j.lmap) (lst := lstOf n many t) (lk := c.fin t) (ll := 3 * many - c.fin t) (lt := 3 * many) (call := ((callIx n t (c.fin t) : Nat) : Int)) (stp := stp) (own := ownOf n) (app := ((c.app t : Nat) : Int)) (sv := j.sv t) (word := ((pk (t, c.ann t) : Nat) : Int)) (offers := ((pk (t, c.ann t) : Nat) : Int)) (ans := fun i => match i with | 0 => .sint .i64 (j.ans t 0) | 1 => .sint .u64 (j.ans t 1) | _ => .nils) (y := ((0 : Nat) : Int)) (R := RL (c.ann t : Nat) (c.app t : Nat) (.oslice (80 + t) 1 0 0 1 1) (lastOf c t)) (W := WL j.now (fun u => .sint .i64 (j.inv u)) (markOf j))
  obtain ⟨s, hs, hpre, hnx', hwr, hrows⟩ := view_some hev
  have hP : s.pre := by
    rw [hpre]
    clear hev hpre hrows hs
    simp (disch := omega) only [wrap64, Nat.reduceAdd, Nat.zero_add, Nat.add_zero, Nat.mul_one, Int.toNat_natCast, rl_set2, rl_set, rl_set1, wl_set1, wl_set, rl_len, wl_len, hfth, hfk, hnum]
    repeat' apply And.intro
    all_goals first
      | exact True.intro
      | exact Eq.refl true
      | exact hlm
      | omega
      | exact load1 hlst (by omega)
      | exact load1 hw1 (by omega)
      | exact load1 hstp (by omega)
      | exact load1 rl1 (by omega)
      | exact load1 rl2 (by omega)
      | exact load0 wl0
      | exact load1 wl1 (by omega)
      | (simp only [List.length_set, List.length_append, List.length_take, List.length_drop, AV.cells, List.length_cons, List.length_nil]; omega)
      | exact load1 (get_self (by simp only [List.length_set, List.length_append, List.length_take, List.length_drop, AV.cells, List.length_cons, List.length_nil]; omega)) (by omega)
      | exact load1 (get_ne_self (by simp only [List.length_set, List.length_append, List.length_take, List.length_drop, AV.cells, List.length_cons, List.length_nil]; omega) (by omega)) (by omega)
      | exact load1 (wl_mu (by omega)) (by omega)
      | (simp only [cmpI, decide_eq_true_eq, decide_eq_false_iff_not, beq_iff_eq, beq_eq_false_iff_ne, bne_iff_ne, bne_eq_false_iff_eq] <;> omega)
  refine (fit_call named mixed noSums_ok hs hP hfit (heap_ok hj) (hs_of (heap_ok hj) ?_) (by simp [AllL, AV.All])).mono ?_
  · rw [updA_self hmo, updA_self (f := fun u => AV.sint .i64 (j.ats u : Int)) (t := t) rfl, updA_self hown]
    rw [hoff] at hmach
    exact cons_all (.same (heap0 hmany hE)) <| cons_all (.rows heap1) <| cons_all (.same heap2) <| cons_all (.same heap3) <| cons_all (.same heap4) <| cons_all (.same heap5) <| cons_all (.same (heap16 ht hn hmany)) <| cons_all (.same (heap8 hev0)) <| cons_all (.same heap12) <| cons_all (.same (heap80 ht hn)) <| cons_all (.same ((heap32 ht hn).trans hmach)) <| cons_all (.rows (heap64 ht hn)) <| nil_all
  · rintro e' w' ⟨φ1, rfl, hφ, hfit', _⟩
    have hnw : IntKind.i64.wrap (j.now + 1) = j.now + 1 := wrap64 (by omega) (by omega)
    have h64 := get_of_names hrows 8 rfl rfl
    simp (disch := omega) only [wrap64, Nat.reduceAdd, Nat.zero_add, Nat.add_zero, Nat.mul_one, Int.toNat_natCast, rl_set2, rl_set, rl_set1, wl_set1, wl_set, rl_len, wl_len, hfth, hfk, hnum] at h64
    have h1 := get_of_names hrows 1 rfl rfl
    simp (disch := omega) only [Nat.reduceAdd, Nat.zero_add, Nat.add_zero, Nat.mul_one, Int.toNat_natCast, wl_set1, wl_set, hfth, wrap64 (x := (t : Int))] at h1
    have h8 := get_of_names hrows 6 rfl rfl
    rw [hnw] at h8
    have h3 := get_of_names hrows 3 rfl rfl
    rw [show ((0 : Nat) + (IntKind.i64.wrap (IntKind.i64.wrap ((n : Int) + (1 : Int) + n) + ((c.app t : Nat) : Int))).toNat) * (1 : Nat) = 2 * n + 1 + c.app t by simp (disch := omega) only [wrap64]; omega] at h3
    have hlen' : (c.log ++ [(t, c.ann t)])[c.app t]? = some (t, c.ann t) := by rw [happ]; simp
    have htk : (c.log ++ [(t, c.ann t)]).take (c.app t) = c.log.take (c.app t) := List.take_append_of_le_length (by omega)
    refine arr_took hn hm ht hok hj hk hmode (log' := c.log ++ [(t, c.ann t)]) (fun u hu _ => List.take_append_of_le_length (hok.app u hu)) hφ (by intro b hb; simp only [List.mem_cons, List.not_mem_nil, or_false] at hb; omega) ⟨by simp, by simp, by simp, by simp, by simp, by simp, by simp⟩ hwr hfit' (turn' := (t : Int)) rfl (stpv := IntKind.i64.wrap (stp + 1)) (cnt := fun i => match i with | 2 => IntKind.i64.wrap (j.cnt 2 + 1) | i => j.cnt i)
      (w0 := t) (sn := 118) (x := 101) (w1 := t) (m1 := c.ann t) (b' := true) (by omega) hw0t ⟨by omega, by omega, by simp⟩ ⟨.inr ⟨by omega, by omega⟩, by omega⟩ (fun φ' h => conc_os h.symm) ?_
      (get_of_names hrows 0 rfl rfl) h1 (get_of_names hrows 2 rfl rfl) h8 ?_ (get_of_names hrows 4 rfl rfl) (get_of_names hrows 5 rfl rfl) h64 (get_of_names hrows 13 rfl rfl) (.inr ⟨by simp, h3.trans ?_⟩)
    · funext u
      rw [cntw_take_next hlen', htk, updA_eq]
      split
      · rename_i hu; subst hu; rw [happ, List.take_length, e2]; simp
      · rename_i hu; rw [if_neg (fun h => hu h.symm)]; rfl
    · exact .key (.resp (.key (.cells (.start (by omega) (fun v hv => (hj.evs.all v hv).1) (r := .sint .i64 rsp) (by rw [show ((0 : Nat) + (j.ats t : Int).toNat) * (8 : Nat) + 2 = 8 * j.ats t + 2 by omega]; exact hrsp) rfl) rfl (by simp [AV.cells, AV.flat])) rfl) rfl) rfl
    · rw [words_set (c' := { c with mode := updA c.mode t .none, app := updA c.app t (c.app t + 1), fin := updA c.fin t (c.fin t + 1), log := c.log ++ [(t, c.ann t)] }) (by omega) ?_ ?_]
      · show ((pk (t, c.ann t) : Nat) : Int) = _
        unfold wordAt
        rw [if_neg (by omega), if_neg (by omega), if_neg (by omega), show 2 * n + 1 + c.app t - (2 * n + 1) = c.app t by omega]
        show _ = (((match (c.log ++ [(t, c.ann t)])[c.app t]? with | some o => pk o | none => 0) : Nat) : Int)
        rw [hlen']
      · intro i hi hne'
        refine word_took ht hmode a1 rfl rfl i (fun h3 => ?_)
        show (match (c.log ++ [(t, c.ann t)])[i - (2 * n + 1)]? with | some o => pk o | none => 0) = _
        by_cases hl : i - (2 * n + 1) < c.log.length
        · rw [List.getElem?_append_left hl]; rfl
        · rw [List.getElem?_eq_none (l := c.log) (by omega), List.getElem?_eq_none (by simp; omega)]
end Ct
end Go.Proofs.YtpkfimijnkkbjaaGreat
