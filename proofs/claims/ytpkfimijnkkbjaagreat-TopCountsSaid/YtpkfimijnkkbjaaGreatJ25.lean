/-
  Steps of the counting play in which another one's entry of the log is applied (printed by gen_cts2.py).
  What becomes of the events and of a thread's calls where an operation of the counting play responds.
-/
import Derived.Test.YtpkfimijnkkbjaaGreatJ23
import Derived.Test.YtpkfimijnkkbjaaGreatJ24
set_option linter.unusedVariables false
namespace Go.Proofs.YtpkfimijnkkbjaaGreat
namespace Ct
open Ev

variable {κ : Keep}

theorem step_eYf {n many k : Nat} {c : Cf} {j : Jk} {φ : Phi} {w : World} {t : Nat} (hn : n ≤ 6) (hm : many ≤ 5) (ht : t < n) (hok : Ok n many c) (hj : JOk n many c j k) (hk : k ≤ 1000000) (hfit : FitH κ (heap n many c j) φ w)
    {o e : Nat × Nat} (hmode : c.mode t = .act 1 o) (he : c.log[c.app t]? = some e) (hne : e ≠ (t, c.ann t)) :
    Calls Tryz.prog 22 #[conc φ (.ptr 0 0), .int .i64 (t : Int)] w (Goes κ n many k φ j.oth { c with mode := updA c.mode t (.act 1 (0, 0)), app := updA c.app t (c.app t + 1) }) := by
  obtain ⟨a1, a2, a3, a4⟩ := hok.act t _ _ ht hmode
  have hbusy : (c.mode t).busy = 1 := by rw [hmode]; rfl
  have hat := hj.ats t ht hbusy
  obtain ⟨stp, hstp⟩ := hj.evs.stp _ hat
  have hlen := hj.evs.len
  have hevl := busy_le hn hm hok
  rw [← hj.evl] at hevl
  have hlog := log_le hn hm hok
  have happle := hok.app t ht
  have hmany : many ≠ 0 := by omega
  have hlm := hj.lm hmany t ht
  rw [if_neg (by omega)] at hlm
  have hnow := hj.now
  have hlst := lst_get (n := n) (many := many) (u := t) (k := c.fin t) (by omega)
  have hwl := words_len n c
  have hmo : mOf c t = .iface 279 (.ptr (32 + t) 0) := by unfold mOf; rw [hmode]
  have hev0 : j.evl ≠ 0 := by omega
  have hE : evsOf j = .soslice 8 8 0 0 j.evl j.evl := by unfold evsOf; rw [if_neg hev0]
  have hown : ownOf n t = .ptr (64 + t) 0 := by unfold ownOf; rw [if_pos ht]
  have hmach : machOf n c j t = some (.row false [.ptr 12 0, .ptr (64 + t) 0, .int .i64 t, .int .i64 (1 : Nat), .sint .u64 (pk (t, c.ann t)), .sint .u64 (j.off t), .sint .i64 (j.ans t 0), .sint .u64 (j.ans t 1), .nils, .nils] 282 none) := by unfold machOf; rw [hmode]
  have hapl : c.app t < c.log.length := (List.getElem?_eq_some_iff.1 he).1
  obtain ⟨e1, e2⟩ := hok.log _ e.1 e.2 he
  have hnx := cntw_take_next he e.1
  rw [if_pos rfl] at hnx
  have hle := cntw_take_le e.1 c.log (c.app t + 1)
  have hcn := (hok.cnt e.1 e1).1
  have hal := hok.ann_le e1
  have hfth : fld ((pk e : Nat) : Int) 40 4 = ((e.1 : Nat) : Int) := fld_thread e.1 (by omega) e.2 (by omega)
  have hfk : fld ((pk e : Nat) : Int) 32 8 = 1 := fld_kind e.1 (by omega) e.2 (by omega)
  have hnum : num ((pk e : Nat) : Int) = ((e.2 : Nat) : Int) := num_pk e.1 (by omega) e.2 (by omega)
  have hpp := pk_pos e
  have hpne : pk e ≠ pk (t, c.ann t) := fun h => hne (pk_inj (by omega) (by show t < 6; omega) h)
  have hw1 := words_get (n := n) (c := c) (i := 2 * n + 1 + c.app t) (by omega)
  have hw0 : wordAt n c (2 * n + 1 + c.app t) = pk e := by
    unfold wordAt
    rw [if_neg (by omega), if_neg (by omega), if_neg (by omega), show 2 * n + 1 + c.app t - (2 * n + 1) = c.app t by omega, he]
  rw [hw0] at hw1
  have hev := way_eYf t (by omega) (nc := 3 * n * many) (turn := .sint .i64 j.turn) (m := mOf c) (ats := fun u => .sint .i64 (j.ats u : Int)) (at1 := (j.ats t : Int)) (wd := .nils) (cn := fun i => .sint .i64 (j.cn i)) (idle := j.idle) (now := j.now) (inv := fun u => .sint .i64 (j.inv u)) (marks := markOf j) (lw := 2 * n + 65) (cnt := j.cnt) (n := (n : Int)) (words := wordsOf n c) (evl := j.evl) (evs := j.evs) (left := j.left) (lmap := j.lmap) (lst := lstOf n many t) (lk := c.fin t) (ll := 3 * many - c.fin t) (lt := 3 * many) (call := ((callIx n t (c.fin t) : Nat) : Int)) (stp := stp) (own := ownOf n) (app := ((c.app t : Nat) : Int)) (sv := j.sv t) (word := ((pk (t, c.ann t) : Nat) : Int)) (offers := j.off t) (ans := fun i => match i with | 0 => .sint .i64 (j.ans t 0) | 1 => .sint .u64 (j.ans t 1) | _ => .nils) (y := ((pk e : Nat) : Int)) (R := RL (c.ann t : Nat) (c.app t : Nat) (.oslice (80 + t) 1 0 0 1 1) (lastOf c t))
  obtain ⟨s, hs, hpre, hnx', hwr, hrows⟩ := view_some hev
  have hP : s.pre := by
    rw [hpre]
    clear hev hpre hrows hs
    simp (disch := omega) only [wrap64, Nat.reduceAdd, Nat.zero_add, Nat.add_zero, Nat.mul_one, Int.toNat_natCast, rl_set2, rl_set, rl_set1, wl_set1, wl_set, rl_len, wl_len, hfth, hfk, hnum]
    repeat' apply And.intro
    all_goals first
      | exact True.intro
      | exact Eq.refl true
      | exact hlm
      | omega
      | exact load1 hlst (by omega)
      | exact load1 hw1 (by omega)
      | exact load1 hstp (by omega)
      | exact load1 rl1 (by omega)
      | exact load1 rl2 (by omega)
      | exact load0 wl0
      | exact load1 wl1 (by omega)
      | (simp only [cmpI, decide_eq_true_eq, decide_eq_false_iff_not, beq_iff_eq, beq_eq_false_iff_ne, bne_iff_ne, bne_eq_false_iff_eq]; omega)
  refine (fit_call named mixed noSums_ok hs hP hfit (heap_ok hj) (hs_of (heap_ok hj) ?_) (by simp [AllL, AV.All])).mono ?_
  · rw [updA_self hmo, updA_self (f := fun u => AV.sint .i64 (j.ats u : Int)) (t := t) rfl, updA_self (f := markOf j) (t := t) rfl, updA_self hown]
    exact cons_all (.same (heap0 hmany hE)) <| cons_all (.same heap1) <| cons_all (.same heap2) <| cons_all (.same heap3) <| cons_all (.same heap4) <| cons_all (.same heap5) <| cons_all (.same (heap16 ht hn hmany)) <| cons_all (.same (heap8 hev0)) <| cons_all (.same heap12) <| cons_all (.same (heap80 ht hn)) <| cons_all (.same ((heap32 ht hn).trans hmach)) <| cons_all (.rows (heap64 ht hn)) <| nil_all
  · rintro e' w' ⟨φ1, rfl, hφ, hfit', _⟩
    have h64 := get_of_names hrows 5 rfl rfl
    simp (disch := omega) only [wrap64, Nat.reduceAdd, Nat.zero_add, Nat.add_zero, Nat.mul_one, Int.toNat_natCast, rl_set2, rl_set, rl_set1, wl_set1, wl_set, rl_len, wl_len, hfth, hfk, hnum] at h64
    refine arr_take hn hm ht hok hj hk hmode (log' := c.log) (fun _ _ _ => rfl) hφ (by intro b hb; simp only [List.mem_cons, List.not_mem_nil, or_false] at hb; omega) ⟨by simp, by simp, by simp, by simp, by simp, by simp⟩ hwr hfit' (turn' := (t : Int)) rfl (stp := stp) (cnt := fun i => match i with | 0 => IntKind.i64.wrap (j.cnt 0 + 1) | i => j.cnt i)
      (w0 := t) (sn := 113) (x := 48 + t) (w1 := e.1) (m1 := e.2) (b' := j.marks t) (by omega) (fun v => by rw [hmode]; intro h; cases h) ⟨by omega, by omega, by simp⟩ ⟨.inl rfl, by omega⟩ ?_ ?_
      (get_of_names hrows 0 rfl rfl) ((get_of_names hrows 1 rfl rfl).trans (by rw [updA_eq (markOf j) t (markOf j t) t, if_pos rfl])) (get_of_names hrows 2 rfl rfl) (get_of_names hrows 3 rfl rfl) (get_of_names hrows 4 rfl rfl) h64 (get_of_names hrows 7 rfl rfl) (.inl ⟨by simp; omega, ?_⟩)
    · intro φ' h
      unfold markOf
      cases j.marks t
      · rfl
      · exact conc_os h.symm
    · funext u
      rw [cntw_take_next he, updA_eq]
      split
      · rename_i hu; subst hu; rw [e2]; simp
      · rename_i hu; rw [if_neg (fun h => hu h.symm)]; rfl
    · refine words_congr (fun _ => rfl) (fun u => ?_) rfl
      show c.fin u / 3 + (updA c.mode t (.act 1 (0, 0)) u).one = c.fin u / 3 + (c.mode u).one
      rw [updA_eq]
      split
      · rename_i hu; rw [hu, hmode]; rfl
      · rfl

theorem step_eAf {n many k : Nat} {c : Cf} {j : Jk} {φ : Phi} {w : World} {t : Nat} (hn : n ≤ 6) (hm : many ≤ 5) (ht : t < n) (hok : Ok n many c) (hj : JOk n many c j k) (hk : k ≤ 1000000) (hfit : FitH κ (heap n many c j) φ w)
    {o e : Nat × Nat} (hmode : c.mode t = .act 4 o) (he : c.log[c.app t]? = some e) (hne : e ≠ (t, c.ann t)) :
    Calls Tryz.prog 22 #[conc φ (.ptr 0 0), .int .i64 (t : Int)] w (Goes κ n many k φ j.oth { c with mode := updA c.mode t (.act 1 (0, 0)), app := updA c.app t (c.app t + 1) }) := by
  obtain ⟨a1, a2, a3, a4⟩ := hok.act t _ _ ht hmode
  have hbusy : (c.mode t).busy = 1 := by rw [hmode]; rfl
  have hat := hj.ats t ht hbusy
  obtain ⟨stp, hstp⟩ := hj.evs.stp _ hat
  have hlen := hj.evs.len
  have hevl := busy_le hn hm hok
  rw [← hj.evl] at hevl
  have hlog := log_le hn hm hok
  have happle := hok.app t ht
  have hmany : many ≠ 0 := by omega
  have hlm := hj.lm hmany t ht
  rw [if_neg (by omega)] at hlm
  have hnow := hj.now
  have hlst := lst_get (n := n) (many := many) (u := t) (k := c.fin t) (by omega)
  have hwl := words_len n c
  have hmo : mOf c t = .iface 279 (.ptr (32 + t) 0) := by unfold mOf; rw [hmode]
  have hev0 : j.evl ≠ 0 := by omega
  have hE : evsOf j = .soslice 8 8 0 0 j.evl j.evl := by unfold evsOf; rw [if_neg hev0]
  have hown : ownOf n t = .ptr (64 + t) 0 := by unfold ownOf; rw [if_pos ht]
  have hmach : machOf n c j t = some (.row false [.ptr 12 0, .ptr (64 + t) 0, .int .i64 t, .int .i64 (4 : Nat), .sint .u64 (pk (t, c.ann t)), .sint .u64 (j.off t), .sint .i64 (j.ans t 0), .sint .u64 (j.ans t 1), .nils, .nils] 282 none) := by unfold machOf; rw [hmode]
  have hapl : c.app t < c.log.length := (List.getElem?_eq_some_iff.1 he).1
  obtain ⟨e1, e2⟩ := hok.log _ e.1 e.2 he
  have hnx := cntw_take_next he e.1
  rw [if_pos rfl] at hnx
  have hle := cntw_take_le e.1 c.log (c.app t + 1)
  have hcn := (hok.cnt e.1 e1).1
  have hal := hok.ann_le e1
  have hfth : fld ((pk e : Nat) : Int) 40 4 = ((e.1 : Nat) : Int) := fld_thread e.1 (by omega) e.2 (by omega)
  have hfk : fld ((pk e : Nat) : Int) 32 8 = 1 := fld_kind e.1 (by omega) e.2 (by omega)
  have hnum : num ((pk e : Nat) : Int) = ((e.2 : Nat) : Int) := num_pk e.1 (by omega) e.2 (by omega)
  have hpp := pk_pos e
  have hpne : pk e ≠ pk (t, c.ann t) := fun h => hne (pk_inj (by omega) (by show t < 6; omega) h)
  have hw1 := words_get (n := n) (c := c) (i := 2 * n + 1 + c.app t) (by omega)
  have hw0 : wordAt n c (2 * n + 1 + c.app t) = pk e := by
    unfold wordAt
    rw [if_neg (by omega), if_neg (by omega), if_neg (by omega), show 2 * n + 1 + c.app t - (2 * n + 1) = c.app t by omega, he]
  rw [hw0] at hw1
  have hev := way_eAf t (by omega) (nc := 3 * n * many) (turn := .sint .i64 j.turn) (m := mOf c) (ats := fun u => .sint .i64 (j.ats u : Int)) (at1 := (j.ats t : Int)) (wd := .nils) (cn := fun i => .sint .i64 (j.cn i)) (idle := j.idle) (now := j.now) (inv := fun u => .sint .i64 (j.inv u)) (marks := markOf j) (lw := 2 * n + 65) (cnt := j.cnt) (n := (n : Int)) (words := wordsOf n c) (evl := j.evl) (evs := j.evs) (left := j.left) (lmap := j.lmap) (lst := lstOf n many t) (lk := c.fin t) (ll := 3 * many - c.fin t) (lt := 3 * many) (call := ((callIx n t (c.fin t) : Nat) : Int)) (stp := stp) (own := ownOf n) (app := ((c.app t : Nat) : Int)) (sv := j.sv t) (word := ((pk (t, c.ann t) : Nat) : Int)) (offers := j.off t) (ans := fun i => match i with | 0 => .sint .i64 (j.ans t 0) | 1 => .sint .u64 (j.ans t 1) | _ => .nils) (y := ((pk e : Nat) : Int)) (R := RL (c.ann t : Nat) (c.app t : Nat) (.oslice (80 + t) 1 0 0 1 1) (lastOf c t))
  obtain ⟨s, hs, hpre, hnx', hwr, hrows⟩ := view_some hev
  have hP : s.pre := by
    rw [hpre]
    clear hev hpre hrows hs
    simp (disch := omega) only [wrap64, Nat.reduceAdd, Nat.zero_add, Nat.add_zero, Nat.mul_one, Int.toNat_natCast, rl_set2, rl_set, rl_set1, wl_set1, wl_set, rl_len, wl_len, hfth, hfk, hnum]
    repeat' apply And.intro
    all_goals first
      | exact True.intro
      | exact Eq.refl true
      | exact hlm
      | omega
      | exact load1 hlst (by omega)
      | exact load1 hw1 (by omega)
      | exact load1 hstp (by omega)
      | exact load1 rl1 (by omega)
      | exact load1 rl2 (by omega)
      | exact load0 wl0
      | exact load1 wl1 (by omega)
      | (simp only [cmpI, decide_eq_true_eq, decide_eq_false_iff_not, beq_iff_eq, beq_eq_false_iff_ne, bne_iff_ne, bne_eq_false_iff_eq]; omega)
  refine (fit_call named mixed noSums_ok hs hP hfit (heap_ok hj) (hs_of (heap_ok hj) ?_) (by simp [AllL, AV.All])).mono ?_
  · rw [updA_self hmo, updA_self (f := fun u => AV.sint .i64 (j.ats u : Int)) (t := t) rfl, updA_self (f := markOf j) (t := t) rfl, updA_self hown]
    exact cons_all (.same (heap0 hmany hE)) <| cons_all (.same heap1) <| cons_all (.same heap2) <| cons_all (.same heap3) <| cons_all (.same heap4) <| cons_all (.same heap5) <| cons_all (.same (heap16 ht hn hmany)) <| cons_all (.same (heap8 hev0)) <| cons_all (.same heap12) <| cons_all (.same (heap80 ht hn)) <| cons_all (.same ((heap32 ht hn).trans hmach)) <| cons_all (.rows (heap64 ht hn)) <| nil_all
  · rintro e' w' ⟨φ1, rfl, hφ, hfit', _⟩
    have h64 := get_of_names hrows 5 rfl rfl
    simp (disch := omega) only [wrap64, Nat.reduceAdd, Nat.zero_add, Nat.add_zero, Nat.mul_one, Int.toNat_natCast, rl_set2, rl_set, rl_set1, wl_set1, wl_set, rl_len, wl_len, hfth, hfk, hnum] at h64
    refine arr_take hn hm ht hok hj hk hmode (log' := c.log) (fun _ _ _ => rfl) hφ (by intro b hb; simp only [List.mem_cons, List.not_mem_nil, or_false] at hb; omega) ⟨by simp, by simp, by simp, by simp, by simp, by simp⟩ hwr hfit' (turn' := (t : Int)) rfl (stp := stp) (cnt := fun i => match i with | 0 => IntKind.i64.wrap (j.cnt 0 + 1) | i => j.cnt i)
      (w0 := t) (sn := 113) (x := 48 + t) (w1 := e.1) (m1 := e.2) (b' := j.marks t) (by omega) (fun v => by rw [hmode]; intro h; cases h) ⟨by omega, by omega, by simp⟩ ⟨.inl rfl, by omega⟩ ?_ ?_
      (get_of_names hrows 0 rfl rfl) ((get_of_names hrows 1 rfl rfl).trans (by rw [updA_eq (markOf j) t (markOf j t) t, if_pos rfl])) (get_of_names hrows 2 rfl rfl) (get_of_names hrows 3 rfl rfl) (get_of_names hrows 4 rfl rfl) h64 (get_of_names hrows 7 rfl rfl) (.inl ⟨by simp; omega, ?_⟩)
    · intro φ' h
      unfold markOf
      cases j.marks t
      · rfl
      · exact conc_os h.symm
    · funext u
      rw [cntw_take_next he, updA_eq]
      split
      · rename_i hu; subst hu; rw [e2]; simp
      · rename_i hu; rw [if_neg (fun h => hu h.symm)]; rfl
    · refine words_congr (fun _ => rfl) (fun u => ?_) rfl
      show c.fin u / 3 + (updA c.mode t (.act 1 (0, 0)) u).one = c.fin u / 3 + (c.mode u).one
      rw [updA_eq]
      split
      · rename_i hu; rw [hu, hmode]; rfl
      · rfl

theorem step_sTa {n many k : Nat} {c : Cf} {j : Jk} {φ : Phi} {w : World} {t : Nat} (hn : n ≤ 6) (hm : many ≤ 5) (ht : t < n) (hok : Ok n many c) (hj : JOk n many c j k) (hk : k ≤ 1000000) (hfit : FitH κ (heap n many c j) φ w)
    {o : Nat × Nat} (hmode : c.mode t = .act 3 o) (happ : c.app t = c.log.length) (hne : o ≠ (t, c.ann t)) :
    Calls Tryz.prog 22 #[conc φ (.ptr 0 0), .int .i64 (t : Int)] w (Goes κ n many k φ j.oth { c with mode := updA c.mode t (.act 1 (0, 0)), app := updA c.app t (c.app t + 1), log := c.log ++ [o] }) := by
  obtain ⟨a1, a2, a3, a4⟩ := hok.act t _ _ ht hmode
  have hbusy : (c.mode t).busy = 1 := by rw [hmode]; rfl
  have hat := hj.ats t ht hbusy
  obtain ⟨stp, hstp⟩ := hj.evs.stp _ hat
  have hlen := hj.evs.len
  have hevl := busy_le hn hm hok
  rw [← hj.evl] at hevl
  have hlog := log_le hn hm hok
  have happle := hok.app t ht
  have hmany : many ≠ 0 := by omega
  have hlm := hj.lm hmany t ht
  rw [if_neg (by omega)] at hlm
  have hnow := hj.now
  have hlst := lst_get (n := n) (many := many) (u := t) (k := c.fin t) (by omega)
  have hwl := words_len n c
  have hmo : mOf c t = .iface 279 (.ptr (32 + t) 0) := by unfold mOf; rw [hmode]
  have hev0 : j.evl ≠ 0 := by omega
  have hE : evsOf j = .soslice 8 8 0 0 j.evl j.evl := by unfold evsOf; rw [if_neg hev0]
  have hown : ownOf n t = .ptr (64 + t) 0 := by unfold ownOf; rw [if_pos ht]
  have hmach : machOf n c j t = some (.row false [.ptr 12 0, .ptr (64 + t) 0, .int .i64 t, .int .i64 (3 : Nat), .sint .u64 (pk (t, c.ann t)), .sint .u64 (j.off t), .sint .i64 (j.ans t 0), .sint .u64 (j.ans t 1), .nils, .nils] 282 none) := by unfold machOf; rw [hmode]
  obtain ⟨e1, e2, e3⟩ := hok.offered ht hmode happ
  have hal := hok.ann_le e1
  have hfth : fld ((pk o : Nat) : Int) 40 4 = ((o.1 : Nat) : Int) := fld_thread o.1 (by omega) o.2 (by omega)
  have hfk : fld ((pk o : Nat) : Int) 32 8 = 1 := fld_kind o.1 (by omega) o.2 (by omega)
  have hnum : num ((pk o : Nat) : Int) = ((o.2 : Nat) : Int) := num_pk o.1 (by omega) o.2 (by omega)
  have hoff := hj.off t o ht hmode
  have hpne : pk o ≠ pk (t, c.ann t) := fun h => hne (pk_inj (by omega) (by show t < 6; omega) h)
  have hw1 := words_get (n := n) (c := c) (i := 2 * n + 1 + c.app t) (by omega)
  have hw0 : wordAt n c (2 * n + 1 + c.app t) = 0 := by
    unfold wordAt
    rw [if_neg (by omega), if_neg (by omega), if_neg (by omega), show 2 * n + 1 + c.app t - (2 * n + 1) = c.app t by omega, List.getElem?_eq_none (by omega)]
  rw [hw0] at hw1
  have hct := hok.cnt o.1 e1
  have hw0t : ∀ v, c.mode o.1 ≠ .tallied v := fun v hv => by rw [hv] at hct; simp only [Mode.one] at hct; omega
  have hev := way_sTa t (by omega) (nc := 3 * n * many) (turn := .sint .i64 j.turn) (m := mOf c) (ats := fun u => .sint .i64 (j.ats u : Int)) (at1 := (j.ats t : Int)) (wd := .nils) (cn := fun i => .sint .i64 (j.cn i)) (idle := j.idle) (now := j.now) (lw := 2 * n + 65) (cnt := j.cnt) (n := (n : Int)) (words := wordsOf n c) (evl := j.evl) (evs := j.evs) (left := j.left) (lmap := j.lmap) (lst := lstOf n many t) (lk := c.fin t) (ll := 3 * many - c.fin t) (lt := 3 * many) (call := ((callIx n t (c.fin t) : Nat) : Int)) (stp := stp) (own := ownOf n) (app := ((c.app t : Nat) : Int)) (sv := j.sv t) (word := ((pk (t, c.ann t) : Nat) : Int)) (offers := ((pk o : Nat) : Int)) (ans := fun i => match i with | 0 => .sint .i64 (j.ans t 0) | 1 => .sint .u64 (j.ans t 1) | _ => .nils) (y := ((0 : Nat) : Int)) (R := RL (c.ann t : Nat) (c.app t : Nat) (.oslice (80 + t) 1 0 0 1 1) (lastOf c t)) (W := WL j.now (fun u => .sint .i64 (j.inv u)) (markOf j))
  obtain ⟨s, hs, hpre, hnx', hwr, hrows⟩ := view_some hev
  have hP : s.pre := by
    rw [hpre]
    clear hev hpre hrows hs
    simp (disch := omega) only [wrap64, Nat.reduceAdd, Nat.zero_add, Nat.add_zero, Nat.mul_one, Int.toNat_natCast, rl_set2, rl_set, rl_set1, wl_set1, wl_set, rl_len, wl_len, hfth, hfk, hnum]
    repeat' apply And.intro
    all_goals first
      | exact True.intro
      | exact Eq.refl true
      | exact hlm
      | omega
      | exact load1 hlst (by omega)
      | exact load1 hw1 (by omega)
      | exact load1 hstp (by omega)
      | exact load1 rl1 (by omega)
      | exact load1 rl2 (by omega)
      | exact load0 wl0
      | exact load1 wl1 (by omega)
      | (simp only [cmpI, decide_eq_true_eq, decide_eq_false_iff_not, beq_iff_eq, beq_eq_false_iff_ne, bne_iff_ne, bne_eq_false_iff_eq]; omega)
  refine (fit_call named mixed noSums_ok hs hP hfit (heap_ok hj) (hs_of (heap_ok hj) ?_) (by simp [AllL, AV.All])).mono ?_
  · rw [updA_self hmo, updA_self (f := fun u => AV.sint .i64 (j.ats u : Int)) (t := t) rfl, updA_self hown]
    rw [hoff] at hmach
    exact cons_all (.same (heap0 hmany hE)) <| cons_all (.rows heap1) <| cons_all (.same heap2) <| cons_all (.same heap3) <| cons_all (.same heap4) <| cons_all (.same heap5) <| cons_all (.same (heap16 ht hn hmany)) <| cons_all (.same (heap8 hev0)) <| cons_all (.same heap12) <| cons_all (.same (heap80 ht hn)) <| cons_all (.same ((heap32 ht hn).trans hmach)) <| cons_all (.rows (heap64 ht hn)) <| nil_all
  · rintro e' w' ⟨φ1, rfl, hφ, hfit', _⟩
    have h64 := get_of_names hrows 6 rfl rfl
    simp (disch := omega) only [wrap64, Nat.reduceAdd, Nat.zero_add, Nat.add_zero, Nat.mul_one, Int.toNat_natCast, rl_set2, rl_set, rl_set1, wl_set1, wl_set, rl_len, wl_len, hfth, hfk, hnum] at h64
    have h1 := get_of_names hrows 1 rfl rfl
    simp (disch := omega) only [Nat.reduceAdd, Nat.zero_add, Nat.add_zero, Nat.mul_one, Int.toNat_natCast, wl_set1, wl_set, hfth, wrap64 (x := ((o.1 : Nat) : Int))] at h1
    have h3 := get_of_names hrows 3 rfl rfl
    rw [show ((0 : Nat) + (IntKind.i64.wrap (IntKind.i64.wrap ((n : Int) + (1 : Int) + n) + ((c.app t : Nat) : Int))).toNat) * (1 : Nat) = 2 * n + 1 + c.app t by simp (disch := omega) only [wrap64]; omega] at h3
    have hlen' : (c.log ++ [o])[c.app t]? = some o := by rw [happ]; simp
    have htk : (c.log ++ [o]).take (c.app t) = c.log.take (c.app t) := List.take_append_of_le_length (by omega)
    refine arr_take hn hm ht hok hj hk hmode (log' := c.log ++ [o]) (fun u hu _ => List.take_append_of_le_length (hok.app u hu)) hφ (by intro b hb; simp only [List.mem_cons, List.not_mem_nil, or_false] at hb; omega) ⟨by simp, by simp, by simp, by simp, by simp, by simp⟩ hwr hfit' (turn' := (t : Int)) rfl (stp := stp) (cnt := fun i => match i with | 2 => IntKind.i64.wrap (j.cnt 2 + 1) | i => j.cnt i)
      (w0 := o.1) (sn := 118) (x := 101) (w1 := o.1) (m1 := o.2) (b' := true) (by omega) hw0t ⟨by omega, by omega, by simp⟩ ⟨.inr ⟨by omega, by omega⟩, by omega⟩ (fun φ' h => conc_os h.symm) ?_
      (get_of_names hrows 0 rfl rfl) h1 (get_of_names hrows 2 rfl rfl) (get_of_names hrows 4 rfl rfl) (get_of_names hrows 5 rfl rfl) h64 (get_of_names hrows 10 rfl rfl) (.inr ⟨by simp, h3.trans ?_⟩)
    · funext u
      rw [cntw_take_next hlen', htk, updA_eq]
      split
      · rename_i hu; subst hu; rw [happ, List.take_length, e2]; simp
      · rename_i hu; rw [if_neg (fun h => hu h.symm)]; rfl
    · have hone : ∀ u, c.fin u / 3 + (updA c.mode t (.act 1 (0, 0)) u).one = c.fin u / 3 + (c.mode u).one := fun u => by
        rw [updA_eq]
        split
        · rename_i hu; rw [hu, hmode]; rfl
        · rfl
      rw [words_set (c' := { c with mode := updA c.mode t (.act 1 (0, 0)), app := updA c.app t (c.app t + 1), log := c.log ++ [o] }) (by omega) ?_ ?_]
      · show ((pk o : Nat) : Int) = _
        unfold wordAt
        rw [if_neg (by omega), if_neg (by omega), if_neg (by omega), show 2 * n + 1 + c.app t - (2 * n + 1) = c.app t by omega]
        show _ = (((match (c.log ++ [o])[c.app t]? with | some o => pk o | none => 0) : Nat) : Int)
        rw [hlen']
      · intro i hi hne'
        unfold wordAt Cf.ann
        simp only [hone]
        split
        · rfl
        split
        · rfl
        split
        · rfl
        · rename_i h1 h2 h3
          by_cases hl : i - (2 * n + 1) < c.log.length
          · rw [List.getElem?_append_left hl]
          · rw [List.getElem?_eq_none (l := c.log) (by omega), List.getElem?_eq_none (by simp; omega)]
end Ct
end Go.Proofs.YtpkfimijnkkbjaaGreat

namespace Go.Proofs.YtpkfimijnkkbjaaGreat
namespace Ct
open Ev

theorem get_self {l : List AV} {i : Nat} {a : AV} (h : i < l.length) : (l.set i a)[i]? = some a := List.getElem?_set_self h
theorem get_ne_self {l : List AV} {i k : Nat} {a b : AV} (h : i < l.length) (hk : k ≠ i) : ((l.set i a).set k b)[i]? = some a := by
  rw [List.getElem?_set_ne hk]; exact get_self h

/-- Events of which one is being written: from O on. -/
structure Mid (evs : List AV) (O : Nat) (s r : AV) (L : List AV) : Prop where
  len : L.length = evs.length
  room : O + 8 ≤ evs.length
  off : ∀ i, i < O + 2 ∨ O + 8 ≤ i → L[i]? = evs[i]?
  stp : L[O + 3]? = some s
  rsp : L[O + 2]? = some r
  flat : ∀ v ∈ L, v.flat = true
section
variable {evs L : List AV} {O : Nat} {s r v : AV}
theorem Mid.start (h : O + 8 ≤ evs.length) (hf : ∀ v ∈ evs, v.flat = true) (hr : evs[O + 2]? = some r) (hs : s.flat = true) : Mid evs O s r (evs.set (O + (2 + (1 : Nat))) s) :=
  ⟨by simp, h, fun i hi => by rw [List.getElem?_set_ne (by omega)], by rw [show O + (2 + 1) = O + 3 by omega, get_self (by omega)], by rw [List.getElem?_set_ne (by omega)]; exact hr, flat_set hf hs⟩
theorem Mid.cells {m : List AV} (h : Mid evs O s r L) (hm : m.length = 3) (hf : ∀ v ∈ m, v.flat = true) : Mid evs O s r (L.take (O + (3 + (1 : Nat))) ++ m ++ L.drop (O + (3 + (1 : Nat)) + m.length)) := by
  have hl := h.len
  have hr := h.room
  have ho : O + (3 + 1) + m.length ≤ L.length := by omega
  refine ⟨by rw [mid_len ho, hl], h.room, fun i hi => ?_, ?_, ?_, flat_mid h.flat hf⟩
  · rw [mid_get ho (by omega)]; exact h.off i hi
  · rw [mid_get ho (by omega)]; exact h.stp
  · rw [mid_get ho (by omega)]; exact h.rsp
theorem Mid.key (h : Mid evs O s r L) (hv : v.flat = true) : Mid evs O s r (L.set (O + (6 + (1 : Nat))) v) :=
  ⟨by rw [List.length_set]; exact h.len, h.room, fun i hi => by rw [List.getElem?_set_ne (by omega)]; exact h.off i hi, by rw [List.getElem?_set_ne (by omega)]; exact h.stp, by rw [List.getElem?_set_ne (by omega)]; exact h.rsp, flat_set h.flat hv⟩
theorem Mid.resp {r' : AV} (h : Mid evs O s r L) (hv : r'.flat = true) : Mid evs O s r' (L.set (O + (1 + (1 : Nat))) r') := by
  have hl := h.len
  have hr := h.room
  exact ⟨by rw [List.length_set]; exact h.len, h.room, fun i hi => by rw [List.getElem?_set_ne (by omega)]; exact h.off i hi, by rw [List.getElem?_set_ne (by omega)]; exact h.stp, by rw [show O + (1 + 1) = O + 2 by omega, get_self (by omega)], flat_set h.flat hv⟩
/-- The events behind a response. -/
theorem Mid.done {k at1 : Nat} {may may' : Nat → Prop} {φ : Phi} {sv rv : Int} (h : Mid evs O s (.sint .i64 rv) L) (hO : O = at1 * 8) (hr : rv ≠ 0) (hs : s = .sint .i64 sv ∨ s = .int .i64 sv) (len : evs.length = 8 * k)
    (stp : ∀ i, i < k → i ≠ at1 → ∃ s, evs[8 * i + 3]? = some (.sint .i64 s) ∨ evs[8 * i + 3]? = some (.int .i64 s))
    (rsp : ∀ i, i < k → i ≠ at1 → ∃ r, (evs[8 * i + 2]? = some (.sint .i64 r) ∨ evs[8 * i + 2]? = some (.int .i64 r)) ∧ (r ≠ 0 ∨ may i)) (hmay : ∀ i, i ≠ at1 → may i → may' i) : EvsOk (L.map (kept φ)) k may' := by
  subst hO
  refine EvsOk.of (by rw [h.len]; exact len) (fun i hi => ?_) (fun i hi => ?_)
  · by_cases e : i = at1
    · subst e
      refine ⟨sv, ?_⟩
      rw [show 8 * i + 3 = i * 8 + 3 by omega, h.stp]
      exact hs.imp (fun e => by rw [e]) (fun e => by rw [e])
    · rw [h.off _ (by omega)]; exact stp i hi e
  · by_cases e : i = at1
    · subst e
      exact ⟨rv, .inl (by rw [show 8 * i + 2 = i * 8 + 2 by omega, h.rsp]), .inl hr⟩
    · rw [h.off _ (by omega)]
      obtain ⟨r, h1, h2⟩ := rsp i hi e
      exact ⟨r, h1, h2.imp id (hmay i e)⟩
end

theorem putM_pairs {φ φ' : Phi} {k : Int} {v v' : AV} (hv : conc φ v = conc φ' v') : ∀ {l : List (Int × AV)}, (∀ p ∈ l, conc φ p.2 = conc φ' p.2) → (putM k v l).map (pairOf φ) = (putM k v' l).map (pairOf φ')
  | [], _ => by simp [putM, pairOf, hv]
  | (j, u) :: l, h => by
    have h1 := h (j, u) (by simp)
    have h2 := putM_pairs (k := k) hv (l := l) fun p hp => h p (by simp [hp])
    have h3 : l.map (pairOf φ) = l.map (pairOf φ') := List.map_congr_left fun p hp => by unfold pairOf; rw [h p (by simp [hp])]
    unfold putM
    split
    · simp only [List.map_cons, pairOf, hv, h3]
    · simp only [List.map_cons, h2, pairOf]; simp only [] at h1; rw [h1]
theorem findM_putM {k : Int} {v : AV} : ∀ {l : List (Int × AV)}, findM k (putM k v l) = some v
  | [] => by simp [putM, findM]
  | (j, u) :: l => by
    unfold putM
    split
    · simp [findM]
    · rename_i h
      unfold findM
      rw [h]; exact findM_putM
theorem findM_putM_ne {k k' : Int} {v : AV} (hk : k' ≠ k) : ∀ {l : List (Int × AV)}, findM k' (putM k v l) = findM k' l
  | [] => by simp [putM, findM, hk]
  | (j, u) :: l => by
    unfold putM
    split
    · rename_i h
      have hkj : k = j := by simpa using h
      subst hkj
      have : decide (k' = k) = false := by simpa using hk
      simp only [findM, this]
    · simp only [findM]
      split
      · rfl
      · exact findM_putM_ne hk
theorem mem_putM {k : Int} {v : AV} {p : Int × AV} : ∀ {l : List (Int × AV)}, p ∈ putM k v l → p ∈ l ∨ p.2 = v
  | [], h => by simp [putM] at h; exact .inr (by rw [h])
  | (j, u) :: l, h => by
    unfold putM at h
    split at h
    · rcases List.mem_cons.1 h with h | h
      · exact .inr (by rw [h])
      · exact .inl (by simp [h])
    · rcases List.mem_cons.1 h with h | h
      · exact .inl (by simp [h])
      · rcases mem_putM h with h | h
        · exact .inl (by simp [h])
        · exact .inr h

/-- A thread's calls behind one that has responded. -/
def nextCalls (many t f : Nat) : AV := .soslice (16 + t) 1 (f + 1) (if f + 1 = 3 * many then f else 0) (3 * many - (f + 1)) (3 * many)
theorem next_conc {φ φ' : Phi} {many t f : Nat} (hφ : φ (16 + t) = φ' (16 + t)) : conc φ (.soslice (16 + t) 1 (f + 1) f (3 * many - f - 1) (3 * many)) = conc φ' (nextCalls many t f) := by
  unfold nextCalls
  rw [show 3 * many - (f + 1) = 3 * many - f - 1 by omega]
  by_cases h : f + 1 = 3 * many
  · rw [if_pos h]; exact conc_sos hφ
  · rw [if_neg h, ← conc_sos (φ := φ) hφ]
    simp only [conc]
    rw [if_neg (fun e => h e.2), if_neg (fun e => h e.2)]
theorem JOk.fin {n many k t : Nat} {c c' : Cf} {j j' : Jk} (hj : JOk n many c j k) (hn : n ≤ 6) (ht : t < n) (hmany : many ≠ 0) (hlt : c.fin t < 3 * many) (hk : k ≤ 1000000) (hfin : c'.fin = updA c.fin t (c.fin t + 1)) (hmode : c'.mode = updA c.mode t .none)
    (hnow : j'.now = j.now + 1) (hevl : j'.evl + (c.mode t).busy = j.evl + 1) (hevs : EvsOk j'.evs j'.evl fun i => ∃ u, u < n ∧ (c'.mode u).busy = 1 ∧ j'.ats u = i) (hats : ∀ u, u ≠ t → j'.ats u = j.ats u)
    (hlm : j'.lmap = putM (t : Int) (nextCalls many t (c.fin t)) j.lmap) (htr0 : j'.tr = false → j'.trmap = []) (htr1 : j'.tr = true → j'.trmap = [(0, .soslice 11 1 0 0 j'.was.length j'.was.length)])
    (hwas : j'.was.length ≤ sumN n fun u => (c'.fin u + 2) / 3) (hoff : ∀ u, u ≠ t → j'.off u = j.off u) (hmark : ∀ u v, u ≠ t → u < n → c.mode u = .tallied v → j'.marks u = false) (hoth : j'.oth = j.oth) : JOk n many c' j' (k + 1) := by
  have hb1 : (c.mode t).busy ≤ 1 := by cases c.mode t <;> simp [Mode.busy]
  have hnow0 := hj.now
  have hbusy : ∀ u, (c'.mode u).busy = if u = t then 0 else (c.mode u).busy := fun u => by
    rw [hmode, updA_eq]; split <;> rfl
  refine ⟨?_, ?_, hevs, ?_, ?_, ?_, ?_, htr0, htr1, hwas, ?_, ?_, fun b o h => hj.oth b o (by rw [← hoth]; exact h)⟩
  · rw [hnow]; omega
  · have h1 := sumN_upd (fun u => c.fin u + (c.mode u).busy) t (c.fin t + 1) n ht
    rw [← hj.evl] at h1
    rw [sumN_congr (f := fun u => c'.fin u + (c'.mode u).busy) (g := updA (fun u => c.fin u + (c.mode u).busy) t (c.fin t + 1)) n (fun u _ => by
      simp only [hfin, hbusy, updA_eq]; split <;> simp)]
    omega
  · intro u hu hb
    rw [hbusy] at hb
    split at hb
    · cases hb
    · rename_i e
      rw [hats u e]
      have := hj.ats u hu hb
      omega
  · intro _ u hu
    rw [hlm, hfin, updA_eq]
    by_cases e : u = t
    · subst e
      rw [findM_putM, if_pos rfl]
      unfold nextCalls
      rw [Nat.add_sub_cancel]
    · rw [findM_putM_ne (by omega), if_neg e]
      exact hj.lm hmany u hu
  · intro x hx
    rw [hlm, findM_putM_ne ?_]
    · exact hj.lm0 x hx
    · rcases hx with h | h
      · exact absurd h hmany
      · exact h t ht
  · intro p hp
    rw [hlm] at hp
    rcases mem_putM hp with h | h
    · exact hj.lmall p h
    · rw [h]; show 16 ≤ 16 + t ∧ 16 + t < 32
      omega
  · intro u o hu ho
    rw [hmode, updA_eq] at ho
    split at ho
    · cases ho
    · rename_i e; rw [hoff u e]; exact hj.off u o hu ho
  · intro u v hu hv
    rw [hmode, updA_eq] at hv
    split at hv
    · cases hv
    · rename_i e; exact hmark u v e hu hv
end Ct
end Go.Proofs.YtpkfimijnkkbjaaGreat
