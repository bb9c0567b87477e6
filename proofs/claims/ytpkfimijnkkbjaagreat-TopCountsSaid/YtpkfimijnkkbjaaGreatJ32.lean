/-
  Steps of the counting play in which an operation begins (printed by gen_cts3.py).
  How a run's blocks make the next heap of the counting play, where an operation on a tally or an adder responds.
-/
import Derived.Test.YtpkfimijnkkbjaaGreatJ31
import Derived.Test.YtpkfimijnkkbjaaGreatJ25
set_option linter.unusedVariables false
namespace Go.Proofs.YtpkfimijnkkbjaaGreat
namespace Ct
open Ev

variable {κ : Keep}

theorem words_start {n t : Nat} {c c' : Cf} {v : Nat} (hmode : c.mode t = .none) (hc : c' = { c with mode := updA c.mode t (.tallied v) }) : wordsOf n c' = wordsOf n c := by
  subst hc
  refine words_congr (fun _ => rfl) (fun u => ?_) rfl
  show c.fin u / 3 + (updA c.mode t (.tallied v) u).one = c.fin u / 3 + (c.mode u).one
  rw [updA_eq]; split
  · rename_i e; rw [e, hmode]; rfl
  · rfl
/-- The events' cells behind the first one. -/
theorem evs_one {n : Nat} {c c' : Cf} {j : Jk} {φ : Phi} {t : Nat} {call nw : Int} (h : EvsOk j.evs j.evl fun i => ∃ u, u < n ∧ (c.mode u).busy = 1 ∧ j.ats u = i) (ht : t < n) (h0 : j.evl = 0) (hb0 : (c.mode t).busy = 0) (hb : (c'.mode t).busy = 1) (hbu : ∀ u, u ≠ t → (c'.mode u).busy = (c.mode u).busy) :
    EvsOk (([AV.sint .i64 call, AV.sint .i64 nw, AV.int .i64 (Int.ofNat 0), AV.int .i64 (Int.ofNat 1), AV.int .i64 (Int.ofNat 0), AV.int .u64 (Int.ofNat 0), AV.nils, AV.nils]).map (kept φ)) (0 + 1) (fun i => ∃ u, u < n ∧ (c'.mode u).busy = 1 ∧ updA j.ats t 0 u = i) ∧
    ∀ v ∈ [AV.sint .i64 call, AV.sint .i64 nw, AV.int .i64 (Int.ofNat 0), AV.int .i64 (Int.ofNat 1), AV.int .i64 (Int.ofNat 0), AV.int .u64 (Int.ofNat 0), AV.nils, AV.nils], v.flat = true := by
  refine ⟨EvsOk.of rfl (fun i hi => ?_) (fun i hi => ?_), by simp [AV.flat]⟩
  · have : i = 0 := by omega
    subst this; exact ⟨1, .inr rfl⟩
  · have : i = 0 := by omega
    subst this; exact ⟨0, .inr rfl, .inr ⟨t, ht, hb, by rw [updA_eq, if_pos rfl]⟩⟩

theorem step_tally0 {n many k : Nat} {c : Cf} {j : Jk} {φ : Phi} {w : World} {t : Nat} (hn : n ≤ 6) (hm : many ≤ 5) (ht : t < n) (hok : Ok n many c) (hj : JOk n many c j k) (hk : k ≤ 1000000) (hfit : FitH κ (heap n many c j) φ w)
    (hmode : c.mode t = .none) (hq : c.fin t % 3 = 0) (hlt : c.fin t < 3 * many) (hev0 : j.evl ≠ 0) :
    Calls Tryz.prog 22 #[conc φ (.ptr 0 0), .int .i64 (t : Int)] w (Goes κ n many k φ j.oth { c with mode := updA c.mode t (.tallied (c.fin t / 3)) }) := by
  have hfin : c.fin t % 3 = 0 := hq
  have hb0 : (c.mode t).busy = 0 := by rw [hmode]; rfl
  have hlen := hj.evs.len
  have hevl := busy_le hn hm hok
  rw [← hj.evl] at hevl
  have hlog := log_le hn hm hok
  have happle := hok.app t ht
  have hmany : many ≠ 0 := by omega
  have hlm := hj.lm hmany t ht
  rw [if_neg (by omega)] at hlm
  have hnow := hj.now
  have hlst := lst_get (n := n) (many := many) (u := t) (k := c.fin t) (by omega)
  have hcix := callIx_lt (n := n) (many := many) ht hlt
  have hcall : ∀ r, r < 6 → (callsOf n many)[callIx n t (c.fin t) * 6 + r]? = (callCells t 0)[r]? := fun r hr => by
    rw [Nat.mul_comm, calls_get ht hlt hr, hfin]
  have hwl := words_len n c
  have hmo : mOf c t = .nili := by unfold mOf; rw [hmode]
  have hE : evsOf j = .soslice 8 8 0 0 j.evl j.evl := by unfold evsOf; rw [if_neg hev0]
  have happ : ∀ m : List AV, (j.evs ++ m)[j.evl * 8 + 3]? = m[3]? := fun m => by rw [List.getElem?_append_right (by omega), show j.evl * 8 + 3 - j.evs.length = 3 by omega]
  have hw1 := words_get (n := n) (c := c) (i := t) (by omega)
  have hw0 : wordAt n c t = c.fin t / 3 := by
    unfold wordAt tal
    rw [if_pos ht]; omega
  have hev := way_tally0 t (by omega) (nc := 3 * n * many) (turn := .sint .i64 j.turn) (m := mOf c) (ats := fun u => .sint .i64 (j.ats u : Int)) (at1 := (j.ats t : Int)) (wd := .nils) (cn := fun i => .sint .i64 (j.cn i)) (idle := j.idle) (now := j.now) (inv := fun u => .sint .i64 (j.inv u)) (marks := markOf j) (lw := 2 * n + 65) (cnt := j.cnt) (n := (n : Int)) (words := wordsOf n c) (evl := j.evl) (evs := j.evs) (left := j.left) (lmap := j.lmap) (lst := lstOf n many t) (calls := callsOf n many) (lk := c.fin t) (ll := 3 * many - c.fin t) (lt := 3 * many) (call := ((callIx n t (c.fin t) : Nat) : Int)) (old := ((wordAt n c t : Nat) : Int))
  obtain ⟨s, hs, hpre, hnx', hwr, hrows⟩ := view_some hev
  have hP : s.pre := by
    rw [hpre]
    clear hev hpre hrows hs
    simp (disch := omega) only [wrap64, Nat.reduceAdd, Nat.zero_add, Nat.add_zero, Nat.mul_one, Int.toNat_natCast, room_eq, maxLen_eq]
    repeat' apply And.intro
    all_goals first
      | exact True.intro
      | exact Eq.refl true
      | exact hlm
      | omega
      | exact load1 hlst (by omega)
      | exact load1 hw1 (by omega)
      | exact load1 hstp (by omega)
      | exact load1 rl1 (by omega)
      | exact load6 hcall (by omega)
      | exact load1 ((happ _).trans rfl) (by omega)
      | (simp only [List.length_set, List.length_append, List.length_cons, List.length_nil]; omega)
      | (simp only [cmpI, decide_eq_true_eq, decide_eq_false_iff_not, beq_iff_eq, beq_eq_false_iff_ne, bne_iff_ne, bne_eq_false_iff_eq] <;> omega)
  refine (fit_call named mixed noSums_ok hs hP hfit (heap_ok hj) (hs_of (heap_ok hj) ?_) (by simp [AllL, AV.All])).mono ?_
  · rw [updA_self hmo, updA_self (f := fun u => AV.sint .i64 (j.ats u : Int)) (t := t) rfl, updA_self (f := markOf j) (t := t) rfl]
    exact cons_all (.same (heap0 hmany hE)) <| cons_all (.same heap1) <| cons_all (.same heap2) <| cons_all (.same heap3) <| cons_all (.same heap4) <| cons_all (.same heap5) <| cons_all (.same (heap16 ht hn hmany)) <| cons_all (.same (heap8 hev0)) <| cons_all (.same heap9) <| cons_all (.same (heap7 hmany)) <| nil_all
  · rintro e' w' ⟨φ1, rfl, hφ, hfit', _⟩
    have h8 := get_of_names hrows 4 rfl rfl
    have hL := evs_app (n := n) (c := c) (c' := { c with mode := updA c.mode t (.tallied (c.fin t / 3)) }) (j := j) (φ := φ1) (O := ((0 : Nat) + (j.evl : Int).toNat) * (8 : Nat) + (2 + (1 : Nat))) (y := IntKind.i64.wrap ((0 : Int) + (1 : Int))) (x := .int .i64 (IntKind.i64.wrap ((0 : Int) + (1 : Int)))) (call := ((callIx n t (c.fin t) : Nat) : Int)) (nw := IntKind.i64.wrap (j.now + 1)) hj.evs ht (by omega) (.inr rfl) hb0 (by show (updA c.mode t (.tallied (c.fin t / 3)) t).busy = 1; rw [updA_eq, if_pos rfl]; rfl) (fun u hu => by show (updA c.mode t (.tallied (c.fin t / 3)) u).busy = _; rw [updA_eq, if_neg hu])
    have hmrow := get_of_names hrows 5 rfl rfl
    rw [hw0] at hmrow
    refine arr_start hn hmany ht hj hk (M := (.tallied (c.fin t / 3))) hmode rfl hφ (by intro b hb; simp only [List.mem_cons, List.not_mem_nil, or_false] at hb; omega) (mm := 101) ⟨by simp, by simp, by simp, by simp, by simp⟩ ⟨by omega, by omega⟩ hwr hfit' (turn' := (t : Int)) rfl (cnt := fun i => match i with | 0 => IntKind.i64.wrap (j.cnt 0 + 1) | i => j.cnt i) (a := IntKind.i64.wrap (j.now + 1)) (off := 0) (an := fun _ => 0)
      (get_of_names hrows 0 rfl rfl) (fun _ => rfl) rfl (get_of_names hrows 1 rfl rfl) (get_of_names hrows 2 rfl rfl) h8 hL.1 hL.2 (.inl ⟨c.fin t / 3, rfl, rfl, hmrow⟩) (.inl ⟨by simp, words_start hmode rfl⟩) (.inl ⟨by simp; omega, rfl⟩)

theorem step_tally0N {n many k : Nat} {c : Cf} {j : Jk} {φ : Phi} {w : World} {t : Nat} (hn : n ≤ 6) (hm : many ≤ 5) (ht : t < n) (hok : Ok n many c) (hj : JOk n many c j k) (hk : k ≤ 1000000) (hfit : FitH κ (heap n many c j) φ w)
    (hmode : c.mode t = .none) (hq : c.fin t % 3 = 0) (hlt : c.fin t < 3 * many) (hev0 : j.evl = 0) :
    Calls Tryz.prog 22 #[conc φ (.ptr 0 0), .int .i64 (t : Int)] w (Goes κ n many k φ j.oth { c with mode := updA c.mode t (.tallied (c.fin t / 3)) }) := by
  have hfin : c.fin t % 3 = 0 := hq
  have hb0 : (c.mode t).busy = 0 := by rw [hmode]; rfl
  have hlen := hj.evs.len
  have hevl := busy_le hn hm hok
  rw [← hj.evl] at hevl
  have hlog := log_le hn hm hok
  have happle := hok.app t ht
  have hmany : many ≠ 0 := by omega
  have hlm := hj.lm hmany t ht
  rw [if_neg (by omega)] at hlm
  have hnow := hj.now
  have hlst := lst_get (n := n) (many := many) (u := t) (k := c.fin t) (by omega)
  have hcix := callIx_lt (n := n) (many := many) ht hlt
  have hcall : ∀ r, r < 6 → (callsOf n many)[callIx n t (c.fin t) * 6 + r]? = (callCells t 0)[r]? := fun r hr => by
    rw [Nat.mul_comm, calls_get ht hlt hr, hfin]
  have hwl := words_len n c
  have hmo : mOf c t = .nili := by unfold mOf; rw [hmode]
  have hE : evsOf j = .nils := by unfold evsOf; rw [if_pos hev0]
  have happ := hlst
  have hw1 := words_get (n := n) (c := c) (i := t) (by omega)
  have hw0 : wordAt n c t = c.fin t / 3 := by
    unfold wordAt tal
    rw [if_pos ht]; omega
  have hev := way_tally0N t (by omega) (nc := 3 * n * many) (turn := .sint .i64 j.turn) (m := mOf c) (ats := fun u => .sint .i64 (j.ats u : Int)) (at1 := (j.ats t : Int)) (wd := .nils) (cn := fun i => .sint .i64 (j.cn i)) (idle := j.idle) (now := j.now) (inv := fun u => .sint .i64 (j.inv u)) (marks := markOf j) (lw := 2 * n + 65) (cnt := j.cnt) (n := (n : Int)) (words := wordsOf n c) (left := j.left) (lmap := j.lmap) (lst := lstOf n many t) (calls := callsOf n many) (lk := c.fin t) (ll := 3 * many - c.fin t) (lt := 3 * many) (call := ((callIx n t (c.fin t) : Nat) : Int)) (old := ((wordAt n c t : Nat) : Int))
  obtain ⟨s, hs, hpre, hnx', hwr, hrows⟩ := view_some hev
  have hP : s.pre := by
    rw [hpre]
    clear hev hpre hrows hs
    simp (disch := omega) only [wrap64, Nat.reduceAdd, Nat.zero_add, Nat.add_zero, Nat.mul_one, Int.toNat_natCast, room_eq, maxLen_eq]
    repeat' apply And.intro
    all_goals first
      | exact True.intro
      | exact Eq.refl true
      | exact hlm
      | omega
      | exact load1 hlst (by omega)
      | exact load1 hw1 (by omega)
      | exact load1 hstp (by omega)
      | exact load1 rl1 (by omega)
      | exact load6 hcall (by omega)
      | exact load1 ((happ _).trans rfl) (by omega)
      | (simp only [List.length_set, List.length_append, List.length_cons, List.length_nil]; omega)
      | (simp only [cmpI, decide_eq_true_eq, decide_eq_false_iff_not, beq_iff_eq, beq_eq_false_iff_ne, bne_iff_ne, bne_eq_false_iff_eq] <;> omega)
  refine (fit_call named mixed noSums_ok hs hP hfit (heap_ok hj) (hs_of (heap_ok hj) ?_) (by simp [AllL, AV.All])).mono ?_
  · rw [updA_self hmo, updA_self (f := fun u => AV.sint .i64 (j.ats u : Int)) (t := t) rfl, updA_self (f := markOf j) (t := t) rfl]
    exact cons_all (.same (heap0 hmany hE)) <| cons_all (.same heap1) <| cons_all (.same heap2) <| cons_all (.same heap3) <| cons_all (.same heap4) <| cons_all (.same heap5) <| cons_all (.same (heap16 ht hn hmany)) <| cons_all (.same heap9) <| cons_all (.same (heap7 hmany)) <| nil_all
  · rintro e' w' ⟨φ1, rfl, hφ, hfit', _⟩
    have h8 := get_of_names hrows 3 rfl rfl
    have hL := evs_one (n := n) (c := c) (c' := { c with mode := updA c.mode t (.tallied (c.fin t / 3)) }) (j := j) (φ := φ1) (call := ((callIx n t (c.fin t) : Nat) : Int)) (nw := IntKind.i64.wrap (j.now + 1)) hj.evs ht hev0 hb0 (by show (updA c.mode t (.tallied (c.fin t / 3)) t).busy = 1; rw [updA_eq, if_pos rfl]; rfl) (fun u hu => by show (updA c.mode t (.tallied (c.fin t / 3)) u).busy = _; rw [updA_eq, if_neg hu])
    have hmrow := get_of_names hrows 4 rfl rfl
    rw [hw0] at hmrow
    refine arr_start hn hmany ht hj hk (M := (.tallied (c.fin t / 3))) hmode rfl hφ (by intro b hb; simp only [List.mem_cons, List.not_mem_nil, or_false] at hb; omega) (mm := 101) ⟨by simp, by simp, by simp, by simp, by simp⟩ ⟨by omega, by omega⟩ hwr hfit' (turn' := (t : Int)) rfl (cnt := fun i => match i with | 0 => IntKind.i64.wrap (j.cnt 0 + 1) | i => j.cnt i) (a := IntKind.i64.wrap (j.now + 1)) (off := 0) (an := fun _ => 0)
      (get_of_names hrows 0 rfl rfl) (fun _ => by rw [hev0]; rfl) (by rw [hev0]; rfl) (get_of_names hrows 1 rfl rfl) (get_of_names hrows 2 rfl rfl) h8 (by rw [hev0]; exact hL.1) hL.2 (.inl ⟨c.fin t / 3, rfl, rfl, hmrow⟩) (.inl ⟨by simp, words_start hmode rfl⟩) (.inl ⟨by simp; omega, rfl⟩)

theorem step_univ0 {n many k : Nat} {c : Cf} {j : Jk} {φ : Phi} {w : World} {t : Nat} (hn : n ≤ 6) (hm : many ≤ 5) (ht : t < n) (hok : Ok n many c) (hj : JOk n many c j k) (hk : k ≤ 1000000) (hfit : FitH κ (heap n many c j) φ w)
    (hmode : c.mode t = .none) (hq : c.fin t % 3 = 2) (hlt : c.fin t < 3 * many) (hev0 : j.evl ≠ 0) :
    Calls Tryz.prog 22 #[conc φ (.ptr 0 0), .int .i64 (t : Int)] w (Goes κ n many k φ j.oth { c with mode := updA c.mode t (.act 1 (0, 0)) }) := by
  have hfin : c.fin t % 3 = 2 := hq
  have hb0 : (c.mode t).busy = 0 := by rw [hmode]; rfl
  have hlen := hj.evs.len
  have hevl := busy_le hn hm hok
  rw [← hj.evl] at hevl
  have hlog := log_le hn hm hok
  have happle := hok.app t ht
  have hmany : many ≠ 0 := by omega
  have hlm := hj.lm hmany t ht
  rw [if_neg (by omega)] at hlm
  have hnow := hj.now
  have hlst := lst_get (n := n) (many := many) (u := t) (k := c.fin t) (by omega)
  have hcix := callIx_lt (n := n) (many := many) ht hlt
  have hcall : ∀ r, r < 6 → (callsOf n many)[callIx n t (c.fin t) * 6 + r]? = (callCells t 2)[r]? := fun r hr => by
    rw [Nat.mul_comm, calls_get ht hlt hr, hfin]
  have hwl := words_len n c
  have hmo : mOf c t = .nili := by unfold mOf; rw [hmode]
  have hE : evsOf j = .soslice 8 8 0 0 j.evl j.evl := by unfold evsOf; rw [if_neg hev0]
  have happ : ∀ m : List AV, (j.evs ++ m)[j.evl * 8 + 3]? = m[3]? := fun m => by rw [List.getElem?_append_right (by omega), show j.evl * 8 + 3 - j.evs.length = 3 by omega]
  have hown : ownOf n t = .ptr (64 + t) 0 := by unfold ownOf; rw [if_pos ht]
  have hw1 := words_get (n := n) (c := c) (i := n + 1 + t) (by omega)
  have hal := hok.ann_le ht
  have hanne : c.ann t = c.fin t / 3 := by unfold Cf.ann; rw [hmode]; rfl
  have hpk : pack t ((c.ann t : Nat) : Int) = ((pk (t, c.fin t / 3 + 1) : Nat) : Int) := by rw [hanne]; exact pack_pk t (by omega) _ (by omega)
  have hann1 : IntKind.u64.wrap (((c.ann t : Nat) : Int) + (1 : Int)) = ((c.fin t / 3 + 1 : Nat) : Int) := by
    rw [wrapU (by omega) (by omega), hanne]; omega
  have hev := way_univ0 t (by omega) (nc := 3 * n * many) (turn := .sint .i64 j.turn) (m := mOf c) (ats := fun u => .sint .i64 (j.ats u : Int)) (at1 := (j.ats t : Int)) (wd := .nils) (cn := fun i => .sint .i64 (j.cn i)) (idle := j.idle) (now := j.now) (inv := fun u => .sint .i64 (j.inv u)) (marks := markOf j) (lw := 2 * n + 65) (cnt := j.cnt) (n := (n : Int)) (words := wordsOf n c) (evl := j.evl) (evs := j.evs) (left := j.left) (lmap := j.lmap) (lst := lstOf n many t) (calls := callsOf n many) (lk := c.fin t) (ll := 3 * many - c.fin t) (lt := 3 * many) (call := ((callIx n t (c.fin t) : Nat) : Int)) (old := ((wordAt n c (n + 1 + t) : Nat) : Int)) (own := ownOf n) (ann := ((c.ann t : Nat) : Int)) (app := ((c.app t : Nat) : Int)) (last := lastOf c t) (sv := j.sv t)
  obtain ⟨s, hs, hpre, hnx', hwr, hrows⟩ := view_some hev
  have hP : s.pre := by
    rw [hpre]
    clear hev hpre hrows hs
    simp (disch := omega) only [wrap64, Nat.reduceAdd, Nat.zero_add, Nat.add_zero, Nat.mul_one, Int.toNat_natCast, room_eq, maxLen_eq]
    repeat' apply And.intro
    all_goals first
      | exact True.intro
      | exact Eq.refl true
      | exact hlm
      | omega
      | exact load1 hlst (by omega)
      | exact load1 hw1 (by omega)
      | exact load1 hstp (by omega)
      | exact load1 rl1 (by omega)
      | exact load6 hcall (by omega)
      | exact load1 ((happ _).trans rfl) (by omega)
      | (simp only [List.length_set, List.length_append, List.length_cons, List.length_nil]; omega)
      | (simp only [cmpI, decide_eq_true_eq, decide_eq_false_iff_not, beq_iff_eq, beq_eq_false_iff_ne, bne_iff_ne, bne_eq_false_iff_eq] <;> omega)
  refine (fit_call named mixed noSums_ok hs hP hfit (heap_ok hj) (hs_of (heap_ok hj) ?_) (by simp [AllL, AV.All])).mono ?_
  · rw [updA_self hmo, updA_self (f := fun u => AV.sint .i64 (j.ats u : Int)) (t := t) rfl, updA_self (f := markOf j) (t := t) rfl, updA_self hown]
    exact cons_all (.same (heap0 hmany hE)) <| cons_all (.same heap1) <| cons_all (.same heap2) <| cons_all (.same heap3) <| cons_all (.same heap4) <| cons_all (.same heap5) <| cons_all (.same (heap16 ht hn hmany)) <| cons_all (.same (heap8 hev0)) <| cons_all (.same heap12) <| cons_all (.same (heap64 ht hn)) <| cons_all (.same (heap80 ht hn)) <| cons_all (.same heap9) <| cons_all (.same (heap7 hmany)) <| nil_all
  · rintro e' w' ⟨φ1, rfl, hφ, hfit', _⟩
    have h8 := get_of_names hrows 6 rfl rfl
    have hL := evs_app (n := n) (c := c) (c' := { c with mode := updA c.mode t (.act 1 (0, 0)) }) (j := j) (φ := φ1) (O := ((0 : Nat) + (j.evl : Int).toNat) * (8 : Nat) + (2 + (1 : Nat))) (y := IntKind.i64.wrap ((0 : Int) + (1 : Int))) (x := .int .i64 (IntKind.i64.wrap ((0 : Int) + (1 : Int)))) (call := ((callIx n t (c.fin t) : Nat) : Int)) (nw := IntKind.i64.wrap (j.now + 1)) hj.evs ht (by omega) (.inr rfl) hb0 (by show (updA c.mode t (.act 1 (0, 0)) t).busy = 1; rw [updA_eq, if_pos rfl]; rfl) (fun u hu => by show (updA c.mode t (.act 1 (0, 0)) u).busy = _; rw [updA_eq, if_neg hu])
    have hmrow := get_of_names hrows 7 rfl rfl
    rw [hpk] at hmrow
    have h3 := get_of_names hrows 3 rfl rfl
    rw [hpk, show ((0 : Nat) + (IntKind.i64.wrap ((n : Int) + (1 : Int) + (t : Int))).toNat) * (1 : Nat) = n + 1 + t by simp (disch := omega) only [wrap64]; omega] at h3
    have h64 := get_of_names hrows 5 rfl rfl
    rw [hann1] at h64
    refine arr_start hn hmany ht hj hk (M := (.act 1 (0, 0))) hmode rfl hφ (by intro b hb; simp only [List.mem_cons, List.not_mem_nil, or_false] at hb; omega) (mm := 104) ⟨by simp, by simp, by simp, by simp, by simp⟩ ⟨by omega, by omega⟩ hwr hfit' (turn' := (t : Int)) rfl (cnt := fun i => match i with | 1 => IntKind.i64.wrap (j.cnt 1 + 1) | i => j.cnt i) (a := IntKind.i64.wrap (j.now + 1)) (off := 0) (an := fun _ => 0)
      (get_of_names hrows 0 rfl rfl) (fun _ => rfl) rfl (get_of_names hrows 1 rfl rfl) (get_of_names hrows 2 rfl rfl) h8 hL.1 hL.2 (.inr ⟨rfl, rfl, hmrow⟩) (.inr ⟨by simp, h3.trans ?_⟩) (.inr ⟨by simp, h64⟩)
    · rw [words_set (c' := { c with mode := updA c.mode t (.act 1 (0, 0)) }) (by omega) ?_ ?_]
      · show ((pk (t, c.fin t / 3 + 1) : Nat) : Int) = _
        unfold wordAt
        rw [if_neg (by omega), if_neg (by omega), if_pos (by omega), show n + 1 + t - n - 1 = t by omega]
        have : ({ c with mode := updA c.mode t (.act 1 (0, 0)) } : Cf).ann t = c.fin t / 3 + 1 := by
          show c.fin t / 3 + (updA c.mode t (.act 1 (0, 0)) t).one = _
          rw [updA_eq, if_pos rfl]; rfl
        rw [this, if_neg (by omega)]
      · intro i hi hne'
        have hau : i < 2 * n + 1 → ¬ i < n → ¬ i = n → ({ c with mode := updA c.mode t (.act 1 (0, 0)) } : Cf).ann (i - n - 1) = c.ann (i - n - 1) := fun g1 g2 g3 => by
          show c.fin _ / 3 + (updA c.mode t (.act 1 (0, 0)) (i - n - 1)).one = _
          rw [updA_eq, if_neg (by omega)]; rfl
        unfold wordAt
        split
        · rfl
        split
        · rfl
        split
        · rename_i g1 g2 g3
          rw [hau g3 g1 g2]
        · rfl
end Ct
end Go.Proofs.YtpkfimijnkkbjaaGreat

namespace Go.Proofs.YtpkfimijnkkbjaaGreat
namespace Ct
open Ev

variable {κ : Keep}

/-- An operation that is not on the log has responded. -/
theorem arr_fin {n many k : Nat} {c : Cf} {j : Jk} {φ φ1 : Phi} {w' : World} {t : Nat} (hn : n ≤ 6) (ht : t < n) (hmany : many ≠ 0) (hlt : c.fin t < 3 * many) (hq : c.fin t % 3 ≠ 2) (hone : (c.mode t).one = 0) (hj : JOk n many c j k) (hk : k ≤ 1000000)
    (hφ : ∀ i, i < 96 → φ1 i = φ i) {s : St} {WR : List Nat} {e kk : Nat} (hWR : ∀ b, b ∈ WR → b = 0 ∨ b = 1 ∨ b = 2 ∨ b = 3 ∨ b = 4 ∨ b = 5 ∨ b = 8 ∨ b = 10 ∨ (96 ≤ b ∧ b < 128)) (hin : 0 ∈ WR ∧ 1 ∈ WR ∧ 2 ∈ WR ∧ 3 ∈ WR ∧ 4 ∈ WR ∧ 5 ∈ WR ∧ e ∈ WR) (he : e = 8 ∨ e = 98) (hkk : kk = 11 ∨ kk = 99)
    (hwr : ∀ b, b < 128 → (s.wr.testBit b = true ↔ b ∈ WR)) (hfit : FitH κ (after (heap n many c j) s) φ1 w')
    {turn : AV} {turn' : Int} (hturn : turn = .int .i64 turn') {cnt : Nat → Int} {A E : AV} {L : List AV} {invA : Nat → AV} {inv' : Nat → Int} {a' evl' : Nat} {left' : Int} {tr' : Bool} {trmap' : List (Int × AV)} {was' : List Int}
    (h0 : s.get 0 = some (.row false (PL (3 * n * many) turn (updA (mOf c) t .nili) (updA (fun u => .sint .i64 (j.ats u : Int)) t A) E .nils (fun i => .sint .i64 (j.cn i)) j.idle) 83 none))
    (hA : ∀ φ : Phi, conc φ A = .int .i64 (a' : Int)) (hE : conc φ1 E = conc φ1 (.soslice e 8 0 0 evl' evl')) (hevl0 : evl' ≠ 0)
    (h1 : s.get 1 = some (.row false (WL (IntKind.i64.wrap (j.now + (1 : Int))) invA (updA (markOf j) t .nils)) 92 none)) (hinv : ∀ (φ : Phi) u, conc φ (invA u) = .int .i64 (inv' u))
    (h2 : s.get 2 = some (.row false (ML (2 * n + 65) (2 * n + 65) cnt) 129 none))
    (h3 : s.get 3 = some (.row true (wordsOf n { c with mode := updA c.mode t .none, fin := updA c.fin t (c.fin t + 1) }) 40 (some 1)))
    (h4 : s.get 4 = some (.row false [.mapv 5, .sint .i64 left'] 113 none))
    (h5 : s.get 5 = some (.map true (putM (t : Int) (.soslice (16 + t) 1 (c.fin t + 1) (c.fin t) (3 * many - c.fin t - 1) (3 * many)) j.lmap)))
    (h8 : s.get e = some (.row true L 48 (some 8))) (hflat : ∀ v ∈ L, v.flat = true) (hL : EvsOk (L.map (kept φ1)) evl' (fun i => ∃ u, u < n ∧ (updA c.mode t .none u).busy = 1 ∧ updA j.ats t a' u = i)) (hevl : evl' + (c.mode t).busy = j.evl + 1)
    (h10 : (10 ∉ WR ∧ kk = 11 ∧ tr' = j.tr ∧ trmap' = j.trmap ∧ was' = j.was) ∨ (10 ∈ WR ∧ kk = 99 ∧ 99 ∈ WR ∧ tr' = true ∧ trmap' = [(0, .soslice 11 1 0 0 was'.length was'.length)] ∧ (∃ m10, s.get 10 = some (.map true m10) ∧ m10.map (pairOf φ1) = [(0, conc φ1 (.soslice 99 1 0 0 was'.length was'.length))]) ∧
      ∃ y l99, s.get 99 = some (.row y l99 3 (some 1)) ∧ concL φ1 l99 = was'.map (Value.int .i64)))
    (hwas : was'.length ≤ sumN n fun u => (updA c.fin t (c.fin t + 1) u + 2) / 3) :
    Goes κ n many k φ j.oth { c with mode := updA c.mode t .none, fin := updA c.fin t (c.fin t + 1) } (.returned (.bool true)) w' := by
  have hnow := hj.now
  subst hturn
  let c' : Cf := { c with mode := updA c.mode t .none, fin := updA c.fin t (c.fin t + 1) }
  let j' : Jk := { j with turn := turn', ats := updA j.ats t a', now := IntKind.i64.wrap (j.now + 1), inv := inv', cnt := cnt, evl := evl', evs := L.map (kept φ1), left := left', lmap := putM (t : Int) (nextCalls many t (c.fin t)) j.lmap, marks := updA j.marks t false, tr := tr', trmap := trmap', was := was' }
  have hmt : c'.mode t = .none := by show updA c.mode t _ t = _; rw [updA_eq, if_pos rfl]
  have hmu : ∀ u, u ≠ t → c'.mode u = c.mode u := fun u hu => by show updA c.mode t _ u = _; rw [updA_eq, if_neg hu]
  have hE' : evsOf j' = .soslice 8 8 0 0 evl' evl' := by
    show (if evl' = 0 then AV.nils else .soslice 8 8 0 0 evl' evl') = _
    rw [if_neg hevl0]
  have rlt : ∀ i, (i < 8 ∨ i = 9 ∨ i = 10 ∨ (11 < i ∧ i < 32) ∨ (64 ≤ i ∧ i < 80)) → rh t t e kk (32 + t) (80 + t) (48 + t) i = i := fun i h => rh_lt h (by omega) (by omega)
  have q : ∀ i, (i < 8 ∨ i = 9 ∨ i = 10 ∨ (11 < i ∧ i < 32) ∨ (64 ≤ i ∧ i < 80)) → φ1 (rh t t e kk (32 + t) (80 + t) (48 + t) i) = φ1 i := fun i h => by rw [rlt i h]
  have r48 : ∀ u, u < 16 → rh t t e kk (32 + t) (80 + t) (48 + t) (48 + u) = 48 + u := fun u hu => by
    by_cases h : u = t
    · rw [h, rh48 (by omega) (by omega)]
    · exact rh_mark hu (by omega) h
  have hmkw : ∀ u, u < 16 → conc φ1 (updA (markOf j) t .nils u) = conc (fun i => φ1 (rh t t e kk (32 + t) (80 + t) (48 + t) i)) (markOf j' u) := fun u hu => by
    rw [updA_eq]
    have hm' : markOf j' u = if (updA j.marks t false u) = true then .oslice (48 + u) 1 0 0 1 1 else .nils := by
      unfold markOf
      show (match updA j.marks t false u with | true => _ | false => _) = _
      cases updA j.marks t false u <;> rfl
    rw [hm', updA_eq]
    split
    · rfl
    · unfold markOf
      cases j.marks u
      · rfl
      · exact conc_os (by show φ1 (48 + u) = φ1 (rh t t e kk (32 + t) (80 + t) (48 + t) (48 + u)); rw [r48 u hu])
  have hag : Agree n t c c' j j' := ⟨hmu, fun u hu => by show updA c.fin t _ u = c.fin u; rw [updA_eq, if_neg hu], fun _ _ => rfl, fun _ _ _ => rfl, fun _ _ => rfl, fun _ _ => rfl, fun _ _ => rfl, rfl⟩
  have hannt : c'.ann t = c.ann t := by
    show updA c.fin t (c.fin t + 1) t / 3 + (c'.mode t).one = c.fin t / 3 + (c.mode t).one
    rw [hmt, hone, updA_eq, if_pos rfl]; simp only [Mode.one]; omega
  have hlast : lastOf c' t = lastOf c t := last_congr rfl rfl
  have keep : ∀ b, b ≠ 0 → b ≠ 1 → b ≠ 8 → (b = 10 ∨ b = 11 → kk = 11) → (b < 12 ∨ b = 64 + t ∨ b = 80 + t) → b ∉ WR → heap n many c' j' b = heap n many c j b → ∀ o', heap n many c' j' b = some o' → ∃ o, heap n many c j b = some o ∧ b ∉ WR ∧ rh t t e kk (32 + t) (80 + t) (48 + t) b = b ∧ Same φ1 (fun i => φ1 (rh t t e kk (32 + t) (80 + t) (48 + t) i)) o o' := by
    intro b b0 b1 b8 b10 b12 hbw he o' ho'
    rw [he] at ho'
    have rb : rh t t e kk (32 + t) (80 + t) (48 + t) b = b := by
      by_cases h : b = 11
      · rw [h, rh11]; exact b10 (.inr h)
      · by_cases h2 : b = 80 + t
        · rw [h2, rh80 (by omega)]
        · exact rlt b (by omega)
    exact ⟨o', ho', hbw, rb, same_keep hj ho' ⟨b0, b1⟩ (fun h => b10 (.inl h)) (fun _ => rfl) (by omega) (by omega)⟩
  have nin : ∀ b, b < 96 → b ≠ 0 → b ≠ 1 → b ≠ 2 → b ≠ 3 → b ≠ 4 → b ≠ 5 → b ≠ 8 → b ≠ 10 → b ∉ WR := fun b g1 g2 g3 g4 g5 g6 g7 g8 g9 hb => by have := hWR b hb; omega
  refine ⟨fun i => φ1 (rh t t e kk (32 + t) (80 + t) (48 + t) i), j', true, rfl, ?_, arrive (t := t) (WR := WR) hj hag (by omega) hwr (fun b hb => by have := hWR b hb; omega) hfit (rh_ok (by omega) (by omega) (by omega) (by omega) (by omega) (by omega) (by omega)) (rh_inj (by omega) (by omega) (by omega) (by omega) (by omega) (by omega) (by omega) (by omega)) ?_, ?_, rfl⟩
  · intro i hi
    show φ1 (rh _ _ _ _ _ _ _ i) = φ i
    rw [rlt i (by omega)]; exact hφ i (by omega)
  · intro b hb o' ho'
    rcases hb with rfl | rfl | rfl | rfl | rfl | rfl | rfl | rfl | rfl | rfl | rfl | rfl
    · refine .inl ⟨_, by rw [rlt 0 (by omega)]; exact h0, by rw [rlt 0 (by omega)]; exact hin.1, ?_⟩
      obtain rfl := Option.some.inj ((heap0 hmany hE').symm.trans ho')
      refine pl_same (q 1 (by omega)) (q 9 (by omega)) (q 7 (by omega)) (q 4 (by omega)) hmu (fun u hu hne => by show φ1 (rh t t e kk (32 + t) (80 + t) (48 + t) (32 + u)) = φ1 (32 + u); rw [rh_mach hu (by omega) hne (by omega)]) ?_ (hA _) ?_ rfl (fun _ _ _ => rfl)
      · have hm2 : mOf c' t = .nili := by unfold mOf; rw [hmt]
        rw [hm2]; rfl
      · rw [hE]; exact conc_sos (by show φ1 e = φ1 (rh t t e kk (32 + t) (80 + t) (48 + t) 8); rw [rh8])
    · refine .inl ⟨_, by rw [rlt 1 (by omega)]; exact h1, by rw [rlt 1 (by omega)]; exact hin.2.1, ?_⟩
      obtain rfl := Option.some.inj (heap1.symm.trans ho')
      exact wl_same (q 2 (by omega)) (q 10 (by omega)) (fun u _ => by rw [hinv]; rfl) hmkw
    · refine .inl ⟨_, by rw [rlt 2 (by omega)]; exact h2, by rw [rlt 2 (by omega)]; exact hin.2.2.1, ?_⟩
      obtain rfl := Option.some.inj (heap2.symm.trans ho')
      refine ⟨?_, rfl, rfl⟩
      unfold ML
      rw [concL, concL, conc_sos (show φ1 3 = (fun i => φ1 (rh t t e kk (32 + t) (80 + t) (48 + t) i)) 3 from (q 3 (by omega)).symm)]
      rfl
    · refine .inl ⟨_, by rw [rlt 3 (by omega)]; exact h3, by rw [rlt 3 (by omega)]; exact hin.2.2.2.1, ?_⟩
      obtain rfl := Option.some.inj (heap3.symm.trans ho')
      exact ⟨ints_same _ _ _, rfl, rfl⟩
    · refine .inl ⟨_, by rw [rlt 4 (by omega)]; exact h4, by rw [rlt 4 (by omega)]; exact hin.2.2.2.2.1, ?_⟩
      obtain rfl := Option.some.inj (heap4.symm.trans ho')
      refine ⟨?_, rfl, rfl⟩
      simp only [concL, conc]
      rw [rlt 5 (by omega)]
    · refine .inl ⟨_, by rw [rlt 5 (by omega)]; exact h5, by rw [rlt 5 (by omega)]; exact hin.2.2.2.2.2.1, ?_⟩
      obtain rfl := Option.some.inj (heap5.symm.trans ho')
      refine putM_pairs (next_conc (by show φ1 (16 + t) = φ1 (rh t t e kk (32 + t) (80 + t) (48 + t) (16 + t)); rw [rlt (16 + t) (by omega)])) fun p hp => ?_
      refine (conc_congr (D := fun i => 16 ≤ i ∧ i < 32) (fun i hi => ?_) (hj.lmall p hp)).symm
      show φ1 (rh t t e kk (32 + t) (80 + t) (48 + t) i) = φ1 i
      rw [rlt i (by omega)]
    · refine .inl ⟨_, by rw [rh8]; exact h8, by rw [rh8]; exact hin.2.2.2.2.2.2, ?_⟩
      obtain rfl := Option.some.inj ((heap8 (j := j') hevl0).symm.trans ho')
      exact ⟨(concL_kept hflat).symm, rfl, rfl⟩
    · rcases h10 with ⟨g1, g2, g3, g4, g5⟩ | ⟨g1, g2, g3, g4, g5, ⟨m10, g6, g7⟩, _⟩
      · refine .inr (keep 10 (by omega) (by omega) (by omega) (fun _ => g2) (by omega) g1 ?_ o' ho')
        rw [heap10, heap10]
        show some (AObj.map true trmap') = _
        rw [g4]
      · refine .inl ⟨_, by rw [rlt 10 (by omega)]; exact g6, by rw [rlt 10 (by omega)]; exact g1, ?_⟩
        obtain rfl := Option.some.inj (heap10.symm.trans ho')
        show m10.map (pairOf φ1) = trmap'.map _
        rw [g7, g5]
        show [((0 : Int), conc φ1 (.soslice 99 1 0 0 was'.length was'.length))] = [((0 : Int), conc _ (.soslice 11 1 0 0 was'.length was'.length))]
        exact congrArg (fun x => [((0 : Int), x)]) (conc_sos (by show φ1 99 = φ1 (rh t t e kk (32 + t) (80 + t) (48 + t) 11); rw [rh11, g2]))
    · rcases h10 with ⟨g1, g2, g3, g4, g5⟩ | ⟨g1, g2, g3, g4, g5, _, y, l99, g6, g7⟩
      · refine .inr (keep 11 (by omega) (by omega) (by omega) (fun _ => g2) (by omega) (nin _ (by omega) (by omega) (by omega) (by omega) (by omega) (by omega) (by omega) (by omega) (by omega)) ?_ o' ho')
        rw [heap_fix (by omega), heap_fix (by omega)]
        show (if tr' = true then some (AObj.row true (was'.map fun x => AV.sint .i64 x) 3 (some 1)) else none) = _
        rw [g3, g5]; rfl
      · refine .inl ⟨_, by rw [rh11, g2]; exact g6, by rw [rh11, g2]; exact g3, ?_⟩
        obtain rfl := Option.some.inj ((heap11 (j := j') g4).symm.trans ho')
        refine ⟨?_, rfl, rfl⟩
        rw [g7, concL_eq, List.map_map]
        rfl
    · have hm32 : machOf n c' j' t = none := by unfold machOf; rw [hmt]
      rw [heap32 ht hn, hm32] at ho'
      cases ho'
    · refine .inr (keep _ (by omega) (by omega) (by omega) (by omega) (by omega) (nin _ (by omega) (by omega) (by omega) (by omega) (by omega) (by omega) (by omega) (by omega) (by omega)) ?_ o' ho')
      rw [heap64 ht hn, heap64 ht hn, hlast, hannt]
    · refine .inr (keep _ (by omega) (by omega) (by omega) (by omega) (by omega) (nin _ (by omega) (by omega) (by omega) (by omega) (by omega) (by omega) (by omega) (by omega) (by omega)) ?_ o' ho')
      rw [heap80 ht hn, heap80 ht hn]
  · have hnw : IntKind.i64.wrap (j.now + 1) = j.now + 1 := wrap64 (by omega) (by omega)
    refine JOk.fin hj hn ht hmany hlt hk rfl rfl hnw hevl hL (fun u hu => by show updA j.ats t a' u = _; rw [updA_eq, if_neg hu]) rfl ?_ ?_ hwas (fun _ _ => rfl) ?_ rfl
    · intro h
      rcases h10 with ⟨g1, g2, g3, g4, g5⟩ | ⟨g1, g2, g3, g4, g5, _⟩
      · show trmap' = []
        rw [g4]; exact hj.tr0 (by rw [← g3]; exact h)
      · have h' : tr' = false := h
        rw [g4] at h'; cases h'
    · intro h
      rcases h10 with ⟨g1, g2, g3, g4, g5⟩ | ⟨g1, g2, g3, g4, g5, _⟩
      · show trmap' = [(0, .soslice 11 1 0 0 was'.length was'.length)]
        rw [g4, g5]; exact hj.tr1 (by rw [← g3]; exact h)
      · exact g5
    · intro u v hne hu hv
      show updA j.marks t false u = false
      rw [updA_eq, if_neg hne]; exact hj.mark u v hu hv
end Ct
end Go.Proofs.YtpkfimijnkkbjaaGreat
