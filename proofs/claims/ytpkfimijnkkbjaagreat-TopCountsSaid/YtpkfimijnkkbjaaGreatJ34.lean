/-
  Steps of the counting play in which a tally responds (printed by gen_cts3.py).
-/
import Derived.Test.YtpkfimijnkkbjaaGreatJ32
import Derived.Test.YtpkfimijnkkbjaaGreatJ33
set_option linter.unusedVariables false
namespace Go.Proofs.YtpkfimijnkkbjaaGreat
namespace Ct
open Ev

variable {κ : Keep}

theorem sumN_ge {f : Nat → Nat} {t : Nat} : ∀ {n : Nat}, t < n → f t ≤ sumN n f
  | 0, h => by omega
  | n + 1, h => by
    unfold sumN
    by_cases e : t = n
    · subst e; omega
    · have := sumN_ge (f := f) (t := t) (n := n) (by omega); omega
/-- The words where a thread has counted. -/
theorem words_tally {n t v : Nat} {c : Cf} {x : Int} (hmode : c.mode t = .tallied v) (hq : c.fin t % 3 = 0) (ht : t < n) (hv : v = c.fin t / 3) (hx : x = (v : Int) + 1) :
    (wordsOf n c).set t (.sint .u64 x) = wordsOf n { c with mode := updA c.mode t .none, fin := updA c.fin t (c.fin t + 1) } := by
  have hann : ∀ u, ({ c with mode := updA c.mode t .none, fin := updA c.fin t (c.fin t + 1) } : Cf).ann u = c.ann u := fun u => by
    show updA c.fin t (c.fin t + 1) u / 3 + (updA c.mode t .none u).one = c.fin u / 3 + (c.mode u).one
    rw [updA_eq, updA_eq]; split
    · rename_i e; rw [e, hmode]; simp only [Mode.one]; omega
    · rfl
  refine words_set (by omega) ?_ ?_
  · unfold wordAt tal
    rw [if_pos ht]
    show x = (((updA c.fin t (c.fin t + 1) t + 2) / 3 : Nat) : Int)
    rw [updA_eq, if_pos rfl]; omega
  · intro i hi hne
    unfold wordAt
    split
    · show (updA c.fin t (c.fin t + 1) i + 2) / 3 = (c.fin i + 2) / 3
      rw [updA_eq, if_neg hne]
    split
    · refine sumN_congr n fun u _ => ?_
      show (updA c.fin t (c.fin t + 1) u + 1) / 3 = (c.fin u + 1) / 3
      rw [updA_eq]; split
      · rename_i e; rw [e]; omega
      · rfl
    split
    · simp only [hann]
    · rfl
/-- The words where a thread has added. -/
theorem words_adder {n t : Nat} {c : Cf} (hmode : c.mode t = .none) (hq : c.fin t % 3 = 1) (ht : t < n) :
    (wordsOf n c).set n (.sint .u64 (((wordAt n c n : Nat) : Int) + 1)) = wordsOf n { c with mode := updA c.mode t .none, fin := updA c.fin t (c.fin t + 1) } := by
  have hann : ∀ u, ({ c with mode := updA c.mode t .none, fin := updA c.fin t (c.fin t + 1) } : Cf).ann u = c.ann u := fun u => by
    show updA c.fin t (c.fin t + 1) u / 3 + (updA c.mode t .none u).one = c.fin u / 3 + (c.mode u).one
    rw [updA_eq, updA_eq]; split
    · rename_i e; rw [e, hmode]; simp only [Mode.one]; omega
    · rfl
  refine words_set (by omega) ?_ ?_
  · unfold wordAt
    rw [if_neg (by omega), if_pos rfl, if_neg (by omega), if_pos rfl]
    have h1 := sumN_upd (fun u => (c.fin u + 1) / 3) t ((c.fin t + 1 + 1) / 3) n ht
    show ((sumN n (fun u => (c.fin u + 1) / 3) : Nat) : Int) + 1 = ((sumN n (fun u => (updA c.fin t (c.fin t + 1) u + 1) / 3) : Nat) : Int)
    rw [sumN_congr (f := fun u => (updA c.fin t (c.fin t + 1) u + 1) / 3) (g := updA (fun u => (c.fin u + 1) / 3) t ((c.fin t + 1 + 1) / 3)) n (fun u _ => by simp only [updA_eq]; split <;> rfl)]
    omega
  · intro i hi hne
    unfold wordAt
    split
    · unfold tal
      show (updA c.fin t (c.fin t + 1) i + 2) / 3 = (c.fin i + 2) / 3
      rw [updA_eq]; split
      · rename_i e; rw [e]; omega
      · rfl
    split
    · simp only [hann]
    · rfl
theorem ticks_eq {was : List Int} {x : Int} {z : AV} : List.take (was.length + 1) (List.drop 0 ((List.take 0 (List.replicate (was.length + 1) z) ++ List.take was.length (List.drop 0 (was.map fun x => AV.sint .i64 x)) ++ List.drop (List.take was.length (List.drop 0 (was.map fun x => AV.sint .i64 x))).length (List.replicate (was.length + 1) z)).set was.length (AV.sint .i64 x))) = (was.map fun x => AV.sint .i64 x) ++ [AV.sint .i64 x] := by
  have h1 : List.take was.length (was.map fun x => AV.sint .i64 x) = was.map fun x => AV.sint .i64 x := List.take_of_length_le (by simp)
  rw [List.drop_zero, List.drop_zero, h1, List.take_zero, List.nil_append, List.length_map, List.drop_replicate, show was.length + 1 - was.length = 1 by omega]
  rw [List.set_append_right _ _ (by simp), List.length_map, Nat.sub_self]
  refine List.take_of_length_le ?_
  simp

theorem step_tally1 {n many k : Nat} {c : Cf} {j : Jk} {φ : Phi} {w : World} {t : Nat} (hn : n ≤ 6) (hm : many ≤ 5) (ht : t < n) (hok : Ok n many c) (hj : JOk n many c j k) (hk : k ≤ 1000000) (hfit : FitH κ (heap n many c j) φ w)
    {v : Nat} (hmode : c.mode t = .tallied v) (htr : j.tr = true) :
    Calls Tryz.prog 22 #[conc φ (.ptr 0 0), .int .i64 (t : Int)] w (Goes κ n many k φ j.oth { c with mode := updA c.mode t .none, fin := updA c.fin t (c.fin t + 1) }) := by
  obtain ⟨hfin, hlt, hv⟩ := hok.tal t v ht hmode
  have hbusy : (c.mode t).busy = 1 := by rw [hmode]; rfl
  have hat := hj.ats t ht hbusy
  obtain ⟨stp, hstp⟩ := hj.evs.stp _ hat
  obtain ⟨rsp, hrsp, _⟩ := hj.evs.rsp _ hat
  have hlen := hj.evs.len
  have hevl := busy_le hn hm hok
  rw [← hj.evl] at hevl
  have hmany : many ≠ 0 := by omega
  have hlm := hj.lm hmany t ht
  rw [if_neg (by omega)] at hlm
  have hnow := hj.now
  have hlst := lst_get (n := n) (many := many) (u := t) (k := c.fin t) (by omega)
  have hwl := words_len n c
  have hw1 := words_get (n := n) (c := c) (i := t) (by omega)
  have hmo : mOf c t = .iface 231 (.ptr (32 + t) 0) := by unfold mOf; rw [hmode]
  have hev0 : j.evl ≠ 0 := by omega
  have hE : evsOf j = .soslice 8 8 0 0 j.evl j.evl := by unfold evsOf; rw [if_neg hev0]
  have hmach : machOf n c j t = some (.row false [.int .i64 0, .sint .i64 n, .int .i64 t, .sint .u64 (v : Nat), .bool true] 233 none) := by unfold machOf; rw [hmode]
  have hmk' : markOf j t = .nils := by unfold markOf; rw [hj.mark t v ht hmode]
  have hwl2 : j.was.length ≤ 30 := by
    refine Nat.le_trans hj.was (Nat.le_trans (sumN_le n (g := fun _ => 5) fun u hu => ?_) ?_)
    · have := hok.fin u hu; omega
    · rw [sumN_const]; omega
  have hwf : ∀ v ∈ (j.was.map fun x => AV.sint .i64 x), v.flat = true := fun v hv => by
    obtain ⟨x, _, rfl⟩ := List.mem_map.1 hv; rfl
  have hfm : findM (0 : Int) j.trmap = some (.soslice 11 1 0 0 j.was.length j.was.length) := by rw [hj.tr1 htr]; rfl
  have hW : (IntKind.i64.wrap ((j.was.length : Int) + (1 : Int))).toNat = j.was.length + 1 := by rw [wrap64 (by omega) (by omega)]; omega
  have hcall := hlst
  have happ := hlst
  have hev := way_tally1 t (by omega) (nc := 3 * n * many) (turn := .sint .i64 j.turn) (m := mOf c) (ats := fun u => .sint .i64 (j.ats u : Int)) (at1 := (j.ats t : Int)) (wd := .nils) (cn := fun i => .sint .i64 (j.cn i)) (idle := j.idle) (now := j.now) (inv := fun u => .sint .i64 (j.inv u)) (marks := markOf j) (lw := 2 * n + 65) (cnt := j.cnt) (n := (n : Int)) (v := ((v : Nat) : Int)) (words := wordsOf n c) (evl := j.evl) (evs := j.evs) (left := j.left) (lmap := j.lmap) (lst := lstOf n many t) (trmap := j.trmap) (was := j.was.map fun x => .sint .i64 x) (wlen := j.was.length) (lk := c.fin t) (ll := 3 * many - c.fin t) (lt := 3 * many) (call := ((callIx n t (c.fin t) : Nat) : Int)) (old := ((wordAt n c t : Nat) : Int)) (stp := stp)
  obtain ⟨s, hs, hpre, hnx', hwr, hrows⟩ := view_some hev
  have hP : s.pre := by
    rw [hpre]
    clear hev hpre hrows hs
    simp only [hW]
    simp (disch := omega) only [wrap64, Nat.reduceAdd, Nat.zero_add, Nat.add_zero, Nat.mul_one, Int.toNat_natCast, room_eq, maxLen_eq]
    repeat' apply And.intro
    all_goals first
      | exact True.intro
      | exact Eq.refl true
      | exact hlm
      | omega
      | exact load1 hlst (by omega)
      | exact load1 hw1 (by omega)
      | exact load1 hstp (by omega)
      | exact load1 rl1 (by omega)
      | exact load6 hcall (by omega)
      | exact load1 ((happ _).trans rfl) (by omega)
      | exact hfm
      | exact fun v hv => hwf v (List.mem_of_mem_drop (List.mem_of_mem_take hv))
      | (simp only [List.length_set, List.length_append, List.length_take, List.length_drop, List.length_replicate, List.length_map, AV.cells, List.length_cons, List.length_nil]; omega)
      | exact load1 (get_self (by simp only [List.length_set, List.length_append, List.length_take, List.length_drop, List.length_replicate, List.length_map, AV.cells, List.length_cons, List.length_nil]; omega)) (by omega)
      | exact load1 (get_ne_self (by simp only [List.length_set, List.length_append, List.length_take, List.length_drop, List.length_replicate, List.length_map, AV.cells, List.length_cons, List.length_nil]; omega) (by omega)) (by omega)
      | (simp only [cmpI, decide_eq_true_eq, decide_eq_false_iff_not, beq_iff_eq, beq_eq_false_iff_ne, bne_iff_ne, bne_eq_false_iff_eq] <;> omega)
  refine (fit_call named mixed noSums_ok hs hP hfit (heap_ok hj) (hs_of (heap_ok hj) ?_) (by simp [AllL, AV.All])).mono ?_
  · rw [updA_self hmo, updA_self (f := fun u => AV.sint .i64 (j.ats u : Int)) (t := t) rfl, updA_self hmk']
    exact cons_all (.same (heap0 hmany hE)) <| cons_all (.same heap1) <| cons_all (.same heap2) <| cons_all (.same heap3) <| cons_all (.same heap4) <| cons_all (.same heap5) <| cons_all (.same (heap16 ht hn hmany)) <| cons_all (.same (heap8 hev0)) <| cons_all (.same ((heap32 ht hn).trans hmach)) <| cons_all (.same heap10) <| cons_all (.same (heap11 htr)) <| nil_all
  · rintro e' w' ⟨φ1, rfl, hφ, hfit', _⟩
    have hnw : IntKind.i64.wrap (j.now + 1) = j.now + 1 := wrap64 (by omega) (by omega)
    have h8 := get_of_names hrows 6 rfl rfl
    rw [hnw] at h8
    have h3 := get_of_names hrows 3 rfl rfl
    rw [show ((0 : Nat) + (IntKind.i64.wrap ((0 : Int) + (t : Int))).toNat) * (1 : Nat) = t by simp (disch := omega) only [wrap64]; omega, wrapU (by omega) (by omega), words_tally hmode hfin ht (by omega) (by omega)] at h3
    have hM : ∀ L, s.get 8 = some (.row true L 48 (some 8)) → Mid j.evs (((0 : Nat) + (j.ats t : Int).toNat) * (8 : Nat)) (.sint .i64 (IntKind.i64.wrap (stp + 1))) (.sint .i64 (j.now + 1)) L := fun L hL => by
      have := Option.some.inj (hL.symm.trans h8)
      injection this with _ this
      subst this
      exact .key (.key (.resp (.key (.cells (.start (by omega) (fun v hv => (hj.evs.all v hv).1) (r := .sint .i64 rsp) (by rw [show ((0 : Nat) + (j.ats t : Int).toNat) * (8 : Nat) + 2 = 8 * j.ats t + 2 by omega]; exact hrsp) rfl) rfl (by simp [AV.cells, AV.flat])) rfl) rfl) (by rw [updA_eq, if_pos rfl]; rfl)) rfl
    have h10 := get_of_names hrows 7 rfl rfl
    have h99 := get_of_names hrows 9 rfl rfl
    rw [hW, hj.tr1 htr] at h10
    rw [hW] at h99
    simp only [Int.toNat_natCast, Nat.zero_add, Nat.zero_mul, Nat.mul_one, Nat.reduceAdd] at h99
    rw [ticks_eq] at h99
    refine arr_fin hn ht hmany hlt (by omega) (by rw [hmode]; rfl) hj hk hφ (e := 8) (kk := 99) (by intro b hb; simp only [List.mem_cons, List.not_mem_nil, or_false] at hb; omega) ⟨by simp, by simp, by simp, by simp, by simp, by simp, by simp⟩ (.inl rfl) (.inr rfl) hwr hfit' (turn' := (t : Int)) rfl (cnt := fun i => match i with | 1 => IntKind.i64.wrap (j.cnt 1 + 1) | i => j.cnt i) (inv' := j.inv) (a' := j.ats t) (evl' := j.evl) (tr' := true) (was' := j.was ++ [IntKind.i64.wrap (j.now + 1)])
      (get_of_names hrows 0 rfl rfl) (fun _ => rfl) rfl hev0 (get_of_names hrows 1 rfl rfl) (fun _ _ => rfl) (get_of_names hrows 2 rfl rfl) h3 (get_of_names hrows 4 rfl rfl) (get_of_names hrows 5 rfl rfl) h8 (hM _ h8).flat ?_ (by rw [hbusy])
      (.inr ⟨by simp, rfl, by simp, rfl, rfl, ⟨_, h10, ?_⟩, _, _, h99, ?_⟩) ?_
    · rw [show updA j.ats t (j.ats t) = j.ats from updA_self rfl]
      refine (hM _ h8).done (may := fun i => ∃ u, u < n ∧ (c.mode u).busy = 1 ∧ j.ats u = i) (at1 := j.ats t) (by omega) (by omega) (.inl rfl) hlen (fun i hi _ => ?_) (fun i hi _ => ?_) ?_
      · obtain ⟨s, h⟩ := hj.evs.stp i hi; exact ⟨s, .inl h⟩
      · obtain ⟨r, h, h'⟩ := hj.evs.rsp i hi; exact ⟨r, .inl h, h'⟩
      · rintro i hne ⟨u, hu, hb, hi⟩
        refine ⟨u, hu, ?_, hi⟩
        rw [updA_eq, if_neg (fun e => hne (by rw [← hi, e]))]; exact hb
    · rw [List.length_append, List.length_singleton]
      rfl
    · rw [concL_append, List.map_append, concL_eq, List.map_map]
      rfl
    · have h1 := sumN_upd (fun u => (c.fin u + 2) / 3) t ((c.fin t + 1 + 2) / 3) n ht
      have h2 := hj.was
      rw [sumN_congr (f := fun u => (updA c.fin t (c.fin t + 1) u + 2) / 3) (g := updA (fun u => (c.fin u + 2) / 3) t ((c.fin t + 1 + 2) / 3)) n (fun u _ => by simp only [updA_eq]; split <;> rfl)]
      rw [List.length_append, List.length_singleton]
      omega

theorem step_tally1N {n many k : Nat} {c : Cf} {j : Jk} {φ : Phi} {w : World} {t : Nat} (hn : n ≤ 6) (hm : many ≤ 5) (ht : t < n) (hok : Ok n many c) (hj : JOk n many c j k) (hk : k ≤ 1000000) (hfit : FitH κ (heap n many c j) φ w)
    {v : Nat} (hmode : c.mode t = .tallied v) (htr : j.tr = false) :
    Calls Tryz.prog 22 #[conc φ (.ptr 0 0), .int .i64 (t : Int)] w (Goes κ n many k φ j.oth { c with mode := updA c.mode t .none, fin := updA c.fin t (c.fin t + 1) }) := by
  obtain ⟨hfin, hlt, hv⟩ := hok.tal t v ht hmode
  have hbusy : (c.mode t).busy = 1 := by rw [hmode]; rfl
  have hat := hj.ats t ht hbusy
  obtain ⟨stp, hstp⟩ := hj.evs.stp _ hat
  obtain ⟨rsp, hrsp, _⟩ := hj.evs.rsp _ hat
  have hlen := hj.evs.len
  have hevl := busy_le hn hm hok
  rw [← hj.evl] at hevl
  have hmany : many ≠ 0 := by omega
  have hlm := hj.lm hmany t ht
  rw [if_neg (by omega)] at hlm
  have hnow := hj.now
  have hlst := lst_get (n := n) (many := many) (u := t) (k := c.fin t) (by omega)
  have hwl := words_len n c
  have hw1 := words_get (n := n) (c := c) (i := t) (by omega)
  have hmo : mOf c t = .iface 231 (.ptr (32 + t) 0) := by unfold mOf; rw [hmode]
  have hev0 : j.evl ≠ 0 := by omega
  have hE : evsOf j = .soslice 8 8 0 0 j.evl j.evl := by unfold evsOf; rw [if_neg hev0]
  have hmach : machOf n c j t = some (.row false [.int .i64 0, .sint .i64 n, .int .i64 t, .sint .u64 (v : Nat), .bool true] 233 none) := by unfold machOf; rw [hmode]
  have hmk' : markOf j t = .nils := by unfold markOf; rw [hj.mark t v ht hmode]
  have hwl2 : j.was.length ≤ 30 := by
    refine Nat.le_trans hj.was (Nat.le_trans (sumN_le n (g := fun _ => 5) fun u hu => ?_) ?_)
    · have := hok.fin u hu; omega
    · rw [sumN_const]; omega
  have hwf : ∀ v ∈ (j.was.map fun x => AV.sint .i64 x), v.flat = true := fun v hv => by
    obtain ⟨x, _, rfl⟩ := List.mem_map.1 hv; rfl
  have hfm : findM (0 : Int) j.trmap = none := by rw [hj.tr0 htr]; rfl
  have hcall := hlst
  have happ := hlst
  have hev := way_tally1N t (by omega) (nc := 3 * n * many) (turn := .sint .i64 j.turn) (m := mOf c) (ats := fun u => .sint .i64 (j.ats u : Int)) (at1 := (j.ats t : Int)) (wd := .nils) (cn := fun i => .sint .i64 (j.cn i)) (idle := j.idle) (now := j.now) (inv := fun u => .sint .i64 (j.inv u)) (marks := markOf j) (lw := 2 * n + 65) (cnt := j.cnt) (n := (n : Int)) (v := ((v : Nat) : Int)) (words := wordsOf n c) (evl := j.evl) (evs := j.evs) (left := j.left) (lmap := j.lmap) (lst := lstOf n many t) (trmap := j.trmap) (lk := c.fin t) (ll := 3 * many - c.fin t) (lt := 3 * many) (call := ((callIx n t (c.fin t) : Nat) : Int)) (old := ((wordAt n c t : Nat) : Int)) (stp := stp)
  obtain ⟨s, hs, hpre, hnx', hwr, hrows⟩ := view_some hev
  have hP : s.pre := by
    rw [hpre]
    clear hev hpre hrows hs
    skip
    simp (disch := omega) only [wrap64, Nat.reduceAdd, Nat.zero_add, Nat.add_zero, Nat.mul_one, Int.toNat_natCast, room_eq, maxLen_eq]
    repeat' apply And.intro
    all_goals first
      | exact True.intro
      | exact Eq.refl true
      | exact hlm
      | omega
      | exact load1 hlst (by omega)
      | exact load1 hw1 (by omega)
      | exact load1 hstp (by omega)
      | exact load1 rl1 (by omega)
      | exact load6 hcall (by omega)
      | exact load1 ((happ _).trans rfl) (by omega)
      | exact hfm
      | exact fun v hv => hwf v (List.mem_of_mem_drop (List.mem_of_mem_take hv))
      | (simp only [List.length_set, List.length_append, List.length_take, List.length_drop, List.length_replicate, List.length_map, AV.cells, List.length_cons, List.length_nil]; omega)
      | exact load1 (get_self (by simp only [List.length_set, List.length_append, List.length_take, List.length_drop, List.length_replicate, List.length_map, AV.cells, List.length_cons, List.length_nil]; omega)) (by omega)
      | exact load1 (get_ne_self (by simp only [List.length_set, List.length_append, List.length_take, List.length_drop, List.length_replicate, List.length_map, AV.cells, List.length_cons, List.length_nil]; omega) (by omega)) (by omega)
      | (simp only [cmpI, decide_eq_true_eq, decide_eq_false_iff_not, beq_iff_eq, beq_eq_false_iff_ne, bne_iff_ne, bne_eq_false_iff_eq] <;> omega)
  refine (fit_call named mixed noSums_ok hs hP hfit (heap_ok hj) (hs_of (heap_ok hj) ?_) (by simp [AllL, AV.All])).mono ?_
  · rw [updA_self hmo, updA_self (f := fun u => AV.sint .i64 (j.ats u : Int)) (t := t) rfl, updA_self hmk']
    exact cons_all (.same (heap0 hmany hE)) <| cons_all (.same heap1) <| cons_all (.same heap2) <| cons_all (.same heap3) <| cons_all (.same heap4) <| cons_all (.same heap5) <| cons_all (.same (heap16 ht hn hmany)) <| cons_all (.same (heap8 hev0)) <| cons_all (.same ((heap32 ht hn).trans hmach)) <| cons_all (.same heap10) <| nil_all
  · rintro e' w' ⟨φ1, rfl, hφ, hfit', _⟩
    have hnw : IntKind.i64.wrap (j.now + 1) = j.now + 1 := wrap64 (by omega) (by omega)
    have h8 := get_of_names hrows 6 rfl rfl
    rw [hnw] at h8
    have h3 := get_of_names hrows 3 rfl rfl
    rw [show ((0 : Nat) + (IntKind.i64.wrap ((0 : Int) + (t : Int))).toNat) * (1 : Nat) = t by simp (disch := omega) only [wrap64]; omega, wrapU (by omega) (by omega), words_tally hmode hfin ht (by omega) (by omega)] at h3
    have hM : ∀ L, s.get 8 = some (.row true L 48 (some 8)) → Mid j.evs (((0 : Nat) + (j.ats t : Int).toNat) * (8 : Nat)) (.sint .i64 (IntKind.i64.wrap (stp + 1))) (.sint .i64 (j.now + 1)) L := fun L hL => by
      have := Option.some.inj (hL.symm.trans h8)
      injection this with _ this
      subst this
      exact .key (.key (.resp (.key (.cells (.start (by omega) (fun v hv => (hj.evs.all v hv).1) (r := .sint .i64 rsp) (by rw [show ((0 : Nat) + (j.ats t : Int).toNat) * (8 : Nat) + 2 = 8 * j.ats t + 2 by omega]; exact hrsp) rfl) rfl (by simp [AV.cells, AV.flat])) rfl) rfl) (by rw [updA_eq, if_pos rfl]; rfl)) rfl
    have h10 := get_of_names hrows 7 rfl rfl
    have h99 := get_of_names hrows 9 rfl rfl
    rw [hj.tr0 htr] at h10
    refine arr_fin hn ht hmany hlt (by omega) (by rw [hmode]; rfl) hj hk hφ (e := 8) (kk := 99) (by intro b hb; simp only [List.mem_cons, List.not_mem_nil, or_false] at hb; omega) ⟨by simp, by simp, by simp, by simp, by simp, by simp, by simp⟩ (.inl rfl) (.inr rfl) hwr hfit' (turn' := (t : Int)) rfl (cnt := fun i => match i with | 1 => IntKind.i64.wrap (j.cnt 1 + 1) | i => j.cnt i) (inv' := j.inv) (a' := j.ats t) (evl' := j.evl) (tr' := true) (was' := [IntKind.i64.wrap (j.now + 1)])
      (get_of_names hrows 0 rfl rfl) (fun _ => rfl) rfl hev0 (get_of_names hrows 1 rfl rfl) (fun _ _ => rfl) (get_of_names hrows 2 rfl rfl) h3 (get_of_names hrows 4 rfl rfl) (get_of_names hrows 5 rfl rfl) h8 (hM _ h8).flat ?_ (by rw [hbusy])
      (.inr ⟨by simp, rfl, by simp, rfl, rfl, ⟨_, h10, ?_⟩, _, _, h99, ?_⟩) ?_
    · rw [show updA j.ats t (j.ats t) = j.ats from updA_self rfl]
      refine (hM _ h8).done (may := fun i => ∃ u, u < n ∧ (c.mode u).busy = 1 ∧ j.ats u = i) (at1 := j.ats t) (by omega) (by omega) (.inl rfl) hlen (fun i hi _ => ?_) (fun i hi _ => ?_) ?_
      · obtain ⟨s, h⟩ := hj.evs.stp i hi; exact ⟨s, .inl h⟩
      · obtain ⟨r, h, h'⟩ := hj.evs.rsp i hi; exact ⟨r, .inl h, h'⟩
      · rintro i hne ⟨u, hu, hb, hi⟩
        refine ⟨u, hu, ?_, hi⟩
        rw [updA_eq, if_neg (fun e => hne (by rw [← hi, e]))]; exact hb
    · rfl
    · rfl
    · have h1 := sumN_upd (fun u => (c.fin u + 2) / 3) t ((c.fin t + 1 + 2) / 3) n ht
      rw [sumN_congr (f := fun u => (updA c.fin t (c.fin t + 1) u + 2) / 3) (g := updA (fun u => (c.fin u + 2) / 3) t ((c.fin t + 1 + 2) / 3)) n (fun u _ => by simp only [updA_eq]; split <;> rfl)]
      have h2 := sumN_ge (f := fun u => (c.fin u + 2) / 3) ht
      simp only [List.length_singleton]
      omega
end Ct
end Go.Proofs.YtpkfimijnkkbjaaGreat
