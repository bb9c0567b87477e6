/-
  A pick of any thread, in the counting play: the thread goes on as the plain law says, or it has nothing to do.
  run.Play's loop, reckoned.
  run.Play plays the counting play to its end.
-/
import Derived.Test.YtpkfimijnkkbjaaGreatJ20
import Derived.Test.YtpkfimijnkkbjaaGreatJ22
import Derived.Test.YtpkfimijnkkbjaaGreatJ25
import Derived.Test.YtpkfimijnkkbjaaGreatJ28
import Derived.Test.YtpkfimijnkkbjaaGreatJ30
import Derived.Test.YtpkfimijnkkbjaaGreatJ32
import Derived.Test.YtpkfimijnkkbjaaGreatJ34
import Derived.Test.YtpkfimijnkkbjaaGreatJ35
import Derived.Test.YtpkfimijnkkbjaaGreatJ18
import Derived.Test.YtpkfimijnkkbjaaGreatJ17
import Derived.Test.YtpkfimijnkkbjaaGreatJ19
set_option linter.unusedVariables false
namespace Go.Proofs.YtpkfimijnkkbjaaGreat
namespace Ct
open Ev

variable {κ : Keep}

section
variable {n many k : Nat} {c : Cf} {j : Jk} {φ : Phi} {w : World}

theorem arr_idle {φ1 : Phi} {w' : World} {s : St} (hj : JOk n many c j k) (hφ : ∀ i, i < 96 → φ1 i = φ i) (hwr : ∀ b, b < 128 → (s.wr.testBit b = true ↔ b ∈ [0])) (hfit : FitH κ (after (heap n many c j) s) φ1 w')
    (h0 : s.get 0 = some (.row false (PL' (clOf n many) (.sint .i64 j.turn) (mOf c) (fun u => .sint .i64 (j.ats u : Int)) (evsOf j) .nils (fun i => .sint .i64 (j.cn i)) (IntKind.i64.wrap (j.idle + 1))) 83 none)) : Goes κ n many k φ j.oth c (.returned (.bool false)) w' := by
  let j' : Jk := { j with idle := IntKind.i64.wrap (j.idle + 1) }
  have rall : ∀ i, rh 0 0 8 11 32 80 48 i = i := fun i => by
    unfold rh
    split
    · rename_i e; exact e.symm
    split
    · rename_i e; exact e.symm
    split
    · rename_i e; exact e.symm
    split
    · rename_i e; exact e.symm
    split
    · rename_i e; exact e.symm
    · rfl
  have hag : Agree n 0 c c j j' := ⟨fun _ _ => rfl, fun _ _ => rfl, fun _ _ => rfl, fun _ _ _ => rfl, fun _ _ => rfl, fun _ _ => rfl, fun _ _ => rfl, rfl⟩
  have hφe : (fun i => φ1 (rh 0 0 8 11 32 80 48 i)) = φ1 := by funext i; rw [rall]
  have keep : ∀ b, b ≠ 0 → b ≠ 1 → heap n many c j' b = heap n many c j b → ∀ o', heap n many c j' b = some o' → ∃ o, heap n many c j b = some o ∧ b ∉ [0] ∧ rh 0 0 8 11 32 80 48 b = b ∧ Same φ1 (fun i => φ1 (rh 0 0 8 11 32 80 48 i)) o o' := by
    intro b b0 b1 he o' ho'
    rw [he] at ho'
    exact ⟨o', ho', by simp [b0], rall b, same_keep hj ho' ⟨b0, b1⟩ (fun _ => rfl) (fun _ => rfl) (by omega) (by omega)⟩
  refine ⟨fun i => φ1 (rh 0 0 8 11 32 80 48 i), j', false, rfl, ?_, arrive (t := 0) (WR := [0]) hj hag (by omega) hwr (fun b hb => by simp at hb; omega) hfit (rh_ok (by omega) (by omega) (by omega) (by omega) (by omega) (by omega) (by omega)) (rh_inj (by omega) (by omega) (by omega) (by omega) (by omega) (by omega) (by omega) (by omega)) ?_, ?_, rfl⟩
  · intro i hi
    show φ1 (rh _ _ _ _ _ _ _ i) = φ i
    rw [rall]; exact hφ i (by omega)
  · intro b hb o' ho'
    rcases hb with rfl | rfl | rfl | rfl | rfl | rfl | rfl | rfl | rfl | rfl | rfl | rfl
    · refine .inl ⟨_, by rw [rall]; exact h0, by rw [rall]; simp, ?_⟩
      obtain rfl := Option.some.inj ((show heap n many c j' 0 = some _ from heap_fix (by omega)).symm.trans ho')
      rw [hφe]; exact ⟨rfl, rfl, rfl⟩
    · refine .inr ⟨o', ho', by simp, rall 1, ?_⟩
      rw [hφe]; exact Same.refl _ _
    all_goals first
      | exact .inr (keep _ (by omega) (by omega) (by rw [heap_fix (by omega), heap_fix (by omega)]; rfl) o' ho')
      | exact .inr (keep _ (by omega) (by omega) (by rw [heap_mach (by omega), heap_mach (by omega)]; rfl) o' ho')
      | exact .inr (keep _ (by omega) (by omega) (by rw [heap_rep (by omega), heap_rep (by omega)]) o' ho')
      | exact .inr (keep _ (by omega) (by omega) (by rw [heap_sv (by omega), heap_sv (by omega)]) o' ho')
  · have := hj.now
    exact ⟨⟨hj.now.1, by show j.now ≤ ((k + 1 : Nat) : Int); omega⟩, hj.evl, hj.evs, hj.ats, hj.lm, hj.lm0, hj.lmall, hj.tr0, hj.tr1, hj.was, hj.off, hj.mark, hj.oth⟩

theorem step_idle (hj : JOk n many c j k) (hfit : FitH κ (heap n many c j) φ w) {th : Int} (h : findM th j.lmap = none ∨ ∃ b lk lj lt, findM th j.lmap = some (.soslice b 1 lk lj 0 lt)) :
    Calls Tryz.prog 22 #[conc φ (.ptr 0 0), .int .i64 th] w (Goes κ n many k φ j.oth c) := by
  have hs : ∀ (p : Nat × AObj), p ∈ [(0, AObj.row false (PL' (clOf n many) (.sint .i64 j.turn) (mOf c) (fun u => .sint .i64 (j.ats u : Int)) (evsOf j) .nils (fun i => .sint .i64 (j.cn i)) j.idle) 83 none), (4, .row false [.mapv 5, .sint .i64 j.left] 113 none), (5, .map true j.lmap)] → Like (heap n many c j p.1) p.2 :=
    cons_all (.same (heap_fix (by omega))) <| cons_all (.same heap4) <| cons_all (.same heap5) nil_all
  rcases h with h | ⟨b, lk, lj, lt, h⟩
  · have hev := way_idleA th (clOf n many) (.sint .i64 j.turn) (mOf c) (fun u => .sint .i64 (j.ats u : Int)) (evsOf j) .nils (fun i => .sint .i64 (j.cn i)) j.idle j.left j.lmap
    obtain ⟨s, hs', hpre, hnx, hwr, hrows⟩ := view_some hev
    have hP : s.pre := by rw [hpre]; exact ⟨⟨True.intro, h⟩, rfl⟩
    refine (fit_call named mixed noSums_ok hs' hP hfit (heap_ok hj) (hs_of (heap_ok hj) hs) (by simp [AllL, AV.All])).mono ?_
    rintro e' w' ⟨φ1, rfl, hφ, hfit', _⟩
    exact arr_idle hj hφ hwr hfit' (get_of_names hrows 0 rfl rfl)
  · have hev := way_idleB th (clOf n many) (.sint .i64 j.turn) (mOf c) (fun u => .sint .i64 (j.ats u : Int)) (evsOf j) .nils (fun i => .sint .i64 (j.cn i)) j.idle j.left j.lmap b lk lj lt
    obtain ⟨s, hs', hpre, hnx, hwr, hrows⟩ := view_some hev
    have hP : s.pre := by rw [hpre]; exact ⟨⟨⟨True.intro, h⟩, rfl⟩, rfl⟩
    refine (fit_call named mixed noSums_ok hs' hP hfit (heap_ok hj) (hs_of (heap_ok hj) hs) (by simp [AllL, AV.All])).mono ?_
    rintro e' w' ⟨φ1, rfl, hφ, hfit', _⟩
    exact arr_idle hj hφ hwr hfit' (get_of_names hrows 0 rfl rfl)

/-- What comes of a pick. -/
def Picked (n many : Nat) (c : Cf) (th : Int) (c' : Cf) : Prop := (∃ t, t < n ∧ th = (t : Int) ∧ c.fin t < 3 * many ∧ Next n c t c') ∨ ((∀ t, t < n → th = (t : Int) → c.fin t = 3 * many) ∧ c' = c)

theorem pick_goes (hn : n ≤ 6) (hm : many ≤ 5) (hok : Ok n many c) (hj : JOk n many c j k) (hk : k ≤ 1000000) (hfit : FitH κ (heap n many c j) φ w) (th : Int) :
    Calls Tryz.prog 22 #[conc φ (.ptr 0 0), .int .i64 th] w (fun e w' => ∃ c', Picked n many c th c' ∧ Goes κ n many k φ j.oth c' e w') := by
  by_cases hth : ∃ t : Nat, t < n ∧ th = (t : Int)
  · obtain ⟨t, ht, rfl⟩ := hth
    by_cases hlt : c.fin t < 3 * many
    · have fin : ∀ c', Next n c t c' → Calls Tryz.prog 22 #[conc φ (.ptr 0 0), .int .i64 (t : Int)] w (Goes κ n many k φ j.oth c') → Calls Tryz.prog 22 #[conc φ (.ptr 0 0), .int .i64 (t : Int)] w (fun e w' => ∃ c', Picked n many c (t : Int) c' ∧ Goes κ n many k φ j.oth c' e w') := fun c' hn' hc => hc.mono fun e w' h => ⟨c', .inl ⟨t, ht, rfl, hlt, hn'⟩, h⟩
      cases hmode : c.mode t with
      | none =>
        have hmod : c.fin t % 3 = 0 ∨ c.fin t % 3 = 1 ∨ c.fin t % 3 = 2 := by omega
        rcases hmod with hq | hq | hq
        · by_cases hev : j.evl = 0
          · exact fin _ (.tally0 hmode hq) (step_tally0N hn hm ht hok hj hk hfit hmode hq hlt hev)
          · exact fin _ (.tally0 hmode hq) (step_tally0 hn hm ht hok hj hk hfit hmode hq hlt hev)
        · have := step_adder0 hn hm ht hok hj hk hfit hmode hq hlt
          rw [updA_self hmode] at this
          exact fin _ (.add hmode hq) this
        · have hev : j.evl ≠ 0 := by
            have h1 := hj.evl
            have h2 := sumN_ge (f := fun u => c.fin u + (c.mode u).busy) ht
            omega
          exact fin _ (.ann hmode hq) (step_univ0 hn hm ht hok hj hk hfit hmode hq hlt hev)
      | tallied v =>
        cases htr : j.tr with
        | true => exact fin _ (.tally1 v hmode) (step_tally1 hn hm ht hok hj hk hfit hmode htr)
        | false => exact fin _ (.tally1 v hmode) (step_tally1N hn hm ht hok hj hk hfit hmode htr)
      | act pc o =>
        obtain ⟨a1, a2, a3, a4⟩ := hok.act t _ _ ht hmode
        have happ := hok.app t ht
        have hpc : pc = 1 ∨ pc = 2 ∨ pc = 3 ∨ pc = 4 := by omega
        have hown := hok.own t ht
        have hann : c.ann t = c.fin t / 3 + 1 := by unfold Cf.ann; rw [hmode]; rfl
        rcases hpc with rfl | rfl | rfl | rfl
        · by_cases hl : c.app t = c.log.length
          · exact fin _ (.look o hmode hl) (step_eN hn hm ht hok hj hk hfit hmode hl)
          · have he : c.log[c.app t]? = some (c.log[c.app t]'(by omega)) := List.getElem?_eq_getElem (by omega)
            by_cases hne : c.log[c.app t]'(by omega) = (t, c.ann t)
            · rw [hne] at he
              cases hmk : j.marks t with
              | true => exact fin _ (.took 1 o hmode (.inl rfl) he) (step_eYoM hn hm ht hok hj hk hfit hmode he hmk)
              | false => exact fin _ (.took 1 o hmode (.inl rfl) he) (step_eYoN hn hm ht hok hj hk hfit hmode he hmk)
            · exact fin _ (.take 1 o _ hmode (.inl rfl) he hne) (step_eYf hn hm ht hok hj hk hfit hmode he hne)
        · have hmod : c.app t % n < n := Nat.mod_lt _ (by omega)
          have hself : Next n c t { c with mode := updA c.mode t (.act 3 (t, c.ann t)) } := .help o (t, c.ann t) hmode ht (by show cntw t _ < c.ann t; omega) rfl
          by_cases hz : c.ann (c.app t % n) = 0
          · exact fin _ hself (step_hN hn hm ht hok hj hk hfit hmode hz)
          · by_cases hold : c.ann (c.app t % n) ≤ cntw (c.app t % n) (c.log.take (c.app t))
            · exact fin _ hself (step_hL hn hm ht hok hj hk hfit hmode hz hold)
            · exact fin _ (.help o (c.app t % n, c.ann (c.app t % n)) hmode hmod (Nat.lt_of_not_le hold) rfl) (step_hG hn hm ht hok hj hk hfit hmode hz (by omega))
        · by_cases hl : c.app t = c.log.length
          · by_cases hne : o = (t, c.ann t)
            · subst hne
              exact fin _ (.putOwn hmode hl) (step_sTo hn hm ht hok hj hk hfit hmode hl)
            · exact fin _ (.put o hmode hl hne) (step_sTa hn hm ht hok hj hk hfit hmode hl hne)
          · exact fin _ (.lost o hmode (by omega)) (step_sF hn hm ht hok hj hk hfit hmode (by omega))
        · have hl := hok.full t o ht hmode
          have he : c.log[c.app t]? = some (c.log[c.app t]'hl) := List.getElem?_eq_getElem hl
          by_cases hne : c.log[c.app t]'hl = (t, c.ann t)
          · rw [hne] at he
            cases hmk : j.marks t with
            | true => exact fin _ (.took 4 o hmode (.inr rfl) he) (step_eAoM hn hm ht hok hj hk hfit hmode he hmk)
            | false => exact fin _ (.took 4 o hmode (.inr rfl) he) (step_eAoN hn hm ht hok hj hk hfit hmode he hmk)
          · exact fin _ (.take 4 o _ hmode (.inr rfl) he hne) (step_eAf hn hm ht hok hj hk hfit hmode he hne)
    · have hf := hok.fin t ht
      have hidle : findM ((t : Nat) : Int) j.lmap = none ∨ ∃ b lk lj lt, findM ((t : Nat) : Int) j.lmap = some (.soslice b 1 lk lj 0 lt) := by
        by_cases hmany : many = 0
        · exact .inl (hj.lm0 _ (.inl hmany))
        · have := hj.lm hmany t ht
          rw [show 3 * many - c.fin t = 0 by omega] at this
          exact .inr ⟨_, _, _, _, this⟩
      exact (step_idle hj hfit hidle).mono fun e w' h => ⟨c, .inr ⟨fun u hu e => (by
        have hut : u = t := by omega
        rw [hut]; omega), rfl⟩, h⟩
  · exact (step_idle hj hfit (.inl (hj.lm0 th (.inr fun u hu e => hth ⟨u, hu, e⟩)))).mono fun e w' h => ⟨c, .inr ⟨fun u hu e => absurd ⟨u, hu, e⟩ hth, rfl⟩, h⟩
end
#print axioms pick_goes
end Ct
end Go.Proofs.YtpkfimijnkkbjaaGreat

namespace Go.Proofs.YtpkfimijnkkbjaaGreat
namespace Ct
open Ev

/-- The slots of run.Play's loop. -/
def E15 (pl i : Nat) : Env := [(8, .ptr 6 0), (10, .ptr 0 0), (26, .soslice 13 1 0 0 pl pl), (27, .sint .i64 pl), (28, .sint .i64 i)]
def V15 (pl : Nat) (i : Int) : List (Option AV) := [some (.ptr 6 0), some (.ptr 0 0), some (.soslice 13 1 0 0 pl pl), some (.sint .i64 pl), some (.sint .i64 i)]
theorem w15_test (pl i : Nat) : viewC [8, 10, 26, 27, 28] [] (evCode Tryz.prog (evFn Tryz.prog noSums 60) 38 100000 (takeC 1 (bodyC (takeC 0 (dropC 2 (Tryz.f15.body.getD .skip))))) (E15 pl i) ⟨mk [], 96, 0, 0, True, [.br true]⟩) =
    some (.normal, V15 pl i, True ∧ cmpI .lss i pl = true, 96, [], []) := by kernel_rfl
theorem w15_out (pl i : Nat) : viewC [8, 10, 26, 27, 28] [] (evCode Tryz.prog (evFn Tryz.prog noSums 60) 38 100000 (bodyC (takeC 0 (dropC 2 (Tryz.f15.body.getD .skip)))) (E15 pl i) ⟨mk [], 96, 0, 0, True, [.br false]⟩) =
    some (.exit 0, V15 pl i, True ∧ cmpI .lss i pl = false, 96, [], []) := by kernel_rfl
theorem w15_load (pl i : Nat) (x : Int) (ps : List AV) : viewC [8, 10, 26, 27, 28, 13] [] (evCode Tryz.prog (evFn Tryz.prog noSums 60) 38 100000 (takeC 0 (lpB (takeC 0 (dropC 1 (bodyC (takeC 0 (dropC 2 (Tryz.f15.body.getD .skip)))))))) (E15 pl i) ⟨mk [(13, .row true ps 3 (some 1))], 96, 0, 0, True, [.val [.sint .i64 x]]⟩) =
    some (.normal, V15 pl i ++ [some (.sint .i64 x)], ((True ∧ 0 + pl ≤ pl) ∧ (0 : Int) ≤ i ∧ (i : Int) < pl) ∧ 1 = 1 ∧ ∀ k : Nat, k < 1 → ps[(0 + (i : Int).toNat) * 1 + k]? = [AV.sint .i64 x][k]?, 96, [], []) := by kernel_rfl
theorem w15_next (pl i : Nat) : viewC [8, 10, 26, 27, 28] [] (evCode Tryz.prog (evFn Tryz.prog noSums 60) 38 100000 (dropC 0 (dropC 1 (bodyC (takeC 0 (dropC 2 (Tryz.f15.body.getD .skip)))))) (E15 pl i) ⟨mk [], 96, 0, 0, True, []⟩) =
    some (.normal, V15 pl (IntKind.i64.wrap (i + 1)), True ∧ true = true, 96, [], []) := by kernel_rfl
/-- The region that calls Pick. -/
def R15 : Code → Code := fun c => dropC 0 (lpB (takeC 0 (dropC 1 (bodyC (takeC 0 (dropC 2 c))))))
theorem r15_is : R15 (Tryz.f15.body.getD .skip) = .region 7 (opsA (R15 (Tryz.f15.body.getD .skip))) false := by kernel_rfl
def op15 (c : Code) (i : Nat) : Oper := ((opsA (R15 c))[i]?).getD default
theorem op15_is : (opsA (R15 (Tryz.f15.body.getD .skip))).size = 3 ∧ (opsA (R15 (Tryz.f15.body.getD .skip)))[0]? = some (op15 (Tryz.f15.body.getD .skip) 0) ∧ (opsA (R15 (Tryz.f15.body.getD .skip)))[1]? = some (op15 (Tryz.f15.body.getD .skip) 1) ∧ (opsA (R15 (Tryz.f15.body.getD .skip)))[2]? = some (op15 (Tryz.f15.body.getD .skip) 2) :=
  ⟨by kernel_rfl, by kernel_rfl, by kernel_rfl, by kernel_rfl⟩
theorem op15_0 (pl i : Nat) (x : Int) (s : St) : evOper Tryz.prog (evFn Tryz.prog noSums 60) (opsA (R15 (Tryz.f15.body.getD .skip))) (op15 (Tryz.f15.body.getD .skip) 0) ((13, .sint .i64 x) :: E15 pl i) s = .ok (.ptr 0 0) s := by kernel_rfl
theorem op15_1 (pl i : Nat) (x : Int) (s : St) : evOper Tryz.prog (evFn Tryz.prog noSums 60) (opsA (R15 (Tryz.f15.body.getD .skip))) (op15 (Tryz.f15.body.getD .skip) 1) ((32, .ptr 0 0) :: (13, .sint .i64 x) :: E15 pl i) s = .ok (.sint .i64 x) s := by kernel_rfl
theorem op15_d (e : Env) (v : AV) : putE 38 (op15 (Tryz.f15.body.getD .skip) 0).dst v e = some ((32, v) :: e) ∧ putE 38 (op15 (Tryz.f15.body.getD .skip) 1).dst v e = some ((33, v) :: e) ∧ putE 38 (op15 (Tryz.f15.body.getD .skip) 2).dst v e = some ((34, v) :: e) := ⟨by kernel_rfl, by kernel_rfl, by kernel_rfl⟩
theorem op15_c : (op15 (Tryz.f15.body.getD .skip) 2).op = .call { callee := .value (.func 22), args := #[.tmp 32, .tmp 33], argTypes := #[63, 3] } ∧ (op15 (Tryz.f15.body.getD .skip) 2).guard = none := ⟨by kernel_rfl, by kernel_rfl⟩
theorem f22_is : ∃ fn, Tryz.prog.funcs[22]? = some fn ∧ fn.body.isSome = true := ⟨_, Tryz.func22, by kernel_rfl⟩
theorem w15_r4 (pl : Nat) : viewC [8, 10, 26, 27, 28] [] (evCode Tryz.prog (evFn Tryz.prog noSums 60) 38 100000 (takeC 0 (takeC 0 (dropC 2 (Tryz.f15.body.getD .skip)))) [(3, .soslice 13 1 0 0 pl pl), (8, .ptr 6 0), (10, .ptr 0 0)] ⟨mk [], 96, 0, 0, True, []⟩) =
    some (.normal, [some (.ptr 6 0), some (.ptr 0 0), some (.soslice 13 1 0 0 pl pl), some (.sint .i64 pl), some (.int .i64 0)], True, 96, [], []) := by kernel_rfl
end Ct
end Go.Proofs.YtpkfimijnkkbjaaGreat

namespace Go.Proofs.YtpkfimijnkkbjaaGreat
namespace Ct
open Ev

variable {κ : Keep}

def H15 (n many : Nat) (O : Nat → Option AObj) (b : Nat) : Option AObj :=
  if b = 1 then some (.row false specRow 39 none)
  else if b = 7 then (if many = 0 then none else some (.row false (callsOf n many) 42 (some 6)))
  else if 12 < b ∧ b < 16 then O b else none
/-- Behind so many picks. -/
def At15 (κ : Keep) (n many : Nat) (O : Nat → Option AObj) (ps : List Int) (φ0 : Phi) (i : Nat) (a : Act) (w : World) : Prop :=
  ∃ (φ : Phi) (c : Cf) (j : Jk), At κ (heap n many c j) 38 96 [(8, .ptr 6 0), (10, .ptr 0 0), (26, .soslice 13 1 0 0 ps.length ps.length), (27, .sint .i64 (ps.length : Nat)), (28, .sint .i64 (i : Nat))] φ w a ∧
    Run n many c (fun u => (ps.take i).count (u : Int)) ∧ JOk n many c j i ∧ j.oth = (j0 n many O).oth ∧ (∀ u, n ≤ u → c.mode u = .none) ∧ ∀ b, 12 < b ∧ b < 16 → φ b = φ0 b

theorem none_mk {H : Nat → Option AObj} {φ : Phi} {nx : Nat} {oo : List Ans} : ∀ b o, St.get ⟨mk [], nx, 0, 0, True, oo⟩ b = some o → o.All (· < nx) ∧ ∃ o0, H b = some o0 ∧ Same φ φ o0 o := fun b o h => by
  have := get_mk h
  cases this
theorem not_wr {H : Nat → Option AObj} {s : St} (hH : ∀ c o, H c = some o → c < 96) (hwr : ∀ c, c < 128 → (s.wr.testBit c = true ↔ c ∈ ([] : List Nat))) (c : Nat) (o : AObj) (h : H c = some o) : after H s c = some o := by
  unfold after
  rw [if_neg (fun hh => by have := (hwr c (by have := hH c o h; omega)).1 hh; cases this)]
  exact h

/-- Picks, and what each leaves. -/
theorem Run.picked {n many : Nat} {c c' : Cf} {k : Nat → Nat} {th : Int} (h : Run n many c k) (hp : Picked n many c th c') : Run n many c' (fun u => k u + if (u : Int) = th then 1 else 0) := by
  rcases hp with ⟨t, ht, rfl, hlt, hn⟩ | ⟨hf, rfl⟩
  · have := h.next ht hlt hn
    refine ⟨this.toOk, fun u hu => ?_⟩
    have h1 := this.come u hu
    rw [updA_eq] at h1
    by_cases e : u = t
    · subst e; simpa using h1
    · have e2 : ¬ ((u : Int) = (t : Int)) := by omega
      rw [if_neg e] at h1
      rw [if_neg e2]; exact h1
  · refine ⟨h.toOk, fun u hu => ?_⟩
    by_cases e : (u : Int) = th
    · exact .inl (hf u hu e.symm)
    · rw [if_neg e]; exact h.come u hu

theorem recast15 {H H' : Nat → Option AObj} {nx pl i : Nat} {k : Int} {env : Env} {φ : Phi} {w : World} {a : Act} (hat : At κ H 38 nx env φ w a) (hsl : [8, 10, 26, 27, 28].map env.look = V15 pl k) (hk : k = i) (hfit : FitH κ H' φ w) (hids : ∀ c o, H' c = some o → c < 96 ∧ o.All (· < 96)) : At κ H' 38 96 (E15 pl i) φ w a := by
  subst hk
  refine hat.recast hfit hids ?_
  exact cons_all ⟨_, slot_of hsl 0 rfl rfl, rfl, by show 6 < 96; omega⟩ <| cons_all ⟨_, slot_of hsl 1 rfl rfl, rfl, by show 0 < 96; omega⟩ <| cons_all ⟨_, slot_of hsl 2 rfl rfl, rfl, by show 13 < 96; omega⟩ <| cons_all ⟨_, slot_of hsl 3 rfl rfl, rfl, trivial⟩ <| cons_all ⟨_, slot_of hsl 4 rfl rfl, rfl, trivial⟩ nil_all
theorem seq_wp {P : Program} {c a b : Code} {Q : Exit → Act → World → Prop} {x : Act} {w : World} (hc : c = .seq a b) (h : a.wp P (Exit.then (b.wp P Q) Q) x w) : c.wp P Q x w := by
  subst hc; exact wp_seq h
theorem block_wp {P : Program} {c b : Code} {id : Nat} {Q : Exit → Act → World → Prop} {x : Act} {w : World} (hc : c = .block id b) (h : b.wp P (Exit.inBlock id Q) x w) : c.wp P Q x w := by
  subst hc; exact wp_block h

theorem loop15 {n many : Nat} (hn : n ≤ 6) (hm : many ≤ 5) {O : Nat → Option AObj} {ps : List Int} (hps : ps.length ≤ 65536) (hO : O 13 = some (.row true (ps.map fun x => .sint .i64 x) 3 (some 1))) {φ0 : Phi} {Q : Exit → Act → World → Prop}
    (hQ : ∀ a w, At15 κ n many O ps φ0 ps.length a w → Q (.exit 0) a w) : ∀ (k i : Nat), i + k = ps.length → ∀ a w, At15 κ n many O ps φ0 i a w → LoopIn Tryz.prog (bodyC (takeC 0 (dropC 2 (Tryz.f15.body.getD .skip)))) Q a w := by
  intro k
  induction k with
  | zero =>
    rintro i hi a w ⟨φ, c, j, hat, hrun, hj, hoth, hmode, hφ⟩
    refine LoopIn.of ?_
    have hi' : i = ps.length := by omega
    subst hi'
    obtain ⟨env, s, hev, hsl, hpre, hnx, hwr, _⟩ := viewC_some (w15_out ps.length ps.length)
    have hP : s.pre := by rw [hpre]; exact ⟨True.intro, by simp [cmpI]⟩
    refine seg ((evCode_ok named (draw_ok mixed) (sound named mixed noSums_ok 60) (nt := 38) 100000).1 _ _ _ _ _ _ hev) hat none_mk hP (K := fun a w => Q (.exit 0) a w) (fun φ' w' a' hφ' hat' => ?_) _ (fun a w h => h)
    exact hQ a' w' ⟨φ', c, j, recast15 hat' hsl rfl (hat'.fit.keep (not_wr (fun c o h => (hat.ids c o h).1) hwr)) (heap_ok hj), hrun, hj, hoth, hmode, fun b hb => (hφ' b (by show b < 96; omega)).trans (hφ b hb)⟩
  | succ k ih =>
    rintro i hi a w ⟨φ, c, j, hat, hrun, hj, hoth, hmode, hφ⟩
    refine LoopIn.of ?_
    have hilt : i < ps.length := by omega
    -- the loop's test
    obtain ⟨env1, s1, hev1, hsl1, hpre1, hnx1, hwr1, _⟩ := viewC_some (w15_test ps.length i)
    have hP1 : s1.pre := by rw [hpre1]; exact ⟨True.intro, by simp [cmpI]; omega⟩
    refine seg (does_take named mixed noSums_ok (nt := 38) 1 (bodyC (takeC 0 (dropC 2 (Tryz.f15.body.getD .skip)))) 100000 _ _ _ _ (by kernel_rfl) hev1) hat none_mk hP1 (K := fun a w => (dropC 1 (bodyC (takeC 0 (dropC 2 (Tryz.f15.body.getD .skip))))).wp Tryz.prog (Exit.then (LoopIn Tryz.prog (bodyC (takeC 0 (dropC 2 (Tryz.f15.body.getD .skip)))) Q) Q) a w) (fun φ1 w1 a1 hφ1 hat1 => ?_) _ (fun a w h => h)
    have hat1' := recast15 hat1 hsl1 rfl (hat1.fit.keep (not_wr (fun c o h => (hat.ids c o h).1) hwr1)) (heap_ok hj)
    refine seq_wp (a := takeC 0 (dropC 1 (bodyC (takeC 0 (dropC 2 (Tryz.f15.body.getD .skip)))))) (b := dropC 0 (dropC 1 (bodyC (takeC 0 (dropC 2 (Tryz.f15.body.getD .skip)))))) (by kernel_rfl) ?_
    refine block_wp (id := 1) (b := lpB (takeC 0 (dropC 1 (bodyC (takeC 0 (dropC 2 (Tryz.f15.body.getD .skip))))))) (by kernel_rfl) ?_
    -- the pick is read
    have hx : ps[i]? = some (ps[i]'hilt) := List.getElem?_eq_getElem hilt
    obtain ⟨env2, s2, hev2, hsl2, hpre2, hnx2, hwr2, _⟩ := viewC_some (w15_load ps.length i (ps[i]'hilt) (ps.map fun x => .sint .i64 x))
    have hP2 : s2.pre := by
      rw [hpre2]
      refine ⟨⟨⟨True.intro, by omega⟩, by omega, by omega⟩, rfl, load1 (k := i) ?_ (by omega)⟩
      rw [List.getElem?_map, hx]; rfl
    have hO2 : heap n many c j 13 = some (.row true (ps.map fun x => .sint .i64 x) 3 (some 1)) := by
      rw [heap_fix (by omega)]
      show j.oth 13 = _
      rw [hoth]
      show (if (13 : Nat) = 6 then some zeroRep else O 13) = _
      rw [if_neg (by omega), hO]
    refine seg (does_take named mixed noSums_ok (nt := 38) 0 (lpB (takeC 0 (dropC 1 (bodyC (takeC 0 (dropC 2 (Tryz.f15.body.getD .skip))))))) 100000 _ _ _ _ (by kernel_rfl) hev2) hat1' (hs_of (heap_ok hj) (cons_all (.same hO2) nil_all)) hP2 (K := fun a w => (R15 (Tryz.f15.body.getD .skip)).wp Tryz.prog (Exit.inBlock 1 (Exit.then ((dropC 0 (dropC 1 (bodyC (takeC 0 (dropC 2 (Tryz.f15.body.getD .skip)))))).wp Tryz.prog (Exit.then (LoopIn Tryz.prog (bodyC (takeC 0 (dropC 2 (Tryz.f15.body.getD .skip)))) Q) Q)) (Exit.then (LoopIn Tryz.prog (bodyC (takeC 0 (dropC 2 (Tryz.f15.body.getD .skip)))) Q) Q))) a w) (fun φ2 w2 a2 hφ2 hat2 => ?_) _ (fun a w h => h)
    have hat2' : At κ (heap n many c j) 38 96 ((13, .sint .i64 (ps[i]'hilt)) :: E15 ps.length i) φ2 w2 a2 := by
      refine hat2.recast (hat2.fit.keep (not_wr (fun c o h => (hat.ids c o h).1) hwr2)) (heap_ok hj) ?_
      exact cons_all ⟨_, slot_of hsl2 5 rfl rfl, rfl, trivial⟩ <| cons_all ⟨_, slot_of hsl2 0 rfl rfl, rfl, by show 6 < 96; omega⟩ <| cons_all ⟨_, slot_of hsl2 1 rfl rfl, rfl, by show 0 < 96; omega⟩ <| cons_all ⟨_, slot_of hsl2 2 rfl rfl, rfl, by show 13 < 96; omega⟩ <| cons_all ⟨_, slot_of hsl2 3 rfl rfl, rfl, trivial⟩ <| cons_all ⟨_, slot_of hsl2 4 rfl rfl, rfl, trivial⟩ nil_all
    refine region_wp r15_is ?_
    rw [op15_is.1]
    show wpOps Tryz.prog _ _ [0, 1, 2] a2 w2
    rw [wpOps_cons]
    refine seg (does_op named (sound named mixed noSums_ok 60) (nt := 38) op15_is.2.1 (op15_0 ps.length i (ps[i]'hilt) ⟨mk [], 96, 0, 0, True, []⟩) (op15_d _ _).1) hat2' none_mk True.intro (fun φ3 w3 a3 hφ3 hat3 => ?_) _
    rw [wpOps_cons]
    have hat3' : At κ (heap n many c j) 38 96 ((32, .ptr 0 0) :: (13, .sint .i64 (ps[i]'hilt)) :: E15 ps.length i) φ3 w3 a3 := by rw [after0] at hat3; exact hat3
    refine seg (does_op named (sound named mixed noSums_ok 60) (nt := 38) op15_is.2.2.1 (op15_1 ps.length i (ps[i]'hilt) ⟨mk [], 96, 0, 0, True, []⟩) (op15_d _ _).2.1) hat3' none_mk True.intro (fun φ4 w4 a4 hφ4 hat4 => ?_) _
    have hat4' : At κ (heap n many c j) 38 96 ((33, .sint .i64 (ps[i]'hilt)) :: (32, .ptr 0 0) :: (13, .sint .i64 (ps[i]'hilt)) :: E15 ps.length i) φ4 w4 a4 := by rw [after0] at hat4; exact hat4
    rw [wpOps_cons]
    refine seg_call named f22_is op15_is.2.2.2 op15_c.1 op15_c.2 (avs := [.ptr 0 0, .sint .i64 (ps[i]'hilt)]) rfl hat4' (pick_goes hn hm hrun.toOk hj (by omega) hat4'.fit (ps[i]'hilt)) ?_
    rintro e w5 ⟨c', hpk, φ5, j5, b5, rfl, hφ5, hfit5, hj5, hoth5⟩
    refine ⟨φ5, heap n many c' j5, 96, .bool b5, _, rfl, Nat.le_refl _, ?_, hfit5, heap_ok hj5, trivial, (op15_d _ _).2.2, fun a5 hat5 => ?_⟩
    · intro t u hu
      have hm := look_mem hu
      simp only [E15, List.mem_cons, List.not_mem_nil, or_false, Prod.mk.injEq] at hm
      have h0 := hφ5 0 (.inl rfl)
      have h6 := hφ5 6 (.inr (.inl rfl))
      have h13 := hφ5 13 (.inr (.inr ⟨by omega, by omega⟩))
      rcases hm with ⟨_, rfl⟩ | ⟨_, rfl⟩ | ⟨_, rfl⟩ | ⟨_, rfl⟩ | ⟨_, rfl⟩ | ⟨_, rfl⟩ | ⟨_, rfl⟩ | ⟨_, rfl⟩
      · rfl
      · simp only [conc, h0]
      · rfl
      · simp only [conc, h6]
      · simp only [conc, h0]
      · exact conc_sos h13
      · rfl
      · rfl
    · -- the pick is behind us
      show (dropC 0 (dropC 1 (bodyC (takeC 0 (dropC 2 (Tryz.f15.body.getD .skip)))))).wp Tryz.prog (Exit.then (LoopIn Tryz.prog (bodyC (takeC 0 (dropC 2 (Tryz.f15.body.getD .skip)))) Q) Q) a5 w5
      have hat5' : At κ (heap n many c' j5) 38 96 (E15 ps.length i) φ5 w5 a5 := hat5.recast hat5.fit (heap_ok hj5) (cons_all ⟨_, rfl, rfl, by show 6 < 96; omega⟩ <| cons_all ⟨_, rfl, rfl, by show 0 < 96; omega⟩ <| cons_all ⟨_, rfl, rfl, by show 13 < 96; omega⟩ <| cons_all ⟨_, rfl, rfl, trivial⟩ <| cons_all ⟨_, rfl, rfl, trivial⟩ nil_all)
      obtain ⟨env6, s6, hev6, hsl6, hpre6, hnx6, hwr6, _⟩ := viewC_some (w15_next ps.length i)
      have hP6 : s6.pre := by rw [hpre6]; exact ⟨True.intro, rfl⟩
      refine seg ((evCode_ok named (draw_ok mixed) (sound named mixed noSums_ok 60) (nt := 38) 100000).1 _ _ _ _ _ _ hev6) hat5' none_mk hP6 (K := fun a w => LoopIn Tryz.prog (bodyC (takeC 0 (dropC 2 (Tryz.f15.body.getD .skip)))) Q a w) (fun φ7 w7 a7 hφ7 hat7 => ?_) _ (fun a w h => h)
      refine ih (i + 1) (by omega) a7 w7 ⟨φ7, c', j5, ?_, ?_, hj5, hoth5.trans hoth, fun u hu => ?_, fun b hb => ?_⟩
      · exact recast15 hat7 hsl6 (by rw [wrap64 (by omega) (by omega)]; omega) (hat7.fit.keep (not_wr (fun c o h => (hat5'.ids c o h).1) hwr6)) (heap_ok hj5)
      · have := hrun.picked hpk
        have he : (fun u : Nat => (ps.take i).count (u : Int) + if (u : Int) = ps[i]'hilt then 1 else 0) = fun u : Nat => (ps.take (i + 1)).count (u : Int) := by
          funext u
          rw [List.take_add_one, hx, List.count_append]
          simp only [Option.toList, List.count_singleton]
          by_cases e : (u : Int) = ps[i]'hilt
          · simp [e]
          · have e2 : ¬ (ps[i]'hilt = (u : Int)) := fun h => e h.symm
            simp [e, e2]
        rw [← he]; exact this
      · rcases hpk with ⟨t, ht, _, _, hnx⟩ | ⟨_, rfl⟩
        · rw [((hnx.far hrun.toOk ht).2 u (by omega)).2.2]; exact hmode u hu
        · exact hmode u hu
      · rw [hφ7 b (by show b < 96; omega), hφ5 b (.inr (.inr hb)), hφ4 b (by show b < 96; omega), hφ3 b (by show b < 96; omega), hφ2 b (by show b < 96; omega), hφ1 b (by show b < 96; omega)]
        exact hφ b hb
end Ct
end Go.Proofs.YtpkfimijnkkbjaaGreat
