/-
  run.Play: what comes of the counting play.
  The law's Play (of a scene): what comes of the counting play.
  TopCounts: its end, reckoned.
  TopCounts: the play is called.
-/
import Derived.Test.YtpkfimijnkkbjaaGreatJ36
import Derived.Test.YtpkfimijnkkbjaaGreatJ18
import Derived.Test.YtpkfimijnkkbjaaGreatJ37
import Derived.Test.YtpkfimijnkkbjaaGreatJ19
import Derived.Test.YtpkfimijnkkbjaaGreatJ20
set_option linter.unusedVariables false
namespace Go.Proofs.YtpkfimijnkkbjaaGreat
namespace Ct
open Ev

variable {κ : Keep}

theorem begs {n many : Nat} (hn : 1 ≤ n ∧ n ≤ 6) (hm : many ≤ 5) (pl : Nat) (O : Nat → Option AObj) : beg n many O (evCode Tryz.prog (evFn Tryz.prog noSums 60) 38 100000 (takeC 2 (Tryz.f15.body.getD .skip)) (argsE [.int .i64 (n : Nat), .slice 1 0 3 3, clArg n many, .soslice 13 1 0 0 pl pl] 0) ⟨mk (hs0 n many), 96, 0, 0, True, [.br false]⟩) =
    some (true, True ∧ cmpI .gtr pl 65536 = false, some (.soslice 13 1 0 0 pl pl)) := by
  have : n = 1 ∨ n = 2 ∨ n = 3 ∨ n = 4 ∨ n = 5 ∨ n = 6 := by omega
  rcases this with rfl | rfl | rfl | rfl | rfl | rfl
  · exact beg1 many (by omega) pl O
  · exact beg2 many (by omega) pl O
  · exact beg3 many (by omega) pl O
  · exact beg4 many (by omega) pl O
  · exact beg5 many (by omega) pl O
  · exact beg6 many (by omega) pl O

/-- What lies there behind the play: 8 the events, 20 the words. -/
def Hend (n : Nat) (c : Cf) (j : Jk) (O : Nat → Option AObj) (b : Nat) : Option AObj :=
  if b = 8 then (if j.evl = 0 then none else some (.row true j.evs 48 (some 8)))
  else if b = 20 then some (.row true (wordsOf n c) 40 (some 1))
  else if 12 < b ∧ b < 16 then O b else none
/-- The report of a play. -/
def repOf (n : Nat) (j : Jk) : AV := .agg [evsOf j, .soslice 20 1 0 0 (2 * n + 65) (2 * n + 65), .sint .i64 (j.cnt 0), .sint .i64 (j.cnt 1), .sint .i64 (j.cnt 2), .sint .i64 (j.cnt 3), .sint .i64 (j.cnt 4), .sint .i64 j.now, .sint .i64 j.idle]
/-- A play has come to its end. -/
structure Ended (n many : Nat) (c : Cf) (j : Jk) : Prop where
  ok : Ok n many c
  jok : ∃ k, JOk n many c j k
  fin : ∀ u, u < n → c.fin u = 3 * many
  mode : ∀ u, c.mode u = .none

theorem play15 {n many : Nat} (hn : 1 ≤ n ∧ n ≤ 6) (hm : many ≤ 5) {O : Nat → Option AObj} {ps : List Int} (hps : ps.length ≤ 65536) (hcnt : ∀ u : Nat, u < n → 300 * many ≤ ps.count (u : Int)) (hO : O 13 = some (.row true (ps.map fun x => .sint .i64 x) 3 (some 1)))
    (hOn : ∀ b o, O b = some o → o.All fun _ => False) {φ : Phi} {w : World} (hfit : FitH κ (H15 n many O) φ w) :
    Calls Tryz.prog 15 (concL φ [.int .i64 (n : Nat), .slice 1 0 3 3, clArg n many, .soslice 13 1 0 0 ps.length ps.length]).toArray w (fun e w' => ∃ (φ' : Phi) (c : Cf) (j : Jk), e = .returned (conc φ' (.tup [repOf n j, .int .i64 0])) ∧ Ended n many c j ∧ FitH κ (Hend n c j O) φ' w' ∧ ∀ b, 12 < b ∧ b < 16 → φ' b = φ b) := by
  have hids : ∀ c o, H15 n many O c = some o → c < 96 ∧ o.All (· < 96) := fun c o h => by
    unfold H15 at h
    split at h
    · cases h; exact ⟨by omega, by simp [specRow, AObj.All, AllL, AV.All]⟩
    split at h
    · split at h
      · cases h
      · cases h; exact ⟨by omega, calls_all n many⟩
    split at h
    · exact ⟨by omega, (hOn c o h).mono fun i hi => hi.elim⟩
    · cases h
  refine calls_seg Tryz.func15 (c := Tryz.f15.body.getD .skip) (by kernel_rfl) (by show 4 ≤ Tryz.f15.ntmps; rw [Tryz.ntmps15]; omega) hfit hids ?_ (fun a hat => ?_)
  · refine ⟨trivial, by show 1 < 96; omega, ?_, by show 13 < 96; omega, trivial⟩
    unfold clArg; split
    · trivial
    · show 7 < 96; omega
  rw [Tryz.ntmps15] at hat
  -- the beginning
  have hB := begs hn hm ps.length O
  unfold beg at hB
  split at hB
  case h_2 => cases hB
  rename_i x env s hev
  simp only [Option.some.injEq, Prod.mk.injEq] at hB
  obtain ⟨hb1, hb2, hb3⟩ := hB
  have hP : s.pre := by rw [hb2]; exact ⟨True.intro, by simp [cmpI]; omega⟩
  have hx : x = .normal := by
    unfold begun at hb1
    split at hb1
    · rename_i he; cases he; rfl
    · cases hb1
  subst hx
  have hs0' : ∀ p ∈ hs0 n many, Like (H15 n many O p.1) p.2 := by
    unfold hs0
    split
    · exact cons_all (.same rfl) nil_all
    · rename_i h
      exact cons_all (.same rfl) <| cons_all (.same (by show H15 n many O 7 = _; unfold H15; rw [if_neg (by omega), if_pos rfl, if_neg h])) nil_all
  refine seg (does_take named mixed noSums_ok (nt := 38) 2 (Tryz.f15.body.getD .skip) 100000 _ _ _ _ (by kernel_rfl) hev) hat (hs_of hids hs0') hP (fun φ1 w1 a1 hφ1 hat1 => ?_) _ (fun a w h => h)
  obtain ⟨_, p, q, φ2, h10, h8, h9, e0, e6, ekeep, hfit2⟩ := begun_fit hb1 hat1.fit (by unfold H15; rw [if_neg (by omega), if_pos rfl]) (fun b h1 h2 => by unfold H15; rw [if_neg (by omega), if_neg (by omega), if_pos ⟨h1, h2⟩]) hOn
  have hj0 := j0_ok (n := n) (many := many) hn.2 hOn
  have hat2 : At κ (heap n many c0 (j0 n many O)) 38 96 [(3, .soslice 13 1 0 0 ps.length ps.length), (8, .ptr 6 0), (10, .ptr 0 0)] φ2 w1 a1 := by
    refine hat1.recast hfit2 (heap_ok hj0) ?_
    exact cons_all ⟨_, hb3, conc_sos (ekeep 13 (.inr ⟨by omega, by omega⟩)).symm, by show 13 < 96; omega⟩ <| cons_all ⟨_, h8, by simp only [conc]; rw [e6], by show 6 < 96; omega⟩ <| cons_all ⟨_, h10, by simp only [conc]; rw [e0], by show 0 < 96; omega⟩ nil_all
  -- the loop
  refine seq_wp (a := takeC 0 (dropC 2 (Tryz.f15.body.getD .skip))) (b := dropC 0 (dropC 2 (Tryz.f15.body.getD .skip))) (by kernel_rfl) ?_
  obtain ⟨env3, s3, hev3, hsl3, hpre3, hnx3, hwr3, _⟩ := viewC_some (w15_r4 ps.length)
  have hP3 : s3.pre := by rw [hpre3]; exact True.intro
  refine seg (does_take named mixed noSums_ok (nt := 38) 0 (takeC 0 (dropC 2 (Tryz.f15.body.getD .skip))) 100000 _ _ _ _ (by kernel_rfl) hev3) hat2 none_mk hP3 (fun φ3 w3 a3 hφ3 hat3 => ?_) _ (fun a w h => h)
  refine block_wp (id := 0) (b := .loop (bodyC (takeC 0 (dropC 2 (Tryz.f15.body.getD .skip))))) (by kernel_rfl) ?_
  refine LoopIn.wp (loop15 (κ := κ) hn.2 hm hps hO (φ0 := φ) (fun a4 w4 h4 => ?_) ps.length 0 (by omega) a3 w3 ⟨φ3, c0, j0 n many O, ?_, ?_, hj0, rfl, fun _ _ => rfl, fun b hb => ?_⟩)
  · -- the end
    show (dropC 0 (dropC 2 (Tryz.f15.body.getD .skip))).wp Tryz.prog _ a4 w4
    obtain ⟨φ4, c, j, hat4, hrun, hj, hoth, hmode, hφ4⟩ := h4
    have hfin : ∀ u, u < n → c.fin u = 3 * many := hrun.ended hn.2 fun u hu => by
      have := hcnt u hu
      rw [List.take_length]; exact this
    have hmodes : ∀ u, c.mode u = .none := fun u => by
      by_cases hu : u < n
      · exact (hrun.toOk.ended hfin).2 u hu
      · exact hmode u (by omega)
    have hmo : mOf c = fun _ => AV.nili := by funext u; unfold mOf; rw [hmodes u]
    have hE : evsOf j = .nils ∨ ∃ k, evsOf j = .soslice 8 8 0 0 k k := by
      unfold evsOf
      split
      · exact .inl rfl
      · exact .inr ⟨_, rfl⟩
    have hv := v15_tail (evsOf j) hE (clOf n many) j.turn (fun u => (j.ats u : Int)) j.cn j.idle j.now j.inv (markOf j) (2 * n + 65) j.cnt (wordsOf n c)
    obtain ⟨x5, env5, s5, s5', hx5, hev5, hres5, hpre5, himp5, hnx5, hwr5, hrows5, hget5⟩ := viewR_some hv
    have hwl := words_len n c
    have hP5 : s5'.pre := by
      rw [hpre5]
      exact ⟨⟨⟨True.intro, by omega⟩, by omega, by rw [room_eq]; omega, by rw [maxLen_eq]; omega⟩, by omega⟩
    have hat4' : At κ (heap n many c j) 38 96 [(8, .ptr 6 0), (10, .ptr 0 0)] φ4 w4 a4 := hat4.recast hat4.fit (heap_ok hj) (cons_all ⟨_, rfl, rfl, by show 6 < 96; omega⟩ <| cons_all ⟨_, rfl, rfl, by show 0 < 96; omega⟩ nil_all)
    have h6 : heap n many c j 6 = some zeroRep := by
      rw [heap_fix (by omega)]
      show j.oth 6 = _
      rw [hoth]; rfl
    have hlike : ∀ p ∈ [(0, AObj.row false (PL' (clOf n many) (.sint .i64 j.turn) (fun _ => .nili) (fun u => .sint .i64 (j.ats u : Int)) (evsOf j) .nils (fun i => .sint .i64 (j.cn i)) j.idle) 83 none), (1, .row false (WL j.now (fun u => .sint .i64 (j.inv u)) (markOf j)) 92 none), (2, .row false (ML (2 * n + 65) (2 * n + 65) j.cnt) 129 none), (3, .row true (wordsOf n c) 40 (some 1)), (6, zeroRep)], Like (heap n many c j p.1) p.2 := by
      refine cons_all (.same ?_) <| cons_all (.same heap1) <| cons_all (.same heap2) <| cons_all (.same heap3) <| cons_all (.same h6) nil_all
      rw [heap_fix (by omega), ← hmo]; rfl
    refine seg_last named mixed noSums_ok hev5 hat4' (hs_of (heap_ok hj) hlike) (himp5 hP5) (fun φ5 w5 a5 hφ5 hat5 hs5 => ?_)
    refine ⟨by rcases hx5 with rfl | rfl <;> first | exact .inl rfl | exact .inr rfl, _, _, _, φ5, s5, s5', _, _, by rw [Tryz.ntmps15]; exact hat5, hs5, hres5, hP5, .inr ⟨by simp, rfl⟩, ?_⟩
    let φ6 : Phi := fun i => φ5 (if i = 20 then 114 else i)
    refine ⟨φ6, c, j, ?_, ⟨hrun.toOk, ⟨_, hj⟩, hfin, hmodes⟩, ?_, fun b hb => ?_⟩
    · have e1 : conc φ5 (evsOf j) = conc φ6 (evsOf j) := by
        unfold evsOf; split
        · rfl
        · exact conc_sos (by show φ5 8 = φ5 (if 8 = 20 then 114 else 8); rw [if_neg (by omega)])
      have e2 : conc φ5 (.soslice 114 1 0 0 (2 * n + 65) (2 * n + 65)) = conc φ6 (.soslice 20 1 0 0 (2 * n + 65) (2 * n + 65)) := conc_sos (by show φ5 114 = φ5 (if 20 = 20 then 114 else 20); rw [if_pos rfl])
      unfold repOf
      simp only [conc, concL] at e1 e2 ⊢
      rw [e1, e2]
    · refine hat5.fit.moved (fun i => if i = 20 then 114 else i) (fun b d x y hb hd he => ?_) (fun b o' hb => ?_)
      · have lt : ∀ {b : Nat} {o : AObj}, Hend n c j O b = some o → b < 96 := fun {b o} h => by
          unfold Hend at h
          split at h
          · omega
          split at h
          · omega
          split at h
          · omega
          · cases h
        have h1 := lt hb
        have h2 := lt hd
        have he' : (if b = 20 then 114 else b) = (if d = 20 then 114 else d) := he
        split at he' <;> split at he' <;> omega
      · have unw : ∀ b, b < 96 → b ≠ 0 → b ≠ 6 → after (heap n many c j) s5 b = heap n many c j b := fun b hb h0 h6 => by
          unfold after
          rw [if_neg (fun hh => by
            have := (hwr5 b (by omega)).1 hh
            simp only [List.mem_cons, List.not_mem_nil, or_false] at this
            omega)]
        unfold Hend at hb
        split at hb
        · rename_i e8
          subst e8
          split at hb
          · cases hb
          · rename_i he
            refine ⟨_, by rw [if_neg (by omega), unw 8 (by omega) (by omega) (by omega), heap8 he], ?_⟩
            cases hb
            exact Same.of_all (D := fun _ => False) (allL_iff.2 fun v hv => (hj.evs.all v hv).2) fun i h => h.elim
        split at hb
        · rename_i _ e20
          subst e20
          cases hb
          have h114 := get_of_names hrows5 0 rfl rfl
          refine ⟨_, by rw [if_pos rfl]; unfold after; rw [if_pos ((hwr5 114 (by omega)).2 (by simp))]; exact h114, ?_⟩
          refine ⟨?_, rfl, rfl⟩
          rw [show List.take ((2 * n + 65) * 1) (List.drop (0 * 1) (wordsOf n c)) = wordsOf n c by
            rw [Nat.zero_mul, List.drop_zero, Nat.mul_one]
            exact List.take_of_length_le (by omega)]
          exact ints_same _ _ _
        split at hb
        · rename_i _ _ e13
          refine ⟨o', ?_, Same.of_all (D := fun _ => False) (hOn b o' hb) fun i h => h.elim⟩
          rw [if_neg (by omega), unw b (by omega) (by omega) (by omega)]
          have hb' : b = 13 ∨ b = 14 ∨ b = 15 := by omega
          have hj' : j.oth b = O b := by
            rw [hoth]
            show (if b = 6 then some zeroRep else O b) = _
            rw [if_neg (by omega)]
          rcases hb' with rfl | rfl | rfl <;> (rw [heap_fix (by omega)]; exact hj'.trans hb)
        · cases hb
    · show φ5 (if b = 20 then 114 else b) = φ b
      rw [if_neg (by omega), hφ5 b (by show b < 96; omega)]
      exact hφ4 b hb
  · refine hat3.recast (hat3.fit.keep (not_wr (fun c o h => (hat2.ids c o h).1) hwr3)) (heap_ok hj0) ?_
    exact cons_all ⟨_, slot_of hsl3 0 rfl rfl, rfl, by show 6 < 96; omega⟩ <| cons_all ⟨_, slot_of hsl3 1 rfl rfl, rfl, by show 0 < 96; omega⟩ <| cons_all ⟨_, slot_of hsl3 2 rfl rfl, rfl, by show 13 < 96; omega⟩ <| cons_all ⟨_, slot_of hsl3 3 rfl rfl, rfl, trivial⟩ <| cons_all ⟨_, slot_of hsl3 4 rfl rfl, rfl, trivial⟩ nil_all
  · refine ⟨ok0, fun u hu => .inr ?_⟩
    simp
  · rw [hφ3 b (by show b < 96; omega), ekeep b (.inr hb), hφ1 b (by show b < 96; omega)]
end Ct
end Go.Proofs.YtpkfimijnkkbjaaGreat

namespace Go.Proofs.YtpkfimijnkkbjaaGreat
namespace Ct
open Ev

variable {κ : Keep}

/-- A scene. -/
def scene (n many pl : Nat) : List AV := [.int .i64 (n : Nat), .slice 1 0 3 3, clArg n many, .soslice 13 1 0 0 pl pl]
theorem w8_box (n many pl : Nat) : viewC [2, 1] [96, 97] (evCode Tryz.prog (evFn Tryz.prog noSums 60) 15 100000 (takeC 0 (Tryz.f8.body.getD .skip)) (argsE [.agg (scene n many pl)] 0) ⟨mk [], 96, 0, 0, True, []⟩) =
    some (.normal, [some (.ptr 97 0), some (.ptr 96 0)], True, 98, [96, 97], [some (.row false (scene n many pl) 26 none), some zeroRep]) := by
  unfold scene clArg
  cases many with
  | zero => kernel_rfl
  | succ k => kernel_rfl
theorem w8_load (n many pl : Nat) : viewO [2, 5, 7, 9, 11] [] (evText Tryz.prog (evFn Tryz.prog noSums 60) 15 (opsA (takeC 0 (dropC 0 (Tryz.f8.body.getD .skip)))) ((opsA (takeC 0 (dropC 0 (Tryz.f8.body.getD .skip)))).toList.take 8) [(2, .ptr 97 0), (1, .ptr 96 0)] ⟨mk [(96, .row false (scene n many pl) 26 none)], 98, 0, 0, True, []⟩) =
    some ([some (.ptr 97 0), some (.int .i64 (n : Nat)), some (.slice 1 0 3 3), some (clArg n many), some (.soslice 13 1 0 0 pl pl)], True, 98, [], []) := by
  unfold scene clArg
  cases many with
  | zero => kernel_rfl
  | succ k => kernel_rfl
theorem w8_last (n : Nat) (ev : AV) (hev : ev = .nils ∨ ∃ k, ev = .soslice 8 8 0 0 k k) (c0 c1 c2 c3 c4 x y : Int) :
    viewQ Tryz.prog Tryz.f8.results.toList (evText Tryz.prog (evFn Tryz.prog noSums 60) 15 (opsA (takeC 0 (dropC 0 (Tryz.f8.body.getD .skip)))) ((opsA (takeC 0 (dropC 0 (Tryz.f8.body.getD .skip)))).toList.drop 9)
      [(12, .tup [.agg [ev, .soslice 20 1 0 0 (2 * n + 65) (2 * n + 65), .sint .i64 c0, .sint .i64 c1, .sint .i64 c2, .sint .i64 c3, .sint .i64 c4, .sint .i64 x, .sint .i64 y], .int .i64 0]), (2, .ptr 15 0)] ⟨mk [(15, zeroRep)], 96, 0, 0, True, []⟩) =
    some ([.agg [ev, .soslice 20 1 0 0 (2 * n + 65) (2 * n + 65), .sint .i64 c0, .sint .i64 c1, .sint .i64 c2, .sint .i64 c3, .sint .i64 c4, .sint .i64 x, .sint .i64 y], .int .i64 0], True, 96, [15]) := by
  rcases hev with rfl | ⟨k, rfl⟩
  · kernel_rfl
  · kernel_rfl
theorem r8_is : takeC 0 (dropC 0 (Tryz.f8.body.getD .skip)) = .region 1 (opsA (takeC 0 (dropC 0 (Tryz.f8.body.getD .skip)))) false := by kernel_rfl
theorem r8_size : (opsA (takeC 0 (dropC 0 (Tryz.f8.body.getD .skip)))).size = 13 := by kernel_rfl
theorem r8_op : ∃ r, (opsA (takeC 0 (dropC 0 (Tryz.f8.body.getD .skip))))[8]? = some r ∧ r.op = .call { callee := .value (.func 15), args := #[.tmp 5, .tmp 7, .tmp 9, .tmp 11], argTypes := #[3, 22, 23, 24] } ∧ r.guard = none ∧ r.dst = some 12 := ⟨((opsA (takeC 0 (dropC 0 (Tryz.f8.body.getD .skip))))[8]?).getD default, by kernel_rfl, by kernel_rfl, by kernel_rfl, by kernel_rfl⟩
theorem f15_is : ∃ fn, Tryz.prog.funcs[15]? = some fn ∧ fn.body.isSome = true := ⟨_, Tryz.func15, by kernel_rfl⟩

theorem clArg_all {n many nx : Nat} (h : 7 < nx) : (clArg n many).All (· < nx) := by
  unfold clArg; split
  · trivial
  · exact h
theorem clArg_conc {n many : Nat} {φ φ' : Phi} (h : φ' 7 = φ 7) : conc φ' (clArg n many) = conc φ (clArg n many) := by
  unfold clArg; split
  · rfl
  · exact conc_os h
theorem H15_ids {n many : Nat} {O : Nat → Option AObj} (hOn : ∀ b o, O b = some o → o.All fun _ => False) : ∀ c o, H15 n many O c = some o → c < 96 ∧ o.All (· < 96) := fun c o h => by
  unfold H15 at h
  split at h
  · cases h; exact ⟨by omega, by simp [specRow, AObj.All, AllL, AV.All]⟩
  split at h
  · split at h
    · cases h
    · cases h; exact ⟨by omega, calls_all n many⟩
  split at h
  · exact ⟨by omega, (hOn c o h).mono fun i hi => hi.elim⟩
  · cases h

theorem play8 {n many : Nat} (hn : 1 ≤ n ∧ n ≤ 6) (hm : many ≤ 5) {O : Nat → Option AObj} {ps : List Int} (hps : ps.length ≤ 65536) (hcnt : ∀ u : Nat, u < n → 300 * many ≤ ps.count (u : Int)) (hO : O 13 = some (.row true (ps.map fun x => .sint .i64 x) 3 (some 1)))
    (hO15 : O 15 = none) (hOn : ∀ b o, O b = some o → o.All fun _ => False) {φ : Phi} {w : World} (hfit : FitH κ (H15 n many O) φ w) :
    Calls Tryz.prog 8 (concL φ [.agg (scene n many ps.length)]).toArray w (fun e w' => ∃ (φ' : Phi) (c : Cf) (j : Jk), e = .returned (conc φ' (.tup [repOf n j, .int .i64 0])) ∧ Ended n many c j ∧ FitH κ (Hend n c j O) φ' w' ∧ ∀ b, 12 < b ∧ b < 15 → φ' b = φ b) := by
  have hall : AllL (· < 96) [.agg (scene n many ps.length)] := by
    refine ⟨?_, trivial⟩
    unfold AV.All
    exact ⟨trivial, by show 1 < 96; omega, clArg_all (by omega), by show 13 < 96; omega, trivial⟩
  refine calls_seg Tryz.func8 (c := Tryz.f8.body.getD .skip) (by kernel_rfl) (by show 1 ≤ Tryz.f8.ntmps; rw [Tryz.ntmps8]; omega) hfit (H15_ids hOn) hall (fun a hat => ?_)
  rw [Tryz.ntmps8] at hat
  obtain ⟨env1, s1, hev1, hsl1, hpre1, hnx1, hwr1, hrows1⟩ := viewC_some (w8_box n many ps.length)
  have hP1 : s1.pre := by rw [hpre1]; exact True.intro
  refine seg (does_take named mixed noSums_ok (nt := 15) 0 (Tryz.f8.body.getD .skip) 100000 _ _ _ _ (by kernel_rfl) hev1) hat none_mk hP1 (fun φ1 w1 a1 hφ1 hat1 => ?_) _ (fun a w h => h)
  rw [hnx1] at hat1
  have hat1' : At κ (after (H15 n many O) s1) 15 98 [(2, .ptr 97 0), (1, .ptr 96 0)] φ1 w1 a1 := hat1.recast hat1.fit hat1.ids (cons_all ⟨_, slot_of hsl1 0 rfl rfl, rfl, by show 97 < 98; omega⟩ <| cons_all ⟨_, slot_of hsl1 1 rfl rfl, rfl, by show 96 < 98; omega⟩ nil_all)
  have h96 : after (H15 n many O) s1 96 = some (.row false (scene n many ps.length) 26 none) := by
    unfold after; rw [if_pos ((hwr1 96 (by omega)).2 (by simp))]; exact get_of_names hrows1 0 rfl rfl
  have h97 : after (H15 n many O) s1 97 = some zeroRep := by
    unfold after; rw [if_pos ((hwr1 97 (by omega)).2 (by simp))]; exact get_of_names hrows1 1 rfl rfl
  have hlow : ∀ b, b < 96 → after (H15 n many O) s1 b = H15 n many O b := fun b hb => by
    unfold after
    rw [if_neg (fun hh => by
      have := (hwr1 b (by omega)).1 hh
      simp only [List.mem_cons, List.not_mem_nil, or_false] at this
      omega)]
  refine seq_wp (a := takeC 0 (dropC 0 (Tryz.f8.body.getD .skip))) (b := .ret) (by kernel_rfl) ?_
  refine region_wp r8_is ?_
  rw [r8_size]
  -- the scene's parts
  obtain ⟨env2, s2, hev2, hsl2, hpre2, hnx2, hwr2, _⟩ := viewO_some (w8_load n many ps.length)
  have hP2 : s2.pre := by rw [hpre2]; exact True.intro
  have hl8 : ((opsA (takeC 0 (dropC 0 (Tryz.f8.body.getD .skip)))).toList.take 8).length = 8 := by kernel_rfl
  rw [show List.range 13 = List.range' 0 ((opsA (takeC 0 (dropC 0 (Tryz.f8.body.getD .skip)))).toList.take 8).length ++ [8, 9, 10, 11, 12] by rw [hl8]; rfl]
  refine seg (does_ops named (sound named mixed noSums_ok 60) (nt := 15) _ 0 _ _ _ _ hev2 (fun j hj => by rw [hl8] at hj; rw [List.getElem?_take, if_pos hj, Nat.zero_add]; simp)) hat1' (hs_of hat1'.ids (cons_all (.same h96) nil_all)) hP2 (fun φ2 w2 a2 hφ2 hat2 => ?_) _ [8, 9, 10, 11, 12] (fun a w h => h)
  -- the play
  let O' : Nat → Option AObj := fun b => if b = 15 then some zeroRep else O b
  have hO'n : ∀ b o, O' b = some o → o.All fun _ => False := fun b o h => by
    have h' : (if b = 15 then some zeroRep else O b) = some o := h
    split at h'
    · cases h'; simp [zeroRep, AObj.All, AllL, AV.All]
    · exact hOn b o h'
  let φ3 : Phi := fun i => φ2 (if i = 15 then 97 else i)
  have hfit3 : FitH κ (H15 n many O') φ3 w2 := by
    refine (hat2.fit.keep (H' := after (H15 n many O) s1) (fun c o h => ?_)).moved (fun i => if i = 15 then 97 else i) (fun b d x y hb hd he => ?_) (fun b o' hb => ?_)
    · unfold after
      by_cases hc : c < 128
      · rw [if_neg (fun hh => by have := (hwr2 c hc).1 hh; cases this)]; exact h
      · exact absurd (hat1'.ids c o h).1 (by omega)
    · have h1 := (H15_ids hO'n b x hb).1
      have h2 := (H15_ids hO'n d y hd).1
      have he' : (if b = 15 then 97 else b) = (if d = 15 then 97 else d) := he
      split at he' <;> split at he' <;> omega
    · have hlt := (H15_ids hO'n b o' hb).1
      refine ⟨o', ?_, Same.of_all (D := fun i => i ≠ 15) ?_ fun i hi => by show φ2 (if i = 15 then 97 else i) = φ2 i; rw [if_neg hi]⟩
      · by_cases e : b = 15
        · subst e
          rw [if_pos rfl, h97]
          unfold H15 at hb
          rw [if_neg (by omega), if_neg (by omega), if_pos ⟨by omega, by omega⟩] at hb
          exact hb
        · rw [if_neg e, hlow b hlt, ← hb]
          unfold H15
          split
          · rfl
          split
          · rfl
          split
          · show O b = if b = 15 then some zeroRep else O b
            rw [if_neg e]
          · rfl
      · unfold H15 at hb
        split at hb
        · cases hb; simp [specRow, AObj.All, AllL, AV.All]
        split at hb
        · split at hb
          · cases hb
          · cases hb; exact calls_all n many
        split at hb
        · exact (hO'n b o' hb).mono fun i h => h.elim
        · cases hb
  have hat3 : At κ (H15 n many O') 15 96 [(2, .ptr 15 0), (5, .int .i64 (n : Nat)), (7, .slice 1 0 3 3), (9, clArg n many), (11, .soslice 13 1 0 0 ps.length ps.length)] φ3 w2 a2 := by
    refine hat2.recast hfit3 (H15_ids hO'n) ?_
    exact cons_all ⟨_, slot_of hsl2 0 rfl rfl, rfl, by show 15 < 96; omega⟩ <| cons_all ⟨_, slot_of hsl2 1 rfl rfl, rfl, trivial⟩ <| cons_all ⟨_, slot_of hsl2 2 rfl rfl, rfl, by show 1 < 96; omega⟩ <| cons_all ⟨_, slot_of hsl2 3 rfl rfl, (clArg_conc (φ := φ2) (φ' := φ3) (n := n) (many := many) rfl).symm, clArg_all (by omega)⟩ <| cons_all ⟨_, slot_of hsl2 4 rfl rfl, conc_sos rfl, by show 13 < 96; omega⟩ nil_all
  obtain ⟨r, hr1, hr2, hr3, hr4⟩ := r8_op
  rw [wpOps_cons]
  have hO13' : O' 13 = some (.row true (ps.map fun x => .sint .i64 x) 3 (some 1)) := by
    show (if 13 = 15 then some zeroRep else O 13) = _
    rw [if_neg (by omega), hO]
  refine seg_call2 named f15_is hr1 hr2 hr3 (avs := [.int .i64 (n : Nat), .slice 1 0 3 3, clArg n many, .soslice 13 1 0 0 ps.length ps.length]) rfl hat3 (play15 hn hm hps hcnt hO13' hO'n hfit3) ?_
  rintro e w4 ⟨φ4, c, j, rfl, hend, hfit4, hφ4⟩
  obtain ⟨k, hj⟩ := hend.jok
  have hEall : (evsOf j).All (· < 96) := by
    unfold evsOf; split
    · trivial
    · show 8 < 96; omega
  have hids4 : ∀ b o, Hend n c j O' b = some o → b < 96 ∧ o.All (· < 96) := fun b o h => by
    unfold Hend at h
    split at h
    · split at h
      · cases h
      · cases h; exact ⟨by omega, allL_iff.2 fun v hv => ((hj.evs.all v hv).2).mono fun i h => h.elim⟩
    split at h
    · cases h; exact ⟨by omega, ints_all _ _ _⟩
    split at h
    · exact ⟨by omega, (hO'n b o h).mono fun i h => h.elim⟩
    · cases h
  refine ⟨φ4, Hend n c j O', 96, .tup [repOf n j, .int .i64 0], [(2, .ptr 15 0)], _, rfl, Nat.le_refl _, fun t u hu => ?_, hfit4, hids4, ?_, by rw [hr4]; rfl, fun a5 hat5 => ?_⟩
  · have hm := look_mem hu
    simp only [List.mem_cons, List.not_mem_nil, or_false, Prod.mk.injEq] at hm
    obtain ⟨rfl, rfl⟩ := hm
    exact ⟨rfl, by simp only [conc]; rw [hφ4 15 ⟨by omega, by omega⟩]⟩
  · unfold AV.All repOf
    exact ⟨by unfold AV.All; exact ⟨hEall, by show 20 < 96; omega, trivial, trivial, trivial, trivial, trivial, trivial, trivial, trivial⟩, trivial, trivial⟩
  -- the report
  have hE : evsOf j = .nils ∨ ∃ k, evsOf j = .soslice 8 8 0 0 k k := by
    unfold evsOf
    split
    · exact .inl rfl
    · exact .inr ⟨_, rfl⟩
  obtain ⟨env6, s6, s6', hev6, hres6, hpre6, himp6, hnx6, hwr6⟩ := viewQ_some (w8_last n (evsOf j) hE (j.cnt 0) (j.cnt 1) (j.cnt 2) (j.cnt 3) (j.cnt 4) j.now j.idle)
  have hP6 : s6'.pre := by rw [hpre6]; exact True.intro
  have h15 : Hend n c j O' 15 = some zeroRep := by
    unfold Hend
    rw [if_neg (by omega), if_neg (by omega), if_pos ⟨by omega, by omega⟩]
    exact if_pos rfl
  have hl9 : ((opsA (takeC 0 (dropC 0 (Tryz.f8.body.getD .skip)))).toList.drop 9).length = 4 := by kernel_rfl
  rw [show [9, 10, 11, 12] = List.range' 9 ((opsA (takeC 0 (dropC 0 (Tryz.f8.body.getD .skip)))).toList.drop 9).length ++ [] by rw [hl9]; rfl]
  refine seg_d (does_ops named (sound named mixed noSums_ok 60) (nt := 15) _ 9 _ _ _ _ hev6 (fun j hj => by rw [List.getElem?_drop]; simp)) hat5 (hs_of hids4 (cons_all (.same h15) nil_all)) (himp6 hP6)
    (K := fun a w => wpOps Tryz.prog (opsA (takeC 0 (dropC 0 (Tryz.f8.body.getD .skip)))) _ [] a w) (fun φ7 w7 a7 hφ7 hat7 hs7 => ?_) _ [] (fun a w h => h)
  refine wp_ret ⟨.inr rfl, _, _, _, φ7, s6, s6', _, _, by rw [Tryz.ntmps8]; exact hat7, hs7, hres6, hP6, .inr ⟨by simp, rfl⟩, φ7, c, j, rfl, hend, ?_, fun b hb => ?_⟩
  · refine hat7.fit.sub fun b o hb => ?_
    have hlt : b < 96 ∧ b ≠ 15 ∧ Hend n c j O' b = some o := by
      unfold Hend at hb ⊢
      split at hb
      · rename_i e; exact ⟨by omega, by omega, by rw [if_pos e]; exact hb⟩
      split at hb
      · rename_i e1 e2; exact ⟨by omega, by omega, by rw [if_neg e1, if_pos e2]; exact hb⟩
      split at hb
      · rename_i e1 e2 e3
        have e15 : b ≠ 15 := fun e => by rw [e, hO15] at hb; cases hb
        refine ⟨by omega, e15, ?_⟩
        rw [if_neg e1, if_neg e2, if_pos e3]
        show (if b = 15 then some zeroRep else O b) = some o
        rw [if_neg e15]; exact hb
      · cases hb
    unfold after
    rw [if_neg (fun hh => by
      have := (hwr6 b (by omega)).1 hh
      simp only [List.mem_cons, List.not_mem_nil, or_false] at this
      omega)]
    exact hlt.2.2
  · rw [hφ7 b (by show b < 96; omega), hφ4 b ⟨hb.1, by omega⟩]
    show φ2 (if b = 15 then 97 else b) = φ b
    rw [if_neg (by omega), hφ2 b (by show b < 98; omega), hφ1 b (by show b < 96; omega)]
end Ct
end Go.Proofs.YtpkfimijnkkbjaaGreat

namespace Go.Proofs.YtpkfimijnkkbjaaGreat
namespace Ct
open Ev

/-- What stands behind the play. -/
def T4 (c : Code) : Code := dropC 0 (dropC 0 (D4 c))
/-- The words at the end: tallies, the adder, announcements, the log. -/
def wordsLit (n many : Nat) (x y : Nat → Int) : List AV := (List.range (2 * n + 65)).map fun i =>
  if i < n then .int .u64 many else if i = n then .int .u64 ((n * many : Nat) : Int) else if i < 2 * n + 1 then .sint .u64 (y i) else if i - (2 * n + 1) < n * many then .sint .u64 (x (i - (2 * n + 1))) else .int .u64 0
def evsLit (k : Nat) (z : Nat → AV) (r : Nat → Int) : List AV := (List.range (8 * k)).map fun i => if i % 8 = 2 then .sint .i64 (r (i / 8)) else z i
def osT (n many : Nat) : List Ans := ((List.range (n * many)).map fun _ => .br true) ++ (List.range (3 * n * many)).map fun _ => .br false
def clL (n many : Nat) : AV := if many = 0 then .nils else .oslice 21 6 0 0 (3 * n * many) (3 * n * many)
def evL (n many : Nat) : AV := if many = 0 then .nils else .oslice 8 8 0 0 (3 * n * many) (3 * n * many)
def tailRow (n many : Nat) (c : Nat → Int) (a b : Int) : List AV := [evL n many, .oslice 20 1 0 0 (2 * n + 65) (2 * n + 65), .sint .i64 (c 0), .sint .i64 (c 1), .sint .i64 (c 2), .sint .i64 (c 3), .sint .i64 (c 4), .sint .i64 a, .sint .i64 b]
def tailHs (n many : Nat) (x y r : Nat → Int) (z : Nat → AV) (c : Nat → Int) (a b : Int) (v1 v3 : Value) : List (Nat × AObj) := (14, .row false [.int .i64 n, .opq v1, clL n many, .opq v3] 26 none) :: (97, .row false (tailRow n many c a b) 34 none) :: (20, .row false (wordsLit n many x y) 40 (some 1)) ::
  (if many = 0 then [] else [(8, .row false (evsLit (3 * n * many) z r) 48 (some 8))])
def tailSt (n many : Nat) (x y r : Nat → Int) (z : Nat → AV) (c : Nat → Int) (a b : Int) (v1 v3 : Value) : St := ⟨mk (tailHs n many x y r z c a b v1 v3), 98, 0, 0, True, osT n many⟩
def tailRun (P : Program) (d : Code) (n many : Nat) (x y r : Nat → Int) (z : Nat → AV) (c : Nat → Int) (a b : Int) (v1 v3 : Value) := evCode P (evFn P liveSum 60) 170 100000 (T4 d) [(0, .int .i64 n), (7, .int .i64 many), (8, .ptr 14 0), (11, .ptr 97 0), (12, .int .i64 0)] (tailSt n many x y r z c a b v1 v3)
/-- What a last piece shows, but for the heap. -/
def viewP (P : Program) (res : List ResultVar) (r : Res (Ex × Env)) : Option (List AV × Prop) := (viewR P res [] r).map fun p => (p.1, p.2.1)
def preX (x : Nat → Int) : Nat → Prop → Prop
  | 0, p => p
  | k + 1, p => preX x k p ∧ cmpI .neq (x k) 0 = true
def preR (r : Nat → Int) : Nat → Prop → Prop
  | 0, p => p
  | k + 1, p => preR r k p ∧ cmpI .eql (r k) 0 = false
theorem preX_ok {x : Nat → Int} {p : Prop} (hp : p) : ∀ k, (∀ i, i < k → x i ≠ 0) → preX x k p
  | 0, _ => hp
  | k + 1, h => ⟨preX_ok hp k fun i hi => h i (by omega), by simp [cmpI, h k (by omega)]⟩
theorem preR_ok {r : Nat → Int} {p : Prop} (hp : p) : ∀ k, (∀ i, i < k → r i ≠ 0) → preR r k p
  | 0, _ => hp
  | k + 1, h => ⟨preR_ok hp k fun i hi => h i (by omega), by simp [cmpI, h k (by omega)]⟩
end Ct
end Go.Proofs.YtpkfimijnkkbjaaGreat

namespace Go.Proofs.YtpkfimijnkkbjaaGreat
namespace Ct
open Ev Go.RowKit

variable {κ : Keep}

/-- The region that calls Play. -/
def R18 (c : Code) : Code := takeC 0 (dropC 0 (D4 c))
theorem r18_is : R18 (Tryz.f4.body.getD .skip) = .region 18 (opsA (R18 (Tryz.f4.body.getD .skip))) false := by kernel_rfl
theorem r18_size : (opsA (R18 (Tryz.f4.body.getD .skip))).size = 8 := by kernel_rfl
theorem r18_op : ∃ r, (opsA (R18 (Tryz.f4.body.getD .skip)))[1]? = some r ∧ r.op = .call { callee := .value (.func 8), args := #[.tmp 73], argTypes := #[26] } ∧ r.guard = none ∧ r.dst = some 74 := ⟨((opsA (R18 (Tryz.f4.body.getD .skip)))[1]?).getD default, by kernel_rfl, by kernel_rfl, by kernel_rfl, by kernel_rfl⟩
theorem f8_is : ∃ fn, Tryz.prog.funcs[8]? = some fn ∧ fn.body.isSome = true := ⟨_, Tryz.func8, by kernel_rfl⟩
/-- The slots that are used behind the loops. -/
def E5 (n many : Nat) : Env := [(0, .int .i64 n), (7, .int .i64 many), (8, .ptr 14 0)]
theorem u18_load (n many pl : Nat) : viewO [0, 7, 8, 73] [] (evText Tryz.prog (evFn Tryz.prog liveSum 60) 170 (opsA (R18 (Tryz.f4.body.getD .skip))) ((opsA (R18 (Tryz.f4.body.getD .skip))).toList.take 1) (E5 n many) ⟨mk [(14, .row false (scene n many pl) 26 none)], 96, 0, 0, True, []⟩) =
    some ([some (.int .i64 n), some (.int .i64 many), some (.ptr 14 0), some (.agg (scene n many pl))], True, 96, [], []) := by
  unfold scene clArg
  cases many with
  | zero => kernel_rfl
  | succ k => kernel_rfl
theorem u18_post (n many k : Nat) (ev : AV) (hev : ev = .nils ∨ ev = .soslice 8 8 0 0 k k) (c0 c1 c2 c3 c4 x y : Int) :
    viewO [0, 7, 8, 11, 12] [96] (evText Tryz.prog (evFn Tryz.prog liveSum 60) 170 (opsA (R18 (Tryz.f4.body.getD .skip))) ((opsA (R18 (Tryz.f4.body.getD .skip))).toList.drop 2)
      ((74, .tup [.agg [ev, .soslice 20 1 0 0 (2 * n + 65) (2 * n + 65), .sint .i64 c0, .sint .i64 c1, .sint .i64 c2, .sint .i64 c3, .sint .i64 c4, .sint .i64 x, .sint .i64 y], .int .i64 0]) :: E5 n many) ⟨mk [], 96, 0, 0, True, []⟩) =
    some ([some (.int .i64 n), some (.int .i64 many), some (.ptr 14 0), some (.ptr 96 0), some (.int .i64 0)], True, 97, [96], [some (.row false [ev, .soslice 20 1 0 0 (2 * n + 65) (2 * n + 65), .sint .i64 c0, .sint .i64 c1, .sint .i64 c2, .sint .i64 c3, .sint .i64 c4, .sint .i64 x, .sint .i64 y] 34 none)]) := by
  rcases hev with rfl | rfl
  · kernel_rfl
  · kernel_rfl
end Ct
end Go.Proofs.YtpkfimijnkkbjaaGreat
