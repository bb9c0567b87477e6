/-
  TopCounts answers true.
-/
import Derived.Test.YtpkfimijnkkbjaaGreatJ39
set_option linter.unusedVariables false
namespace Go.Proofs.YtpkfimijnkkbjaaGreat
namespace Ct
open Ev Go.RowKit

variable {κ : Keep}

theorem tail_all {n many : Nat} (hn : 1 ≤ n ∧ n ≤ 6) (hm : many ≤ 5) (x y r : Nat → Int) (z : Nat → AV) (c : Nat → Int) (a b : Int) (v1 v3 : Value) : viewP Tryz.prog Tryz.f4.results.toList (tailRun Tryz.prog (Tryz.f4.body.getD .skip) n many x y r z c a b v1 v3) = some ([.bool true], preR r (3 * n * many) (preX x (n * many) True)) := by
  have : n = 1 ∨ n = 2 ∨ n = 3 ∨ n = 4 ∨ n = 5 ∨ n = 6 := by omega
  rcases this with rfl | rfl | rfl | rfl | rfl | rfl
  · exact tail1 many (by omega) ..
  · exact tail2 many (by omega) ..
  · exact tail3 many (by omega) ..
  · exact tail4 many (by omega) ..
  · exact tail5 many (by omega) ..
  · exact tail6 many (by omega) ..
theorem viewP_some {P : Program} {res : List ResultVar} {r : Res (Ex × Env)} {vs : List AV} {p : Prop} (h : viewP P res r = some (vs, p)) : ∃ x env s s', (x = .normal ∨ x = .ret) ∧ r = .ok (x, env) s ∧ evResults P env res s = .ok vs s' ∧ s'.pre = p ∧ (s'.pre → s.pre) := by
  unfold viewP at h
  cases hv : viewR P res [] r with
  | none => rw [hv] at h; cases h
  | some q =>
    obtain ⟨vs', p', nx, wr, l⟩ := q
    rw [hv] at h
    cases h
    obtain ⟨x, env, s, s', h1, h2, h3, h4, h5, _⟩ := viewR_some hv
    exact ⟨x, env, s, s', h1, h2, h3, h4, h5⟩

/-- What was below the mark is as it was. -/
def Kept (κ : Keep) (w : World) : Prop := (∀ r, r < κ.mark → w.heap[r]? = κ.was.heap[r]?) ∧ κ.mark ≤ w.heap.size ∧ w.os = κ.was.os ∧ w.output = κ.was.output
theorem kept_of {H : Nat → Option AObj} {φ : Phi} {w : World} (h : FitH κ H φ w) : Kept κ w := ⟨h.old, h.size, h.env⟩
/-- What TopCounts is to come to. -/
def post4 (κ : Keep) (e : Ending) (w : World) : Prop := e = .returned (.bool true) ∧ Kept κ w
def B4 (κ : Keep) : Exit → Act → World → Prop := fun x a' w' => (x = .normal ∨ x = .ret) ∧ ∃ (H' : Nat → Option AObj) (nx' : Nat) (env' : Env) (φ' : Phi) (s s' : St) (vs : List AV) (v : AV), At κ H' 170 nx' env' φ' w' a' ∧
      (∀ c o, s.get c = some o → ∃ o0, H' c = some o0 ∧ Same φ' φ' o0 o) ∧ evResults Tryz.prog env' Tryz.f4.results.toList s = .ok vs s' ∧ s'.pre ∧ (vs = [v] ∨ (vs.length ≠ 1 ∧ v = .tup vs)) ∧ post4 κ (.returned (conc φ' v)) w'
/-- A last piece that answers true. -/
theorem last4 {F : Nat} {c : Code} {s : St} {env : Env} {p : Prop} {H : Nat → Option AObj} {φ : Phi} {w : World} {a : Act} (hv : viewP Tryz.prog Tryz.f4.results.toList (evCode Tryz.prog (evFn Tryz.prog liveSum 60) 170 F c env s) = some ([.bool true], p)) (hp : p) (hat : At κ H 170 s.next env φ w a)
    (hs : ∀ c o, s.get c = some o → o.All (· < s.next) ∧ ∃ o0, H c = some o0 ∧ Same φ φ o0 o) : c.wp Tryz.prog (B4 κ) a w := by
  obtain ⟨x, env', s1, s2, hx, hev, hres, hpre, himp⟩ := viewP_some hv
  have hP : s2.pre := by rw [hpre]; exact hp
  refine seg_last named mixed liveOk hev hat hs (himp hP) (fun φ' w' a' hφ hat' hs' => ?_)
  exact ⟨by rcases hx with rfl | rfl <;> first | exact .inl rfl | exact .inr rfl, _, _, _, φ', s1, s2, _, _, hat', hs', hres, hP, .inl rfl, rfl, kept_of hat'.fit⟩

theorem hfin_of (n many : Nat) (x y r : Nat → Int) (z : Nat → AV) (c : Nat → Int) (p q : Int) (v1 v3 : Value) : ∀ o ∈ tailHs n many x y r z c p q v1 v3, Hfin (tailHs n many x y r z c p q v1 v3) o.1 = some o.2 := by
  unfold tailHs
  refine cons_all rfl <| cons_all rfl <| cons_all rfl ?_
  split
  · exact nil_all
  · exact cons_all rfl nil_all
theorem tail_wp {n many : Nat} (hn : 1 ≤ n ∧ n ≤ 6) (hm : many ≤ 5) {a : Act} {w : World} (h : At6 κ n many a w) : (T4 (Tryz.f4.body.getD .skip)).wp Tryz.prog (B4 κ) a w := by
  obtain ⟨φ, x, y, r, z, c, p, q, v1, v3, hx, hr, hat⟩ := h
  exact last4 (tail_all hn hm x y r z c p q v1 v3) (preR_ok (preX_ok True.intro _ hx) _ hr) hat (hs_of hat.ids fun o ho => .same (hfin_of n many x y r z c p q v1 v3 o ho))

theorem none_hs {φ : Phi} {nx : Nat} {oo : List Ans} : ∀ c o, St.get ⟨mk [], nx, 0, 0, True, oo⟩ c = some o → o.All (· < nx) ∧ ∃ o0, (fun _ => none : Nat → Option AObj) c = some o0 ∧ Same φ φ o0 o := none_mk
theorem none_ids {nx : Nat} : ∀ c o, (fun _ => none : Nat → Option AObj) c = some o → c < nx ∧ o.All (· < nx) := fun c o h => by cases h
theorem none_fit (w : World) (φ : Phi) : FitH ⟨w.heap.size, w⟩ (fun _ => none) φ w :=
  ⟨fun c o h => (by cases h), fun b c x y h => (by cases h), fun c o h => (by cases h), fun r _ => rfl, Nat.le_refl _, rfl, rfl⟩
theorem none_keep {φ : Phi} {w : World} {H : Nat → Option AObj} (h : FitH κ H φ w) : FitH κ (fun _ => none) φ w := h.sub fun c o h => by cases h

/-- Behind the scene: all that TopCounts does with it. -/
theorem counts_go {n many : Nat} (hn : 1 ≤ n ∧ n ≤ 6) (hm : many ≤ 5) (hk : κ.mark = κ.was.heap.size) {a0 : Option Addr} {cap : Nat} {ps0 : List Int} (h0 : IsInts .i64 κ.was a0 ps0) (han : a0 = none → ps0 = [] ∧ cap = 0) (hlen : ps0.length ≤ 4000) (hne : ps0 ≠ [] ∨ many ≠ 0)
    {φ : Phi} {w : World} {a : Act} (hat : At κ (fun _ => none) 170 96 [(0, .int .i64 (n : Nat)), (7, .int .i64 (many : Nat)), (2, .opq (.slice a0 ps0.length cap))] φ w a) : (dropC 2 (Tryz.f4.body.getD .skip)).wp Tryz.prog (B4 κ) a w := by
  have hmade := made_all hn hm (.slice a0 ps0.length cap)
  cases hrun : sceneRun Tryz.prog (Tryz.f4.body.getD .skip) n many (.slice a0 ps0.length cap) with
  | fail l => rw [hrun] at hmade; simp [made, madeOk] at hmade
  | ok xe s =>
    obtain ⟨x, env⟩ := xe
    rw [hrun] at hmade
    have hx : x = .normal ∧ s.pre := by
      unfold made at hmade
      split at hmade
      case h_2 => cases hmade
      rename_i env' s' he
      cases he
      split at hmade
      case h_2 => cases hmade
      split at hmade
      case h_2 => cases hmade
      simp only [madeOk, Option.some.injEq, Prod.mk.injEq] at hmade
      exact ⟨rfl, by rw [hmade.2.1]; exact True.intro⟩
    obtain ⟨rfl, hP⟩ := hx
    refine seg (does_take named mixed liveOk (nt := 170) 1 (dropC 2 (Tryz.f4.body.getD .skip)) 100000 _ _ _ _ (by kernel_rfl) hrun) hat none_hs hP (fun φ1 w1 a1 hφ1 hat1 => ?_) _ (fun a w h => h)
    obtain ⟨_, _, q, φ2, h8, h00, h7, h14, hfit2⟩ := made_fit hmade hat1.fit
    have hids2 := at4_ids (n := n) (many := many) (pv := .slice a0 ps0.length cap) (own := none) (.inl rfl)
    have hat2 : At κ (H4 n many (.opq (.slice a0 ps0.length cap)) none) 170 96 [(0, .sint .i64 n), (7, .sint .i64 many), (8, .ptr 14 0)] φ2 w1 a1 := by
      refine hat1.recast hfit2 hids2 ?_
      exact cons_all ⟨_, h00, rfl, trivial⟩ <| cons_all ⟨_, h7, rfl, trivial⟩ <| cons_all ⟨_, h8, by simp only [conc]; rw [h14], by show 14 < 96; omega⟩ nil_all
    show (D4 (Tryz.f4.body.getD .skip)).wp Tryz.prog (B4 κ) a1 w1
    refine seq_wp (a := takeC 0 (D4 (Tryz.f4.body.getD .skip))) (b := dropC 0 (D4 (Tryz.f4.body.getD .skip))) (by kernel_rfl) ?_
    obtain ⟨env3, s3, hev3, hsl3, hpre3, hnx3, hwr3, _⟩ := viewC_some (u4_start n many)
    have hP3 : s3.pre := by rw [hpre3]; exact True.intro
    refine seg (does_take named mixed liveOk (nt := 170) 0 (takeC 0 (D4 (Tryz.f4.body.getD .skip))) 100000 _ _ _ _ (by kernel_rfl) hev3) hat2 none_mk hP3 (fun φ3 w3 a3 hφ3 hat3 => ?_) _ (fun a w h => h)
    refine block_wp (id := 4) (b := .loop (bodyC (takeC 0 (D4 (Tryz.f4.body.getD .skip))))) (by kernel_rfl) ?_
    refine LoopIn.wp (loop4 (κ := κ) hn.2 hm hk h0 han hlen hne (fun a4 w4 h4 => ?_) n 0 (by omega) a3 w3 ⟨φ3, .slice a0 ps0.length cap, none, ?_, rfl, .inl ⟨rfl, rfl, rfl⟩⟩)
    · show (dropC 0 (D4 (Tryz.f4.body.getD .skip))).wp Tryz.prog (B4 κ) a4 w4
      exact played4 hn hm hlen h4 fun a w h => tail_wp hn hm h
    · refine hat3.recast (hat3.fit.keep (not_wr (fun c o h => (hids2 c o h).1) hwr3)) hids2 ?_
      exact cons_all ⟨_, slot_of hsl3 0 rfl rfl, rfl, trivial⟩ <| cons_all ⟨_, slot_of hsl3 1 rfl rfl, rfl, trivial⟩ <| cons_all ⟨_, slot_of hsl3 2 rfl rfl, rfl, by show 14 < 96; omega⟩ <| cons_all ⟨_, slot_of hsl3 3 rfl rfl, rfl, trivial⟩ <| cons_all ⟨_, slot_of hsl3 4 rfl rfl, rfl, trivial⟩ nil_all

/-- The input's slice, by a name. -/
def inArg (a0 : Option Addr) (len cap : Nat) : AV := match a0 with
  | none => .nils
  | some x => .sslice 22 x.off len cap
def inPhi (a0 : Option Addr) : Phi := fun _ => ⟨match a0 with | some x => x.block | none => 0, 0⟩
theorem in_conc {a0 : Option Addr} {len cap : Nat} (hsp : ∀ x, a0 = some x → x.spot = none) (h0 : a0 = none → len = 0 ∧ cap = 0) : conc (inPhi a0) (inArg a0 len cap) = .slice a0 len cap := by
  cases a0 with
  | none => obtain ⟨rfl, rfl⟩ := h0 rfl; rfl
  | some x =>
    obtain ⟨b, off, spot⟩ := x
    have := hsp _ rfl
    subst this
    rfl
theorem in_all {a0 : Option Addr} {len cap nx : Nat} (h : 22 < nx) : (inArg a0 len cap).All (· < nx) := by
  cases a0 with
  | none => trivial
  | some x => exact h

theorem counts_walk (n e : Int) (a0 : Option Addr) (cap : Nat) (ps0 : List Int) (w : World) (h0 : IsInts .i64 w a0 ps0) (han : a0 = none → ps0 = [] ∧ cap = 0) (hsp : ∀ x, a0 = some x → x.spot = none) (he : 0 ≤ e ∧ e ≤ 255) :
    Calls Tryz.prog 4 #[.int .i64 n, .int .u8 e, .slice a0 ps0.length cap] w (post4 ⟨w.heap.size, w⟩) := by
  have hconc : conc (inPhi a0) (inArg a0 ps0.length cap) = .slice a0 ps0.length cap := in_conc hsp fun h => by rw [(han h).1]; exact ⟨rfl, (han h).2⟩
  have hargs : (concL (inPhi a0) [.sint .i64 n, .sint .u8 e, inArg a0 ps0.length cap]).toArray = #[.int .i64 n, .int .u8 e, .slice a0 ps0.length cap] := by
    simp only [concL, hconc]; rfl
  rw [← hargs]
  refine calls_seg Tryz.func4 (c := Tryz.f4.body.getD .skip) (args := [.sint .i64 n, .sint .u8 e, inArg a0 ps0.length cap]) (by kernel_rfl) (by show 3 ≤ Tryz.f4.ntmps; rw [Tryz.ntmps4]; omega) (none_fit w (inPhi a0)) (nx := 96) none_ids ⟨trivial, trivial, in_all (by omega), trivial⟩ (fun a hat => ?_)
  rw [Tryz.ntmps4] at hat ⊢
  show (Tryz.f4.body.getD .skip).wp Tryz.prog (B4 ⟨w.heap.size, w⟩) a w
  have hxi : inArg a0 ps0.length cap = .nils ∨ ∃ b off len cap', inArg a0 ps0.length cap = .sslice b off len cap' := by
    unfold inArg; split
    · exact .inl rfl
    · exact .inr ⟨_, _, _, _, rfl⟩
  have viewR_P : ∀ {r : Res (Ex × Env)} {vs : List AV} {p : Prop} {nx : Nat} {wr : List Nat} {l : List (Option AObj)}, viewR Tryz.prog Tryz.f4.results.toList [] r = some (vs, p, nx, wr, l) → viewP Tryz.prog Tryz.f4.results.toList r = some (vs, p) := fun h => by
    unfold viewP; rw [h]; rfl
  by_cases g1 : n < 1
  · exact last4 (viewR_P (v4_lives1 n e _ hxi)) ⟨True.intro, by simpa [cmpI] using g1⟩ hat none_hs
  by_cases g2 : n > 6
  · exact last4 (viewR_P (v4_lives2 n e _ hxi)) ⟨⟨True.intro, by simp [cmpI]; omega⟩, by simp [cmpI]; omega⟩ hat none_hs
  by_cases g3 : ps0.length > 4000
  · cases a0 with
    | none =>
      rw [(han rfl).1] at g3
      simp at g3
    | some x =>
      exact last4 (viewR_P (v4_lives3 n e 22 x.off ps0.length cap)) ⟨⟨⟨True.intro, by simp [cmpI]; omega⟩, by simp [cmpI]; omega⟩, by simp [cmpI]; omega⟩ hat none_hs
  -- the guard is passed
  obtain ⟨nn, rfl⟩ : ∃ nn : Nat, n = nn := ⟨n.toNat, by omega⟩
  have hn : 1 ≤ nn ∧ nn ≤ 6 := by omega
  obtain ⟨many, hmany, hm5⟩ : ∃ many : Nat, (IntKind.i64.wrap e).tmod 6 = many ∧ many ≤ 5 := by
    refine ⟨e.toNat % 6, ?_, by omega⟩
    rw [wrap64 (by omega) (by omega)]
    obtain ⟨k, rfl⟩ : ∃ k : Nat, e = k := ⟨e.toNat, by omega⟩
    show Int.tmod (k : Int) ((6 : Nat) : Int) = _
    rw [Int.ofNat_tmod]
    simp
  have guard : ∀ K : Act → World → Prop, (∀ φ' w' a', (∀ i, i < 96 → φ' i = inPhi a0 i) → At ⟨w.heap.size, w⟩ (fun _ => none) 170 96 [(0, .sint .i64 nn), (1, .sint .u8 e), (2, .opq (.slice a0 ps0.length cap))] φ' w' a' → K a' w') →
      ∀ Q : Exit → Act → World → Prop, (∀ a w, K a w → (dropC 1 (Tryz.f4.body.getD .skip)).wp Tryz.prog Q a w) → (Tryz.f4.body.getD .skip).wp Tryz.prog Q a w := by
    intro K hK
    cases a0 with
    | none =>
      obtain ⟨env1, s1, hev1, hsl1, hpre1, hnx1, hwr1, _⟩ := viewC_some (v4_guard0 nn e)
      have hP1 : s1.pre := by rw [hpre1]; exact ⟨⟨True.intro, by simp [cmpI]; omega⟩, by simp [cmpI]; omega⟩
      refine seg (does_take named mixed liveOk (nt := 170) 1 (Tryz.f4.body.getD .skip) 100000 _ _ _ _ (by kernel_rfl) hev1) hat none_hs hP1 (fun φ1 w1 a1 hφ1 hat1 => hK φ1 w1 a1 hφ1 ?_)
      refine hat1.recast (none_keep hat1.fit) none_ids ?_
      exact cons_all ⟨_, slot_of hsl1 0 rfl rfl, rfl, trivial⟩ <| cons_all ⟨_, slot_of hsl1 1 rfl rfl, rfl, trivial⟩ <| cons_all ⟨_, slot_of hsl1 2 rfl rfl, hconc, trivial⟩ nil_all
    | some x =>
      obtain ⟨env1, s1, hev1, hsl1, hpre1, hnx1, hwr1, _⟩ := viewC_some (v4_guard nn e 22 x.off ps0.length cap)
      have hP1 : s1.pre := by rw [hpre1]; exact ⟨⟨⟨True.intro, by simp [cmpI]; omega⟩, by simp [cmpI]; omega⟩, by simp [cmpI]; omega⟩
      refine seg (does_take named mixed liveOk (nt := 170) 1 (Tryz.f4.body.getD .skip) 100000 _ _ _ _ (by kernel_rfl) hev1) hat none_hs hP1 (fun φ1 w1 a1 hφ1 hat1 => hK φ1 w1 a1 hφ1 ?_)
      refine hat1.recast (none_keep hat1.fit) none_ids ?_
      exact cons_all ⟨_, slot_of hsl1 0 rfl rfl, rfl, trivial⟩ <| cons_all ⟨_, slot_of hsl1 1 rfl rfl, rfl, trivial⟩ <| cons_all ⟨_, slot_of hsl1 2 rfl rfl, by
        rw [← hconc]
        show conc φ1 (.sslice 22 x.off ps0.length cap) = _
        simp only [conc, hφ1 22 (by show 22 < 96; omega)]
        rfl, trivial⟩ nil_all
  refine guard (fun a w' => (dropC 1 (Tryz.f4.body.getD .skip)).wp Tryz.prog (B4 ⟨w.heap.size, w⟩) a w') (fun φ1 w1 a1 hφ1 hat1 => ?_) _ (fun a w h => h)
  obtain ⟨env2, s2, hev2, hsl2, hpre2, hnx2, hwr2, _⟩ := viewC_some (v4_many nn e (.slice a0 ps0.length cap))
  have hP2 : s2.pre := by rw [hpre2]; exact ⟨True.intro, rfl⟩
  refine seg (does_take named mixed liveOk (nt := 170) 0 (dropC 1 (Tryz.f4.body.getD .skip)) 100000 _ _ _ _ (by kernel_rfl) hev2) hat1 none_hs hP2 (K := fun a w' => (dropC 2 (Tryz.f4.body.getD .skip)).wp Tryz.prog (B4 ⟨w.heap.size, w⟩) a w') (fun φ2 w2 a2 hφ2 hat2 => ?_) _ (fun a w h => h)
  have hat2' : At ⟨w.heap.size, w⟩ (fun _ => none) 170 96 [(0, .int .i64 (nn : Nat)), (7, .int .i64 (many : Nat)), (2, .opq (.slice a0 ps0.length cap))] φ2 w2 a2 := by
    refine hat2.recast (none_keep hat2.fit) none_ids ?_
    exact cons_all ⟨_, slot_of hsl2 0 rfl rfl, rfl, trivial⟩ <| cons_all ⟨_, slot_of hsl2 2 rfl rfl, by rw [hmany]; rfl, trivial⟩ <| cons_all ⟨_, slot_of hsl2 1 rfl rfl, rfl, trivial⟩ nil_all
  by_cases hne : ps0 ≠ [] ∨ many ≠ 0
  · exact counts_go (κ := ⟨w.heap.size, w⟩) hn hm5 rfl h0 han (by omega) hne hat2'
  · have hm0 : many = 0 := Classical.byContradiction fun h => hne (.inr h)
    have hp0 : ps0 = [] := by
      cases ps0 with
      | nil => rfl
      | cons x l => exact absurd (.inl (by simp)) hne
    subst hm0
    subst hp0
    have hv : ∃ v : AV, (v = .nils ∨ ∃ off cap, v = .slice 22 off 0 cap) ∧ conc φ2 v = .slice a0 0 cap ∧ v.All (· < 96) := by
      cases a0 with
      | none =>
        obtain ⟨_, rfl⟩ := han rfl
        exact ⟨.nils, .inl rfl, rfl, trivial⟩
      | some x =>
        refine ⟨.slice 22 x.off 0 cap, .inr ⟨_, _, rfl⟩, ?_, by show 22 < 96; omega⟩
        obtain ⟨b, off, spot⟩ := x
        have := hsp _ rfl
        subst this
        simp only [conc, hφ2 22 (by show 22 < 96; omega), hφ1 22 (by omega)]
        rfl
    obtain ⟨v, hv1, hv2, hv3⟩ := hv
    have hat3 : At ⟨w.heap.size, w⟩ (fun _ => none) 170 96 [(0, .int .i64 (nn : Nat)), (7, .int .i64 (0 : Nat)), (2, v)] φ2 w2 a2 := by
      refine hat2'.recast hat2'.fit none_ids ?_
      exact cons_all ⟨_, rfl, rfl, trivial⟩ <| cons_all ⟨_, rfl, rfl, trivial⟩ <| cons_all ⟨_, rfl, hv2.symm, hv3⟩ nil_all
    exact last4 (none_all hn hv1) True.intro hat3 none_hs
end Ct
end Go.Proofs.YtpkfimijnkkbjaaGreat
