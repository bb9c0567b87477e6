/-
  TopCounts: the picks that are added.
  TopCounts: the loop that adds picks.
  What run.Play lays for 1 threads, in up to five rounds.
  What run.Play lays for 2 threads, in up to five rounds.
  What run.Play lays for 3 threads, in up to five rounds.
  What run.Play lays for 4 threads, in up to five rounds.
  What run.Play lays for 5 threads, in up to five rounds.
  What run.Play lays for 6 threads, in up to five rounds.
-/
import Derived.Test.YtpkfimijnkkbjaaGreatJ20
import Derived.Test.YtpkfimijnkkbjaaGreatJ36
import Derived.Test.YtpkfimijnkkbjaaGreatJ19
import Derived.Test.YtpkfimijnkkbjaaGreatJ18
set_option linter.unusedVariables false
namespace Go.Proofs.YtpkfimijnkkbjaaGreat
namespace Ct
open Ev Go.RowKit

variable {κ : Keep}

theorem liveOk : SumsOk Tryz.prog liveSum := live_ok

/-- The picks when so many threads' own have been added. -/
def psAt (ps0 : List Int) (many i : Nat) : List Int := ps0 ++ (List.range i).flatMap fun u : Nat => List.replicate (300 * many) (u : Int)
theorem psAt_succ (ps0 : List Int) (many i : Nat) : psAt ps0 many (i + 1) = psAt ps0 many i ++ List.replicate (300 * many) (i : Int) := by
  unfold psAt; rw [List.range_succ, List.flatMap_append]; simp
theorem psAt_len (ps0 : List Int) (many i : Nat) : (psAt ps0 many i).length = ps0.length + i * (300 * many) := by
  induction i with
  | zero => simp [psAt]
  | succ i ih => rw [psAt_succ, List.length_append, ih, List.length_replicate, Nat.add_mul, Nat.one_mul]; omega
theorem psAt_count (ps0 : List Int) (many i u : Nat) (h : u < i) : 300 * many ≤ (psAt ps0 many i).count (u : Int) := by
  induction i with
  | zero => omega
  | succ i ih =>
    rw [psAt_succ, List.count_append]
    by_cases e : u = i
    · subst e; rw [List.count_replicate_self]; omega
    · have := ih (by omega); omega

/-- A slice of before. -/
theorem ints_old {φ : Phi} {H : Nat → Option AObj} {w : World} (h : FitH κ H φ w) (hk : κ.mark = κ.was.heap.size) {a : Option Addr} {zs : List Int} (hz : IsInts .i64 κ.was a zs) : IsInts .i64 w a zs := by
  rcases hz with hz | ⟨b, off, ha, hc⟩
  · exact .inl hz
  · refine .inr ⟨b, off, ha, fun i hi => ?_⟩
    have h1 := hc i hi
    have hlt : b < κ.was.heap.size := World.block_lt_of_cell? κ.was ⟨b, off + i, none⟩ h1
    rw [← h1]
    exact World.cell?_of_block (h.old b (by omega))

/-- The picks' own row. -/
def ownRow (zs : List Int) : AObj := .row true (zs.map fun x => .sint .i64 x) 3 (some 1)
theorem concL_sints (φ : Phi) (zs : List Int) : concL φ (zs.map fun x => AV.sint .i64 x) = zs.map (Value.int .i64) := by
  rw [concL_eq, List.map_map]; rfl
theorem sints_all {D : Nat → Prop} (zs : List Int) : AllL D (zs.map fun x => AV.sint .i64 x) := by
  rw [allL_iff]; intro v hv
  obtain ⟨x, _, rfl⟩ := List.mem_map.1 hv
  trivial
theorem own_ints {φ : Phi} {w : World} {b : Nat} {zs : List Int} (h : Holds φ b (ownRow zs) w) : IsInts .i64 w (some ⟨(φ b).blk, 0, none⟩) zs := by
  obtain ⟨rest, n, h1, _⟩ := h
  refine .inr ⟨(φ b).blk, 0, rfl, fun i hi => ?_⟩
  rw [concL_sints] at h1
  simp only [World.cell?, h1, Nat.zero_add]
  rw [Array.getElem?_append_left (by simpa using hi)]
  simp [nth, List.getElem?_eq_getElem hi]

def own4 (zs : List Int) : Option AObj := some (ownRow zs)
theorem own_fit {n many : Nat} {pv : Value} {own : Option AObj} (ho : ∀ o, own = some o → o.All fun _ => False) {φ : Phi} {w w' : World} (hfit : FitH κ (H4 n many (.opq pv) own) φ w) (hb : Below w.heap.size w w') {v : Value} {zs : List Int} (hv : w'.ownsRow w.heap.size 3 1 v zs.length (zs.map (Value.int .i64))) (hne : zs ≠ []) :
    ∃ φ' : Phi, (∀ i, i ≠ 13 → φ' i = φ i) ∧ v = conc φ' (.soslice 13 1 0 0 zs.length zs.length) ∧ v.oneCell' = true ∧ FitH κ (H4 n many (.opq pv) (own4 zs)) φ' w' := by
  obtain ⟨_, ⟨_, h0⟩ | ⟨g, cap, cur, rfl, hg, hcell, hle, hcap, hsz, htk⟩⟩ := hv
  · exact absurd (List.length_eq_zero_iff.1 h0) hne
  have hφ13 : ∀ (φ' : Phi), φ' 13 = ⟨g, cap - zs.length⟩ → Value.slice (some ⟨g, 0, none⟩) zs.length cap = conc φ' (.soslice 13 1 0 0 zs.length zs.length) := fun φ' h => by
    simp only [conc, h]
    have : zs.length - 0 + (cap - zs.length) = cap := by omega
    rw [this]
    split <;> simp
  refine ⟨fun i => if i = 13 then ⟨g, cap - zs.length⟩ else φ i, fun i hi => if_neg hi, hφ13 _ (if_pos rfl), rfl, ?_⟩
  have hother : ∀ b o, b ≠ 13 → H4 n many (.opq pv) (own4 zs) b = some o → H4 n many (.opq pv) own b = some o ∧ o.All (· ≠ 13) := fun b o hb h => by
    unfold H4 at h ⊢
    split at h
    · rename_i e; cases h; exact ⟨by rw [if_pos e], by simp [specRow, AObj.All, AllL, AV.All]⟩
    split at h
    · rename_i e1 e
      split at h
      · cases h
      · rename_i e2; cases h; exact ⟨by rw [if_neg e1, if_pos e, if_neg e2], calls_all n many⟩
    split at h
    · rename_i e1 e2 e; cases h
      refine ⟨by rw [if_neg e1, if_neg e2, if_neg hb, if_pos e], trivial, by show 1 ≠ 13; omega, ?_, trivial, trivial⟩
      unfold clArg; split
      · trivial
      · show 7 ≠ 13; omega
    · cases h
  have hlt : ∀ b o, b ≠ 13 → H4 n many (.opq pv) (own4 zs) b = some o → (φ b).blk < w.heap.size := fun b o hb h => (hfit.holds b o (hother b o hb h).1).lt
  refine ⟨fun c o hc => ?_, fun b c x y hx hy he => ?_, fun c o hc => ?_, fun r hr => ?_, Nat.le_trans hfit.size hb.size, ⟨hb.os.trans hfit.env.1, hb.output.trans hfit.env.2⟩⟩
  · by_cases e : c = 13
    · subst e
      unfold H4 at hc
      rw [if_neg (by omega), if_neg (by omega), if_pos rfl] at hc
      cases hc
      refine ⟨(cur.toList.drop zs.length).toArray, zs.length, ?_, ?_, by simp, ?_⟩
      · show w'.heap[(if (13 : Nat) = 13 then (⟨g, cap - zs.length⟩ : Slot) else φ 13).blk]? = _
        rw [if_pos rfl, hcell, concL_sints]
        have e1 : cur = (zs.map (Value.int .i64)).toArray ++ (cur.toList.drop zs.length).toArray := by
          apply Array.ext'
          rw [← htk, Nat.mul_one]
          simp
        exact congrArg (fun c => some (Obj.cells c 3 (0, 0))) e1
      · show (cur.toList.drop zs.length).toArray.size = (if (13 : Nat) = 13 then (⟨g, cap - zs.length⟩ : Slot) else φ 13).slack * 1
        rw [if_pos rfl]
        simp
        omega
      · show zs.length + (if (13 : Nat) = 13 then (⟨g, cap - zs.length⟩ : Slot) else φ 13).slack ≤ maxLen
        rw [if_pos rfl]
        show zs.length + (cap - zs.length) ≤ maxLen
        omega
    · obtain ⟨h1, h2⟩ := hother c o e hc
      exact (hfit.holds c o h1).keep (D := (· ≠ 13)) (fun i hi => if_neg hi) h2 (if_neg e) (hb.block _ (hlt c o e hc))
  · have he' : (if b = 13 then (⟨g, cap - zs.length⟩ : Slot) else φ b).blk = (if c = 13 then (⟨g, cap - zs.length⟩ : Slot) else φ c).blk := he
    by_cases e1 : b = 13 <;> by_cases e2 : c = 13
    · omega
    · rw [if_pos e1, if_neg e2] at he'
      have h1 : g = (φ c).blk := he'
      have := hlt c y e2 hy
      omega
    · rw [if_neg e1, if_pos e2] at he'
      have h1 : (φ b).blk = g := he'
      have := hlt b x e1 hx
      omega
    · rw [if_neg e1, if_neg e2] at he'
      exact hfit.inj b c x y (hother b x e1 hx).1 (hother c y e2 hy).1 he'
  · by_cases e : c = 13
    · subst e
      show κ.mark ≤ (if (13 : Nat) = 13 then (⟨g, cap - zs.length⟩ : Slot) else φ 13).blk
      rw [if_pos rfl]
      exact Nat.le_trans hfit.size hg
    · show κ.mark ≤ (if c = 13 then (⟨g, cap - zs.length⟩ : Slot) else φ c).blk
      rw [if_neg e]
      exact hfit.base c o (hother c o e hc).1
  · rw [hb.block r (Nat.lt_of_lt_of_le hr hfit.size)]
    exact hfit.old r hr
end Ct
end Go.Proofs.YtpkfimijnkkbjaaGreat

namespace Go.Proofs.YtpkfimijnkkbjaaGreat
namespace Ct
open Ev Go.RowKit

variable {κ : Keep}

/-- What is known behind so many rounds. -/
def At4 (κ : Keep) (n many : Nat) (a0 : Option Addr) (cap : Nat) (ps0 : List Int) (i : Nat) (a : Act) (w : World) : Prop :=
  ∃ (φ : Phi) (pv : Value) (own : Option AObj), At κ (H4 n many (.opq pv) own) 170 96 (E4 n many i) φ w a ∧ pv.oneCell' = true ∧
    ((own = none ∧ i = 0 ∧ pv = .slice a0 ps0.length cap) ∨ (own = own4 (psAt ps0 many i) ∧ pv = conc φ (.soslice 13 1 0 0 (psAt ps0 many i).length (psAt ps0 many i).length)))

theorem at4_ids {n many : Nat} {pv : Value} {own : Option AObj} (ho : own = none ∨ ∃ zs, own = own4 zs) : ∀ c o, H4 n many (.opq pv) own c = some o → c < 96 ∧ o.All (· < 96) :=
  H4_ids trivial fun o h => by
    rcases ho with rfl | ⟨zs, rfl⟩
    · cases h
    · cases h; exact sints_all zs
theorem at4_slice {n many i cap : Nat} {a0 : Option Addr} {ps0 : List Int} {φ : Phi} {pv : Value} {own : Option AObj} {w : World} (hfit : FitH κ (H4 n many (.opq pv) own) φ w) (hk : κ.mark = κ.was.heap.size) (h0 : IsInts .i64 κ.was a0 ps0) (han : a0 = none → ps0 = [] ∧ cap = 0)
    (h : (own = none ∧ i = 0 ∧ pv = .slice a0 ps0.length cap) ∨ (own = own4 (psAt ps0 many i) ∧ pv = conc φ (.soslice 13 1 0 0 (psAt ps0 many i).length (psAt ps0 many i).length))) :
    ∃ ad c, pv = .slice ad (psAt ps0 many i).length c ∧ IsInts .i64 w ad (psAt ps0 many i) ∧ (ad = none → psAt ps0 many i = [] ∧ c = 0) := by
  rcases h with ⟨_, rfl, rfl⟩ | ⟨rfl, rfl⟩
  · have e : psAt ps0 many 0 = ps0 := by simp [psAt]
    rw [e]
    exact ⟨a0, cap, rfl, ints_old hfit hk h0, han⟩
  · have h13 : Holds φ 13 (ownRow (psAt ps0 many i)) w := hfit.holds 13 _ (by unfold H4; rw [if_neg (by omega), if_neg (by omega), if_pos rfl]; rfl)
    refine ⟨some ⟨(φ 13).blk, 0, none⟩, (psAt ps0 many i).length - 0 + (φ 13).slack, ?_, own_ints h13, fun h => by cases h⟩
    simp [conc]

theorem e4_lt {n many i : Nat} : ∀ p ∈ E4 n many i, p.2.All (· < 96) := by
  unfold E4
  exact cons_all trivial <| cons_all trivial <| cons_all (by show 14 < 96; omega) <| cons_all trivial <| cons_all trivial nil_all
theorem recast4 {H H' : Nat → Option AObj} {n many nx i : Nat} {k : Int} {env : Env} {φ : Phi} {w : World} {a : Act} (hat : At κ H 170 nx env φ w a) (hsl : [0, 7, 8, 60, 61].map env.look = V4 n many k) (hk : k = i) (hfit : FitH κ H' φ w) (hids : ∀ c o, H' c = some o → c < 96 ∧ o.All (· < 96)) : At κ H' 170 96 (E4 n many i) φ w a := by
  subst hk
  refine hat.recast hfit hids ?_
  exact cons_all ⟨_, slot_of hsl 0 rfl rfl, rfl, trivial⟩ <| cons_all ⟨_, slot_of hsl 1 rfl rfl, rfl, trivial⟩ <| cons_all ⟨_, slot_of hsl 2 rfl rfl, rfl, by show 14 < 96; omega⟩ <| cons_all ⟨_, slot_of hsl 3 rfl rfl, rfl, trivial⟩ <| cons_all ⟨_, slot_of hsl 4 rfl rfl, rfl, trivial⟩ nil_all
theorem look_e4 {φ φ' : Phi} {n many i : Nat} (h : φ' 14 = φ 14) {env : Env} (hsub : ∀ t u, (E4 n many i).look t = some u → env.look t = some u) : ∀ t u, (E4 n many i).look t = some u → env.look t = some u ∧ conc φ' u = conc φ u := fun t u hu => by
  refine ⟨hsub t u hu, ?_⟩
  have hm := look_mem hu
  simp only [E4, List.mem_cons, List.not_mem_nil, or_false, Prod.mk.injEq] at hm
  rcases hm with ⟨_, rfl⟩ | ⟨_, rfl⟩ | ⟨_, rfl⟩ | ⟨_, rfl⟩ | ⟨_, rfl⟩ <;> first | rfl | (simp only [conc, h])

theorem loop4 {n many : Nat} (hn : n ≤ 6) (hm : many ≤ 5) (hk : κ.mark = κ.was.heap.size) {a0 : Option Addr} {cap : Nat} {ps0 : List Int} (h0 : IsInts .i64 κ.was a0 ps0) (han : a0 = none → ps0 = [] ∧ cap = 0) (hlen : ps0.length ≤ 4000) (hne : ps0 ≠ [] ∨ many ≠ 0)
    {Q : Exit → Act → World → Prop} (hQ : ∀ a w, At4 κ n many a0 cap ps0 n a w → Q (.exit 4) a w) : ∀ (k i : Nat), i + k = n → ∀ a w, At4 κ n many a0 cap ps0 i a w → LoopIn Tryz.prog (bodyC (takeC 0 (D4 (Tryz.f4.body.getD .skip)))) Q a w := by
  intro k
  induction k with
  | zero =>
    rintro i hi a w ⟨φ, pv, own, hat, hone, hcase⟩
    have hown : own = none ∨ ∃ zs, own = own4 zs := by
      rcases hcase with ⟨h, _⟩ | ⟨h, _⟩
      · exact .inl h
      · exact .inr ⟨_, h⟩
    refine LoopIn.of ?_
    have hi' : i = n := by omega
    subst hi'
    obtain ⟨env, s, hev, hsl, hpre, hnx, hwr, _⟩ := viewC_some (u4_out i many i)
    have hP : s.pre := by rw [hpre]; exact ⟨True.intro, by simp [cmpI]⟩
    refine seg ((evCode_ok named (draw_ok mixed) (sound named mixed liveOk 60) (nt := 170) 100000).1 _ _ _ _ _ _ hev) hat none_mk hP (K := fun a w => Q (.exit 4) a w) (fun φ' w' a' hφ' hat' => ?_) _ (fun a w h => h)
    refine hQ a' w' ⟨φ', pv, own, recast4 hat' hsl rfl (hat'.fit.keep (not_wr (fun c o h => (hat.ids c o h).1) hwr)) (at4_ids hown), hone, ?_⟩
    rcases hcase with h | ⟨h1, h2⟩
    · exact .inl h
    · exact .inr ⟨h1, h2.trans (conc_sos (hφ' 13 (by show 13 < 96; omega)).symm)⟩
  | succ k ih =>
    rintro i hi a w ⟨φ, pv, own, hat, hone, hcase⟩
    have hown : own = none ∨ ∃ zs, own = own4 zs := by
      rcases hcase with ⟨h, _⟩ | ⟨h, _⟩
      · exact .inl h
      · exact .inr ⟨_, h⟩
    have hnon : ∀ o, own = some o → o.All fun _ => False := fun o h => by
      rcases hown with rfl | ⟨zs, rfl⟩
      · cases h
      · cases h; exact sints_all zs
    refine LoopIn.of ?_
    have hilt : i < n := by omega
    -- the loop's test
    obtain ⟨env1, s1, hev1, hsl1, hpre1, hnx1, hwr1, _⟩ := viewC_some (u4_test n many i)
    have hP1 : s1.pre := by rw [hpre1]; exact ⟨True.intro, by simp [cmpI]; omega⟩
    refine seg (does_take named mixed liveOk (nt := 170) 1 (bodyC (takeC 0 (D4 (Tryz.f4.body.getD .skip)))) 100000 _ _ _ _ (by kernel_rfl) hev1) hat none_mk hP1 (K := fun a w => (dropC 1 (bodyC (takeC 0 (D4 (Tryz.f4.body.getD .skip))))).wp Tryz.prog (Exit.then (LoopIn Tryz.prog (bodyC (takeC 0 (D4 (Tryz.f4.body.getD .skip)))) Q) Q) a w) (fun φ1 w1 a1 hφ1 hat1 => ?_) _ (fun a w h => h)
    have hat1' := recast4 hat1 hsl1 rfl (hat1.fit.keep (not_wr (fun c o h => (hat.ids c o h).1) hwr1)) (at4_ids hown)
    refine seq_wp (a := takeC 0 (dropC 1 (bodyC (takeC 0 (D4 (Tryz.f4.body.getD .skip)))))) (b := dropC 0 (dropC 1 (bodyC (takeC 0 (D4 (Tryz.f4.body.getD .skip)))))) (by kernel_rfl) ?_
    refine block_wp (id := 5) (b := lpB (takeC 0 (dropC 1 (bodyC (takeC 0 (D4 (Tryz.f4.body.getD .skip))))))) (by kernel_rfl) ?_
    -- the round's number
    obtain ⟨env2, s2, hev2, hsl2, hpre2, hnx2, hwr2, _⟩ := viewC_some (u4_ten n many i)
    have hP2 : s2.pre := by rw [hpre2]; exact True.intro
    refine seg (does_take named mixed liveOk (nt := 170) 0 (lpB (takeC 0 (dropC 1 (bodyC (takeC 0 (D4 (Tryz.f4.body.getD .skip))))))) 100000 _ _ _ _ (by kernel_rfl) hev2) hat1' none_mk hP2 (K := fun a w => (R4 (Tryz.f4.body.getD .skip)).wp Tryz.prog (Exit.inBlock 5 (Exit.then ((dropC 0 (dropC 1 (bodyC (takeC 0 (D4 (Tryz.f4.body.getD .skip)))))).wp Tryz.prog (Exit.then (LoopIn Tryz.prog (bodyC (takeC 0 (D4 (Tryz.f4.body.getD .skip)))) Q) Q)) (Exit.then (LoopIn Tryz.prog (bodyC (takeC 0 (D4 (Tryz.f4.body.getD .skip)))) Q) Q))) a w) (fun φ2 w2 a2 hφ2 hat2 => ?_) _ (fun a w h => h)
    have hat2' : At κ (H4 n many (.opq pv) own) 170 96 ((10, .sint .i64 i) :: E4 n many i) φ2 w2 a2 := by
      refine hat2.recast (hat2.fit.keep (not_wr (fun c o h => (hat.ids c o h).1) hwr2)) (at4_ids hown) ?_
      exact cons_all ⟨_, slot_of hsl2 5 rfl rfl, rfl, trivial⟩ <| cons_all ⟨_, slot_of hsl2 0 rfl rfl, rfl, trivial⟩ <| cons_all ⟨_, slot_of hsl2 1 rfl rfl, rfl, trivial⟩ <| cons_all ⟨_, slot_of hsl2 2 rfl rfl, rfl, by show 14 < 96; omega⟩ <| cons_all ⟨_, slot_of hsl2 3 rfl rfl, rfl, trivial⟩ <| cons_all ⟨_, slot_of hsl2 4 rfl rfl, rfl, trivial⟩ nil_all
    refine region_wp r4_is ?_
    rw [r4_size]
    -- its operands
    obtain ⟨env3, s3, hev3, hsl3, hpre3, hnx3, hwr3, _⟩ := viewO_some (u4_pre n many i (clArg n many) pv)
    have hP3 : s3.pre := by rw [hpre3]; exact ⟨True.intro, rfl⟩
    have h14 : H4 n many (.opq pv) own 14 = some (.row false [.int .i64 n, .slice 1 0 3 3, clArg n many, .opq pv] 26 none) := by
      unfold H4; rw [if_neg (by omega), if_neg (by omega), if_neg (by omega), if_pos rfl]
    have hl5 : ((opsA (R4 (Tryz.f4.body.getD .skip))).toList.take 5).length = 5 := by kernel_rfl
    rw [show List.range 8 = List.range' 0 ((opsA (R4 (Tryz.f4.body.getD .skip))).toList.take 5).length ++ [5, 6, 7] by rw [hl5]; rfl]
    refine seg (does_ops named (sound named mixed liveOk 60) (nt := 170) _ 0 _ _ _ _ hev3 (fun j hj => by rw [hl5] at hj; rw [List.getElem?_take, if_pos hj, Nat.zero_add]; simp)) hat2' (hs_of (at4_ids hown) (cons_all (.same h14) nil_all)) hP3 (fun φ3 w3 a3 hφ3 hat3 => ?_) _ [5, 6, 7] (fun a w h => h)
    have hw : IntKind.i64.wrap (300 * (many : Int)) = ((300 * many : Nat) : Int) := by rw [wrap64 (by omega) (by omega)]; omega
    have hat3' : At κ (H4 n many (.opq pv) own) 170 96 ((65, .opq pv) :: (66, .sint .i64 i) :: (68, .sint .i64 ((300 * many : Nat) : Int)) :: E4 n many i) φ3 w3 a3 := by
      refine hat3.recast (hat3.fit.keep (not_wr (fun c o h => (hat.ids c o h).1) hwr3)) (at4_ids hown) ?_
      exact cons_all ⟨_, slot_of hsl3 5 rfl rfl, rfl, trivial⟩ <| cons_all ⟨_, slot_of hsl3 6 rfl rfl, rfl, trivial⟩ <| cons_all ⟨_, slot_of hsl3 7 rfl rfl, by rw [hw], trivial⟩ <| cons_all ⟨_, slot_of hsl3 0 rfl rfl, rfl, trivial⟩ <| cons_all ⟨_, slot_of hsl3 1 rfl rfl, rfl, trivial⟩ <| cons_all ⟨_, slot_of hsl3 2 rfl rfl, rfl, by show 14 < 96; omega⟩ <| cons_all ⟨_, slot_of hsl3 3 rfl rfl, rfl, trivial⟩ <| cons_all ⟨_, slot_of hsl3 4 rfl rfl, rfl, trivial⟩ nil_all
    -- the call
    have hcase3 : (own = none ∧ i = 0 ∧ pv = .slice a0 ps0.length cap) ∨ (own = own4 (psAt ps0 many i) ∧ pv = conc φ3 (.soslice 13 1 0 0 (psAt ps0 many i).length (psAt ps0 many i).length)) := by
      rcases hcase with h | ⟨h1, h2⟩
      · exact .inl h
      · exact .inr ⟨h1, h2.trans (conc_sos (by rw [hφ3 13 (by show 13 < 96; omega), hφ2 13 (by show 13 < 96; omega), hφ1 13 (by show 13 < 96; omega)]))⟩
    obtain ⟨ad, cp, rfl, hints, hnil⟩ := at4_slice hat3'.fit hk h0 han hcase3
    have hplen := psAt_len ps0 many i
    have hmul : i * (300 * many) ≤ 6 * 1500 := Nat.mul_le_mul (by omega) (by omega)
    obtain ⟨r, hr1, hr2, hr3, hr4⟩ := r4_op
    rw [wpOps_cons]
    refine seg_call2 named f11_is hr1 hr2 hr3 (avs := [.opq (.slice ad (psAt ps0 many i).length cp), .sint .i64 i, .sint .i64 ((300 * many : Nat) : Int)]) rfl hat3' (with_any ad cp (psAt ps0 many i) i (300 * many) w3 hints hnil (by omega) (by omega)) ?_
    rintro e w4 ⟨v, rfl, hrow, hbel⟩
    have hl' : (psAt ps0 many i).length + 300 * many = (psAt ps0 many (i + 1)).length := by rw [psAt_succ, List.length_append, List.length_replicate]
    rw [hl', ← psAt_succ] at hrow
    have hne' : psAt ps0 many (i + 1) ≠ [] := fun h => by
      have h1 := psAt_len ps0 many (i + 1)
      rw [h] at h1
      simp only [List.length_nil] at h1
      rcases hne with hne | hne
      · have := List.length_pos_iff.2 hne; omega
      · have : 0 < (i + 1) * (300 * many) := Nat.mul_pos (by omega) (by omega)
        omega
    obtain ⟨φ4, hφ4, hv4, hone4, hfit4⟩ := own_fit hnon hat3'.fit hbel hrow hne'
    refine ⟨φ4, H4 n many (.opq (.slice ad (psAt ps0 many i).length cp)) (own4 (psAt ps0 many (i + 1))), 96, .opq v, E4 n many i, _, ?_, Nat.le_refl _, look_e4 (hφ4 14 (by omega)) (fun t u hu => ?_), hfit4, at4_ids (.inr ⟨_, rfl⟩), trivial, by rw [hr4]; rfl, fun a5 hat5 => ?_⟩
    · show Ending.returned v = .returned (if v.oneCell' then v else .bool false)
      rw [hone4]; rfl
    · have hm := look_mem hu
      simp only [E4, List.mem_cons, List.not_mem_nil, or_false, Prod.mk.injEq] at hm
      rcases hm with ⟨rfl, rfl⟩ | ⟨rfl, rfl⟩ | ⟨rfl, rfl⟩ | ⟨rfl, rfl⟩ | ⟨rfl, rfl⟩ <;> rfl
    -- it is laid in the scene
    obtain ⟨env6, s6, hev6, hsl6, hpre6, hnx6, hwr6, hrows6⟩ := viewO_some (u4_post n many i (clArg n many) (.slice ad (psAt ps0 many i).length cp) v)
    have hP6 : s6.pre := by rw [hpre6]; exact True.intro
    have h14' : H4 n many (.opq (.slice ad (psAt ps0 many i).length cp)) (own4 (psAt ps0 many (i + 1))) 14 = some (.row false [.int .i64 n, .slice 1 0 3 3, clArg n many, .opq (.slice ad (psAt ps0 many i).length cp)] 26 none) := by
      unfold H4; rw [if_neg (by omega), if_neg (by omega), if_neg (by omega), if_pos rfl]
    have hl6 : ((opsA (R4 (Tryz.f4.body.getD .skip))).toList.drop 6).length = 2 := by kernel_rfl
    rw [show [6, 7] = List.range' 6 ((opsA (R4 (Tryz.f4.body.getD .skip))).toList.drop 6).length ++ [] by rw [hl6]; rfl]
    refine seg (does_ops named (sound named mixed liveOk 60) (nt := 170) _ 6 _ _ _ _ hev6 (fun j hj => by rw [List.getElem?_drop]; simp)) hat5 (hs_of (at4_ids (.inr ⟨_, rfl⟩)) (cons_all (.same h14') nil_all)) hP6
      (K := fun a w => wpOps Tryz.prog (opsA (R4 (Tryz.f4.body.getD .skip))) _ [] a w) (fun φ7 w7 a7 hφ7 hat7 => ?_) _ [] (fun a w h => h)
    show (dropC 0 (dropC 1 (bodyC (takeC 0 (D4 (Tryz.f4.body.getD .skip)))))).wp Tryz.prog (Exit.then (LoopIn Tryz.prog (bodyC (takeC 0 (D4 (Tryz.f4.body.getD .skip)))) Q) Q) a7 w7
    have hfit7 : FitH κ (H4 n many (.opq v) (own4 (psAt ps0 many (i + 1)))) φ7 w7 := by
      refine hat7.fit.keep fun c o h => ?_
      have hc := (at4_ids (.inr ⟨_, rfl⟩) c o h).1
      unfold after
      by_cases e : c = 14
      · subst e
        rw [if_pos ((hwr6 14 (by omega)).2 (by simp)), get_of_names hrows6 0 rfl rfl, ← h]
        unfold H4; rw [if_neg (by omega), if_neg (by omega), if_neg (by omega), if_pos rfl]
      · rw [if_neg (fun hh => e (by simpa using (hwr6 c (by omega)).1 hh)), ← h]
        unfold H4; rw [if_neg e, if_neg e]
    have hat7' := recast4 hat7 hsl6 rfl hfit7 (at4_ids (.inr ⟨_, rfl⟩))
    -- the next round
    obtain ⟨env8, s8, hev8, hsl8, hpre8, hnx8, hwr8, _⟩ := viewC_some (u4_next n many i)
    have hP8 : s8.pre := by rw [hpre8]; exact ⟨True.intro, rfl⟩
    refine seg ((evCode_ok named (draw_ok mixed) (sound named mixed liveOk 60) (nt := 170) 100000).1 _ _ _ _ _ _ hev8) hat7' none_mk hP8 (K := fun a w => LoopIn Tryz.prog (bodyC (takeC 0 (D4 (Tryz.f4.body.getD .skip)))) Q a w) (fun φ9 w9 a9 hφ9 hat9 => ?_) _ (fun a w h => h)
    refine ih (i + 1) (by omega) a9 w9 ⟨φ9, v, own4 (psAt ps0 many (i + 1)), recast4 hat9 hsl8 (by rw [wrap64 (by omega) (by omega)]; omega) (hat9.fit.keep (not_wr (fun c o h => (hat7'.ids c o h).1) hwr8)) (at4_ids (.inr ⟨_, rfl⟩)), hone4, .inr ⟨rfl, ?_⟩⟩
    rw [hv4]
    exact conc_sos (by rw [hφ9 13 (by show 13 < 96; omega), hφ7 13 (by show 13 < 96; omega)])
end Ct
end Go.Proofs.YtpkfimijnkkbjaaGreat

namespace Go.Proofs.YtpkfimijnkkbjaaGreat
namespace Ct
open Ev

theorem beg1 (many : Nat) (hm : many < 6) (pl : Nat) (O : Nat → Option AObj) : beg 1 many O (evCode Tryz.prog (evFn Tryz.prog noSums 60) 38 100000 (takeC 2 (Tryz.f15.body.getD .skip)) (argsE [.int .i64 (1 : Nat), .slice 1 0 3 3, clArg 1 many, .soslice 13 1 0 0 pl pl] 0) ⟨mk (hs0 1 many), 96, 0, 0, True, [.br false]⟩) =
    some (true, True ∧ cmpI .gtr pl 65536 = false, some (.soslice 13 1 0 0 pl pl)) :=
  match many, hm with
  | 0, _ => by kernel_rfl
  | 1, _ => by kernel_rfl
  | 2, _ => by kernel_rfl
  | 3, _ => by kernel_rfl
  | 4, _ => by kernel_rfl
  | 5, _ => by kernel_rfl
end Ct
end Go.Proofs.YtpkfimijnkkbjaaGreat

namespace Go.Proofs.YtpkfimijnkkbjaaGreat
namespace Ct
open Ev

theorem beg2 (many : Nat) (hm : many < 6) (pl : Nat) (O : Nat → Option AObj) : beg 2 many O (evCode Tryz.prog (evFn Tryz.prog noSums 60) 38 100000 (takeC 2 (Tryz.f15.body.getD .skip)) (argsE [.int .i64 (2 : Nat), .slice 1 0 3 3, clArg 2 many, .soslice 13 1 0 0 pl pl] 0) ⟨mk (hs0 2 many), 96, 0, 0, True, [.br false]⟩) =
    some (true, True ∧ cmpI .gtr pl 65536 = false, some (.soslice 13 1 0 0 pl pl)) :=
  match many, hm with
  | 0, _ => by kernel_rfl
  | 1, _ => by kernel_rfl
  | 2, _ => by kernel_rfl
  | 3, _ => by kernel_rfl
  | 4, _ => by kernel_rfl
  | 5, _ => by kernel_rfl
end Ct
end Go.Proofs.YtpkfimijnkkbjaaGreat

namespace Go.Proofs.YtpkfimijnkkbjaaGreat
namespace Ct
open Ev

theorem beg3 (many : Nat) (hm : many < 6) (pl : Nat) (O : Nat → Option AObj) : beg 3 many O (evCode Tryz.prog (evFn Tryz.prog noSums 60) 38 100000 (takeC 2 (Tryz.f15.body.getD .skip)) (argsE [.int .i64 (3 : Nat), .slice 1 0 3 3, clArg 3 many, .soslice 13 1 0 0 pl pl] 0) ⟨mk (hs0 3 many), 96, 0, 0, True, [.br false]⟩) =
    some (true, True ∧ cmpI .gtr pl 65536 = false, some (.soslice 13 1 0 0 pl pl)) :=
  match many, hm with
  | 0, _ => by kernel_rfl
  | 1, _ => by kernel_rfl
  | 2, _ => by kernel_rfl
  | 3, _ => by kernel_rfl
  | 4, _ => by kernel_rfl
  | 5, _ => by kernel_rfl
end Ct
end Go.Proofs.YtpkfimijnkkbjaaGreat

namespace Go.Proofs.YtpkfimijnkkbjaaGreat
namespace Ct
open Ev

theorem beg4 (many : Nat) (hm : many < 6) (pl : Nat) (O : Nat → Option AObj) : beg 4 many O (evCode Tryz.prog (evFn Tryz.prog noSums 60) 38 100000 (takeC 2 (Tryz.f15.body.getD .skip)) (argsE [.int .i64 (4 : Nat), .slice 1 0 3 3, clArg 4 many, .soslice 13 1 0 0 pl pl] 0) ⟨mk (hs0 4 many), 96, 0, 0, True, [.br false]⟩) =
    some (true, True ∧ cmpI .gtr pl 65536 = false, some (.soslice 13 1 0 0 pl pl)) :=
  match many, hm with
  | 0, _ => by kernel_rfl
  | 1, _ => by kernel_rfl
  | 2, _ => by kernel_rfl
  | 3, _ => by kernel_rfl
  | 4, _ => by kernel_rfl
  | 5, _ => by kernel_rfl
end Ct
end Go.Proofs.YtpkfimijnkkbjaaGreat

namespace Go.Proofs.YtpkfimijnkkbjaaGreat
namespace Ct
open Ev

theorem beg5 (many : Nat) (hm : many < 6) (pl : Nat) (O : Nat → Option AObj) : beg 5 many O (evCode Tryz.prog (evFn Tryz.prog noSums 60) 38 100000 (takeC 2 (Tryz.f15.body.getD .skip)) (argsE [.int .i64 (5 : Nat), .slice 1 0 3 3, clArg 5 many, .soslice 13 1 0 0 pl pl] 0) ⟨mk (hs0 5 many), 96, 0, 0, True, [.br false]⟩) =
    some (true, True ∧ cmpI .gtr pl 65536 = false, some (.soslice 13 1 0 0 pl pl)) :=
  match many, hm with
  | 0, _ => by kernel_rfl
  | 1, _ => by kernel_rfl
  | 2, _ => by kernel_rfl
  | 3, _ => by kernel_rfl
  | 4, _ => by kernel_rfl
  | 5, _ => by kernel_rfl
end Ct
end Go.Proofs.YtpkfimijnkkbjaaGreat

namespace Go.Proofs.YtpkfimijnkkbjaaGreat
namespace Ct
open Ev

theorem beg6 (many : Nat) (hm : many < 6) (pl : Nat) (O : Nat → Option AObj) : beg 6 many O (evCode Tryz.prog (evFn Tryz.prog noSums 60) 38 100000 (takeC 2 (Tryz.f15.body.getD .skip)) (argsE [.int .i64 (6 : Nat), .slice 1 0 3 3, clArg 6 many, .soslice 13 1 0 0 pl pl] 0) ⟨mk (hs0 6 many), 96, 0, 0, True, [.br false]⟩) =
    some (true, True ∧ cmpI .gtr pl 65536 = false, some (.soslice 13 1 0 0 pl pl)) :=
  match many, hm with
  | 0, _ => by kernel_rfl
  | 1, _ => by kernel_rfl
  | 2, _ => by kernel_rfl
  | 3, _ => by kernel_rfl
  | 4, _ => by kernel_rfl
  | 5, _ => by kernel_rfl
end Ct
end Go.Proofs.YtpkfimijnkkbjaaGreat
