/-
  TopCounts: what has come of the play.
  TopCounts where nothing is to be played: reckoned whole.
  TopCounts: its end, for so many threads.
  TopCounts: its end, for so many threads.
  TopCounts: its end, for so many threads.
-/
import Derived.Test.YtpkfimijnkkbjaaGreatJ38
set_option linter.unusedVariables false
namespace Go.Proofs.YtpkfimijnkkbjaaGreat
namespace Ct
open Ev Go.RowKit

variable {κ : Keep}

theorem FitH.same {H H' : Nat → Option AObj} {φ φ' : Phi} {w : World} (h : FitH κ H φ w) (hH : ∀ c o', H' c = some o' → φ' c = φ c ∧ ∃ o, H c = some o ∧ Same φ φ' o o') : FitH κ H' φ' w :=
  h.rename id (fun b c x y _ _ he => he) hH

/-- The words at the end. -/
def xOf (c : Cf) (k : Nat) : Int := match c.log[k]? with
  | some o => (pk o : Nat)
  | none => 0
theorem words_lit {n many : Nat} {c : Cf} (hok : Ok n many c) (hfin : ∀ u, u < n → c.fin u = 3 * many) (φ φ' : Phi) : concL φ (wordsOf n c) = concL φ' (wordsLit n many (xOf c) (fun i => (wordAt n c i : Nat))) := by
  rw [concL_eq, concL_eq]
  unfold wordsOf wordsLit
  rw [List.map_map, List.map_map]
  refine List.map_congr_left fun i hi => ?_
  have hlen := (hok.ended hfin).1
  show Value.int .u64 (wordAt n c i : Nat) = conc φ' (if i < n then .int .u64 many else if i = n then .int .u64 ((n * many : Nat) : Int) else if i < 2 * n + 1 then .sint .u64 (wordAt n c i : Nat) else if i - (2 * n + 1) < n * many then .sint .u64 (xOf c (i - (2 * n + 1))) else .int .u64 0)
  by_cases h1 : i < n
  · rw [if_pos h1]
    unfold wordAt tal
    rw [if_pos h1, hfin i h1]
    show Value.int .u64 (((3 * many + 2) / 3 : Nat) : Int) = Value.int .u64 (many : Nat)
    congr 2; omega
  rw [if_neg h1]
  by_cases h2 : i = n
  · rw [if_pos h2]
    unfold wordAt
    rw [if_neg h1, if_pos h2]
    have : sumN n (fun u => (c.fin u + 1) / 3) = n * many := by
      rw [← sumN_const]
      exact sumN_congr n fun u hu => by rw [hfin u hu]; omega
    rw [this]; rfl
  rw [if_neg h2]
  by_cases h3 : i < 2 * n + 1
  · rw [if_pos h3]; rfl
  rw [if_neg h3]
  unfold wordAt
  rw [if_neg h1, if_neg h2, if_neg h3]
  by_cases h4 : i - (2 * n + 1) < n * many
  · rw [if_pos h4]
    unfold xOf
    have hg : c.log[i - (2 * n + 1)]? = some (c.log[i - (2 * n + 1)]'(by omega)) := List.getElem?_eq_getElem (by omega)
    rw [hg]; rfl
  · rw [if_neg h4, List.getElem?_eq_none (by omega)]; rfl
theorem x_ne {n many : Nat} {c : Cf} (hok : Ok n many c) (hfin : ∀ u, u < n → c.fin u = 3 * many) : ∀ i, i < n * many → xOf c i ≠ 0 := fun i hi => by
  have hlen := (hok.ended hfin).1
  unfold xOf
  rw [List.getElem?_eq_getElem (by omega : i < c.log.length)]
  have := pk_pos (c.log[i]'(by omega))
  show ((pk _ : Nat) : Int) ≠ 0
  omega
def rOf (l : List AV) (i : Nat) : Int := match l[8 * i + 2]? with
  | some (.sint _ r) => r
  | _ => 0
theorem evs_lit {l : List AV} {k : Nat} {may : Nat → Prop} (h : EvsOk l k may) : l = evsLit k (fun i => l.getD i .nils) (rOf l) := by
  refine List.ext_getElem? fun i => ?_
  unfold evsLit
  by_cases hi : i < 8 * k
  · rw [List.getElem?_map, List.getElem?_range hi]
    show _ = some (if i % 8 = 2 then .sint .i64 (rOf l (i / 8)) else l.getD i .nils)
    by_cases h2 : i % 8 = 2
    · rw [if_pos h2]
      obtain ⟨r, hr, _⟩ := h.rsp (i / 8) (by omega)
      have e : 8 * (i / 8) + 2 = i := by omega
      unfold rOf
      rw [hr]
      rw [e] at hr
      exact hr
    · rw [if_neg h2]
      rw [List.getD_eq_getElem?_getD, List.getElem?_eq_getElem (by rw [h.len]; exact hi)]
      rfl
  · rw [List.getElem?_eq_none (by rw [h.len]; omega), List.getElem?_eq_none (by simp; omega)]
theorem r_ne {l : List AV} {k : Nat} {may : Nat → Prop} (h : EvsOk l k may) (hm : ∀ i, ¬ may i) : ∀ i, i < k → rOf l i ≠ 0 := fun i hi => by
  obtain ⟨r, hr, h1⟩ := h.rsp i hi
  unfold rOf
  rw [hr]
  rcases h1 with h1 | h1
  · exact h1
  · exact absurd h1 (hm i)

/-- What lies there at the end. -/
def Hfin (l : List (Nat × AObj)) (b : Nat) : Option AObj := (l.find? fun p => Nat.beq p.1 b).map (·.2)
theorem hfin_some {l : List (Nat × AObj)} {b : Nat} {o : AObj} (h : Hfin l b = some o) : (b, o) ∈ l := by
  unfold Hfin at h
  cases hf : l.find? (fun p => Nat.beq p.1 b) with
  | none => rw [hf] at h; cases h
  | some p =>
    rw [hf] at h
    cases h
    have h1 := List.mem_of_find?_eq_some hf
    have h2 := List.find?_some hf
    have h3 : p.1 = b := Nat.eq_of_beq_eq_true h2
    rw [← h3]; exact h1
def E6 (n many : Nat) : Env := [(0, .int .i64 n), (7, .int .i64 many), (8, .ptr 14 0), (11, .ptr 97 0), (12, .int .i64 0)]
/-- What is known behind the play. -/
def At6 (κ : Keep) (n many : Nat) (a : Act) (w : World) : Prop :=
  ∃ (φ : Phi) (x y r : Nat → Int) (z : Nat → AV) (c : Nat → Int) (p q : Int) (v1 v3 : Value), (∀ i, i < n * many → x i ≠ 0) ∧ (∀ i, i < 3 * n * many → r i ≠ 0) ∧
    At κ (Hfin (tailHs n many x y r z c p q v1 v3)) 170 98 (E6 n many) φ w a
theorem played4 {n many : Nat} (hn : 1 ≤ n ∧ n ≤ 6) (hm : many ≤ 5) {a0 : Option Addr} {cap : Nat} {ps0 : List Int} (hlen : ps0.length ≤ 4000)
    {Q : Exit → Act → World → Prop} {a : Act} {w : World} (h : At4 κ n many a0 cap ps0 n a w) (hQ : ∀ a w, At6 κ n many a w → (T4 (Tryz.f4.body.getD .skip)).wp Tryz.prog Q a w) : (dropC 0 (D4 (Tryz.f4.body.getD .skip))).wp Tryz.prog Q a w := by
  obtain ⟨φ, pv, own, hat, hone, hcase⟩ := h
  rcases hcase with ⟨_, h0, _⟩ | ⟨rfl, hpv⟩
  · omega
  generalize hps : psAt ps0 many n = ps at hat hpv
  have hpl : ps.length ≤ 65536 := by
    rw [← hps, psAt_len]
    have : n * (300 * many) ≤ 6 * 1500 := Nat.mul_le_mul (by omega) (by omega)
    omega
  have hcnt : ∀ u : Nat, u < n → 300 * many ≤ ps.count (u : Int) := fun u hu => by rw [← hps]; exact psAt_count ps0 many n u hu
  have hPall : (AV.soslice 13 1 0 0 ps.length ps.length).All (· < 96) := by show 13 < 96; omega
  have hownAll : ∀ o, own4 ps = some o → o.All (· < 96) := fun o h => by cases h; exact sints_all ps
  have hids1 := H4_ids (n := n) (many := many) hPall hownAll
  have hconcP : conc φ (.opq pv) = conc φ (.soslice 13 1 0 0 ps.length ps.length) := by
    show (if pv.oneCell' then pv else .bool false) = _
    rw [hone, ← hpv]; rfl
  have hfit1 : FitH κ (H4 n many (.soslice 13 1 0 0 ps.length ps.length) (own4 ps)) φ w := FitH.same hat.fit fun b o' hb => by
    refine ⟨rfl, ?_⟩
    unfold H4 at hb ⊢
    split at hb
    · rename_i e; rw [if_pos e]; exact ⟨_, rfl, by cases hb; exact Same.refl _ _⟩
    split at hb
    · rename_i e1 e; rw [if_neg e1, if_pos e]; exact ⟨_, hb, Same.refl _ _⟩
    split at hb
    · rename_i e1 e2 e; rw [if_neg e1, if_neg e2, if_pos e]; exact ⟨_, hb, Same.refl _ _⟩
    split at hb
    · rename_i e1 e2 e3 e; rw [if_neg e1, if_neg e2, if_neg e3, if_pos e]
      cases hb
      exact ⟨_, rfl, by simp only [concL, hconcP], rfl, rfl⟩
    · cases hb
  have hat1 : At κ (H4 n many (.soslice 13 1 0 0 ps.length ps.length) (own4 ps)) 170 96 (E5 n many) φ w a := hat.recast hfit1 hids1 (cons_all ⟨_, rfl, rfl, trivial⟩ <| cons_all ⟨_, rfl, rfl, trivial⟩ <| cons_all ⟨_, rfl, rfl, by show 14 < 96; omega⟩ nil_all)
  refine seq_wp (a := R18 (Tryz.f4.body.getD .skip)) (b := T4 (Tryz.f4.body.getD .skip)) (by kernel_rfl) ?_
  refine region_wp r18_is ?_
  rw [r18_size]
  -- the scene is read
  obtain ⟨env2, s2, hev2, hsl2, hpre2, hnx2, hwr2, _⟩ := viewO_some (u18_load n many ps.length)
  have hP2 : s2.pre := by rw [hpre2]; exact True.intro
  have h14 : H4 n many (.soslice 13 1 0 0 ps.length ps.length) (own4 ps) 14 = some (.row false (scene n many ps.length) 26 none) := by
    unfold H4; rw [if_neg (by omega), if_neg (by omega), if_neg (by omega), if_pos rfl]; rfl
  have hl1 : ((opsA (R18 (Tryz.f4.body.getD .skip))).toList.take 1).length = 1 := by kernel_rfl
  rw [show List.range 8 = List.range' 0 ((opsA (R18 (Tryz.f4.body.getD .skip))).toList.take 1).length ++ [1, 2, 3, 4, 5, 6, 7] by rw [hl1]; rfl]
  refine seg (does_ops named (sound named mixed liveOk 60) (nt := 170) _ 0 _ _ _ _ hev2 (fun j hj => by rw [hl1] at hj; rw [List.getElem?_take, if_pos hj, Nat.zero_add]; simp)) hat1 (hs_of hids1 (cons_all (.same h14) nil_all)) hP2 (fun φ2 w2 a2 hφ2 hat2 => ?_) _ [1, 2, 3, 4, 5, 6, 7] (fun a w h => h)
  have hsceneAll : (AV.agg (scene n many ps.length)).All (· < 96) := by
    unfold AV.All
    exact ⟨trivial, by show 1 < 96; omega, clArg_all (by omega), by show 13 < 96; omega, trivial⟩
  have hat2' : At κ (H4 n many (.soslice 13 1 0 0 ps.length ps.length) (own4 ps)) 170 96 ((73, .agg (scene n many ps.length)) :: E5 n many) φ2 w2 a2 := by
    refine hat2.recast (hat2.fit.keep (not_wr (fun c o h => (hids1 c o h).1) hwr2)) hids1 ?_
    exact cons_all ⟨_, slot_of hsl2 3 rfl rfl, rfl, hsceneAll⟩ <| cons_all ⟨_, slot_of hsl2 0 rfl rfl, rfl, trivial⟩ <| cons_all ⟨_, slot_of hsl2 1 rfl rfl, rfl, trivial⟩ <| cons_all ⟨_, slot_of hsl2 2 rfl rfl, rfl, by show 14 < 96; omega⟩ nil_all
  -- the call
  let boxC : List AV := [.int .i64 n, .opq (conc φ2 (.slice 1 0 3 3)), .opq (conc φ2 (clArg n many)), .opq (conc φ2 (.soslice 13 1 0 0 ps.length ps.length))]
  let O : Nat → Option AObj := fun b => if b = 13 then some (ownRow ps) else if b = 14 then some (.row false boxC 26 none) else none
  have hO13 : O 13 = some (.row true (ps.map fun x => .sint .i64 x) 3 (some 1)) := rfl
  have hO15 : O 15 = none := rfl
  have hOn : ∀ b o, O b = some o → o.All fun _ => False := fun b o h => by
    have h' : (if b = 13 then some (ownRow ps) else if b = 14 then some (.row false boxC 26 none) else none) = some o := h
    split at h'
    · cases h'; exact sints_all ps
    split at h'
    · cases h'; exact ⟨trivial, trivial, trivial, trivial, trivial⟩
    · cases h'
  have hclOne : (conc φ2 (clArg n many)).oneCell' = true := by
    unfold clArg; split <;> rfl
  have hboxS : concL φ2 (scene n many ps.length) = concL φ2 boxC := by
    show _ = [Value.int .i64 n, if (conc φ2 (.slice 1 0 3 3)).oneCell' then conc φ2 (.slice 1 0 3 3) else .bool false, if (conc φ2 (clArg n many)).oneCell' then conc φ2 (clArg n many) else .bool false, if (conc φ2 (.soslice 13 1 0 0 ps.length ps.length)).oneCell' then conc φ2 (.soslice 13 1 0 0 ps.length ps.length) else .bool false]
    rw [hclOne, show (conc φ2 (.slice 1 0 3 3)).oneCell' = true from rfl, show (conc φ2 (.soslice 13 1 0 0 ps.length ps.length)).oneCell' = true from rfl]
    rfl
  have hfit15 : FitH κ (H15 n many O) φ2 w2 := FitH.same hat2'.fit fun b o' hb => by
    refine ⟨rfl, ?_⟩
    unfold H15 at hb
    unfold H4
    split at hb
    · rename_i e; rw [if_pos e]; exact ⟨_, rfl, by cases hb; exact Same.refl _ _⟩
    split at hb
    · rename_i e1 e; rw [if_neg e1, if_pos e]; exact ⟨_, hb, Same.refl _ _⟩
    split at hb
    · rename_i e1 e2 e
      rw [if_neg e1, if_neg e2]
      have h' : (if b = 13 then some (ownRow ps) else if b = 14 then some (.row false boxC 26 none) else none) = some o' := hb
      split at h'
      · rename_i e3; rw [if_pos e3]; exact ⟨_, h', Same.refl _ _⟩
      split at h'
      · rename_i e3 e4; rw [if_neg e3, if_pos e4]
        cases h'
        exact ⟨_, rfl, hboxS, rfl, rfl⟩
      · cases h'
    · cases hb
  obtain ⟨r, hr1, hr2, hr3, hr4⟩ := r18_op
  rw [wpOps_cons]
  refine seg_call2 named f8_is hr1 hr2 hr3 (avs := [.agg (scene n many ps.length)]) rfl hat2' (play8 hn hm hpl hcnt hO13 hO15 hOn hfit15) ?_
  rintro e w3 ⟨φ3, c, j, rfl, hend, hfit3, hφ3⟩
  obtain ⟨k, hj⟩ := hend.jok
  have hevl : j.evl = 3 * n * many := by
    rw [hj.evl, Nat.mul_comm 3 n, Nat.mul_assoc, ← sumN_const]
    exact sumN_congr n fun u hu => by rw [hend.fin u hu, hend.mode u]; rfl
  let φ4 : Phi := fun i => if i = 21 then φ2 7 else φ3 i
  have hφ4 : ∀ i, i ≠ 21 → φ4 i = φ3 i := fun i hi => if_neg hi
  let v1 := conc φ2 (.slice 1 0 3 3)
  let v3 := conc φ2 (.soslice 13 1 0 0 ps.length ps.length)
  let H5 : Nat → Option AObj := fun b => if b = 14 then some (.row false [.int .i64 n, .opq v1, clL n many, .opq v3] 26 none) else if b = 20 then some (.row true (wordsOf n c) 40 (some 1)) else if b = 8 then (if many = 0 then none else some (.row true j.evs 48 (some 8))) else none
  have hclL : (clL n many).All (· < 96) := by
    unfold clL; split
    · trivial
    · show 21 < 96; omega
  have hids5 : ∀ b o, H5 b = some o → b < 96 ∧ o.All (· < 96) := fun b o h => by
    have h' : (if b = 14 then some (.row false [.int .i64 n, .opq v1, clL n many, .opq v3] 26 none) else if b = 20 then some (.row true (wordsOf n c) 40 (some 1)) else if b = 8 then (if many = 0 then none else some (.row true j.evs 48 (some 8))) else none) = some o := h
    split at h'
    · cases h'; exact ⟨by omega, trivial, trivial, hclL, trivial, trivial⟩
    split at h'
    · cases h'; exact ⟨by omega, ints_all _ _ _⟩
    split at h'
    · split at h'
      · cases h'
      · cases h'; exact ⟨by omega, allL_iff.2 fun v hv => ((hj.evs.all v hv).2).mono fun i h => h.elim⟩
    · cases h'
  have hfit5 : FitH κ H5 φ4 w3 := FitH.same hfit3 fun b o' hb => by
    have h' : (if b = 14 then some (.row false [.int .i64 n, .opq v1, clL n many, .opq v3] 26 none) else if b = 20 then some (.row true (wordsOf n c) 40 (some 1)) else if b = 8 then (if many = 0 then none else some (.row true j.evs 48 (some 8))) else none) = some o' := hb
    unfold Hend
    split at h'
    · rename_i e; subst e
      rw [if_neg (by omega), if_neg (by omega), if_pos ⟨by omega, by omega⟩]
      cases h'
      refine ⟨hφ4 14 (by omega), .row false boxC 26 none, rfl, ?_, rfl, rfl⟩
      show [Value.int .i64 n, if v1.oneCell' then v1 else .bool false, if (conc φ2 (clArg n many)).oneCell' then conc φ2 (clArg n many) else .bool false, if v3.oneCell' then v3 else .bool false] = [Value.int .i64 n, if v1.oneCell' then v1 else .bool false, conc φ4 (clL n many), if v3.oneCell' then v3 else .bool false]
      rw [hclOne]
      have : conc φ2 (clArg n many) = conc φ4 (clL n many) := by
        unfold clArg clL
        split
        · rfl
        · exact conc_os (by show φ2 7 = (if 21 = 21 then φ2 7 else φ3 21); rw [if_pos rfl])
      rw [this]; rfl
    split at h'
    · rename_i e1 e; subst e
      rw [if_neg (by omega), if_pos rfl]
      cases h'
      exact ⟨hφ4 20 (by omega), _, rfl, Same.of_all (D := fun i => i ≠ 21) (ints_all _ _ _) hφ4⟩
    split at h'
    · rename_i e1 e2 e; subst e
      split at h'
      · cases h'
      · rename_i hmany
        rw [if_pos rfl, if_neg (by
          rw [hevl]
          have : 0 < 3 * n * many := Nat.mul_pos (by omega) (by omega)
          omega)]
        cases h'
        exact ⟨hφ4 8 (by omega), _, rfl, Same.of_all (D := fun i => i ≠ 21) (allL_iff.2 fun v hv => ((hj.evs.all v hv).2).mono fun i h => h.elim) hφ4⟩
    · cases h'
  have hEall : (evsOf j).All (· < 96) := by
    unfold evsOf; split
    · trivial
    · show 8 < 96; omega
  have hRall : (AV.tup [repOf n j, .int .i64 0]).All (· < 96) := by
    unfold AV.All repOf
    exact ⟨by unfold AV.All; exact ⟨hEall, by show 20 < 96; omega, trivial, trivial, trivial, trivial, trivial, trivial, trivial, trivial⟩, trivial, trivial⟩
  refine ⟨φ4, H5, 96, .tup [repOf n j, .int .i64 0], E5 n many, _, ?_, Nat.le_refl _, fun t u hu => ?_, hfit5, hids5, hRall, by rw [hr4]; rfl, fun a4 hat4 => ?_⟩
  · have e1 : conc φ3 (evsOf j) = conc φ4 (evsOf j) := by
      unfold evsOf; split
      · rfl
      · exact conc_sos (hφ4 8 (by omega)).symm
    have e2 : conc φ3 (.soslice 20 1 0 0 (2 * n + 65) (2 * n + 65)) = conc φ4 (.soslice 20 1 0 0 (2 * n + 65) (2 * n + 65)) := conc_sos (hφ4 20 (by omega)).symm
    unfold repOf
    simp only [conc, concL] at e1 e2 ⊢
    rw [e1, e2]
  · have hm' := look_mem hu
    simp only [E5, List.mem_cons, List.not_mem_nil, or_false, Prod.mk.injEq] at hm'
    rcases hm' with ⟨rfl, rfl⟩ | ⟨rfl, rfl⟩ | ⟨rfl, rfl⟩
    · exact ⟨rfl, rfl⟩
    · exact ⟨rfl, rfl⟩
    · exact ⟨rfl, by simp only [conc]; rw [hφ4 14 (by omega), hφ3 14 ⟨by omega, by omega⟩]⟩
  -- the report is laid
  have hE : evsOf j = .nils ∨ evsOf j = .soslice 8 8 0 0 (3 * n * many) (3 * n * many) := by
    unfold evsOf
    split
    · exact .inl rfl
    · rw [hevl]; exact .inr rfl
  obtain ⟨env6, s6, hev6, hsl6, hpre6, hnx6, hwr6, hrows6⟩ := viewO_some (u18_post n many (3 * n * many) (evsOf j) hE (j.cnt 0) (j.cnt 1) (j.cnt 2) (j.cnt 3) (j.cnt 4) j.now j.idle)
  have hP6 : s6.pre := by rw [hpre6]; exact True.intro
  have hl2 : ((opsA (R18 (Tryz.f4.body.getD .skip))).toList.drop 2).length = 6 := by kernel_rfl
  rw [show [2, 3, 4, 5, 6, 7] = List.range' 2 ((opsA (R18 (Tryz.f4.body.getD .skip))).toList.drop 2).length ++ [] by rw [hl2]; rfl]
  refine seg (does_ops named (sound named mixed liveOk 60) (nt := 170) _ 2 _ _ _ _ hev6 (fun j hj => by rw [List.getElem?_drop]; simp)) hat4 none_mk hP6
    (K := fun a w => wpOps Tryz.prog (opsA (R18 (Tryz.f4.body.getD .skip))) _ [] a w) (fun φ7 w7 a7 hφ7 hat7 => ?_) _ [] (fun a w h => h)
  show (T4 (Tryz.f4.body.getD .skip)).wp Tryz.prog Q a7 w7
  refine hQ a7 w7 ⟨fun i => φ7 (if i = 97 then 96 else i), xOf c, (fun i => (wordAt n c i : Nat)), rOf j.evs, (fun i => j.evs.getD i .nils), j.cnt, j.now, j.idle, v1, v3, x_ne hend.ok hend.fin, ?_, ?_⟩
  · have := r_ne hj.evs (fun i hi => by
      obtain ⟨u, _, hb, _⟩ := hi
      rw [hend.mode u] at hb
      cases hb)
    rw [hevl] at this
    exact this
  have h7at : ∀ b, b < 96 → after H5 s6 b = H5 b := fun b hb => by
    unfold after
    rw [if_neg (fun hh => by
      have := (hwr6 b (by omega)).1 hh
      simp only [List.mem_cons, List.not_mem_nil, or_false] at this
      omega)]
  have h796 : after H5 s6 96 = some (.row false [evsOf j, .soslice 20 1 0 0 (2 * n + 65) (2 * n + 65), .sint .i64 (j.cnt 0), .sint .i64 (j.cnt 1), .sint .i64 (j.cnt 2), .sint .i64 (j.cnt 3), .sint .i64 (j.cnt 4), .sint .i64 j.now, .sint .i64 j.idle] 34 none) := by
    unfold after; rw [if_pos ((hwr6 96 (by omega)).2 (by simp))]; exact get_of_names hrows6 0 rfl rfl
  have hmem : ∀ b o, Hfin (tailHs n many (xOf c) (fun i => (wordAt n c i : Nat)) (rOf j.evs) (fun i => j.evs.getD i .nils) j.cnt j.now j.idle v1 v3) b = some o →
      (b = 14 ∧ o = .row false [.int .i64 n, .opq v1, clL n many, .opq v3] 26 none) ∨ (b = 97 ∧ o = .row false (tailRow n many j.cnt j.now j.idle) 34 none) ∨ (b = 20 ∧ o = .row false (wordsLit n many (xOf c) (fun i => (wordAt n c i : Nat))) 40 (some 1)) ∨ (many ≠ 0 ∧ b = 8 ∧ o = .row false j.evs 48 (some 8)) := fun b o h => by
    have h1 := hfin_some h
    unfold tailHs at h1
    rw [List.mem_cons, List.mem_cons, List.mem_cons, Prod.mk.injEq, Prod.mk.injEq, Prod.mk.injEq] at h1
    rcases h1 with h1 | h1 | h1 | h1
    · exact .inl h1
    · exact .inr (.inl h1)
    · exact .inr (.inr (.inl h1))
    · split at h1
      · cases h1
      · rename_i h0
        rw [List.mem_singleton, Prod.mk.injEq] at h1
        have e := evs_lit hj.evs
        rw [hevl] at e
        exact .inr (.inr (.inr ⟨h0, h1.1, by rw [h1.2, ← e]⟩))
  have hEvs : ∀ D : Nat → Prop, AllL D j.evs := fun D => allL_iff.2 fun v hv => ((hj.evs.all v hv).2).mono fun i h => h.elim
  have hWs : ∀ D : Nat → Prop, AllL D (wordsLit n many (xOf c) (fun i => (wordAt n c i : Nat))) := fun D => by
    rw [allL_iff]; intro v hv
    obtain ⟨i, _, rfl⟩ := List.mem_map.1 hv
    dsimp only
    split
    · trivial
    split
    · trivial
    split
    · trivial
    split
    · trivial
    · trivial
  have hTail : ∀ D : Nat → Prop, D 8 → D 20 → AllL D (tailRow n many j.cnt j.now j.idle) := fun D h8 h20 => by
    refine ⟨?_, h20, trivial, trivial, trivial, trivial, trivial, trivial, trivial, trivial⟩
    unfold evL; split
    · trivial
    · exact h8
  have hids8 : ∀ b o, Hfin (tailHs n many (xOf c) (fun i => (wordAt n c i : Nat)) (rOf j.evs) (fun i => j.evs.getD i .nils) j.cnt j.now j.idle v1 v3) b = some o → b < 98 ∧ o.All (· < 98) := fun b o h => by
    rcases hmem b o h with ⟨rfl, rfl⟩ | ⟨rfl, rfl⟩ | ⟨rfl, rfl⟩ | ⟨_, rfl, rfl⟩
    · exact ⟨by omega, trivial, trivial, hclL.mono fun i hi => Nat.lt_of_lt_of_le hi (by omega), trivial, trivial⟩
    · exact ⟨by omega, hTail _ (by omega) (by omega)⟩
    · exact ⟨by omega, hWs _⟩
    · exact ⟨by omega, hEvs _⟩
  have hρ : ∀ i, i ≠ 97 → φ7 (if i = 97 then 96 else i) = φ7 i := fun i hi => by rw [if_neg hi]
  refine hat7.recast (hat7.fit.moved (fun i => if i = 97 then 96 else i) (fun b d x y hb hd he => ?_) (fun b o' hb => ?_)) hids8 ?_
  · have he' : (if b = 97 then 96 else b) = (if d = 97 then 96 else d) := he
    rcases hmem b x hb with ⟨rfl, _⟩ | ⟨rfl, _⟩ | ⟨rfl, _⟩ | ⟨_, rfl, _⟩ <;> rcases hmem d y hd with ⟨rfl, _⟩ | ⟨rfl, _⟩ | ⟨rfl, _⟩ | ⟨_, rfl, _⟩ <;> first | rfl | exact absurd he' (by decide)
  · rcases hmem b o' hb with ⟨rfl, rfl⟩ | ⟨rfl, rfl⟩ | ⟨rfl, rfl⟩ | ⟨hmany, rfl, rfl⟩
    · exact ⟨_, (h7at 14 (by omega)).trans rfl, Same.of_all (D := fun i => i ≠ 97) ⟨trivial, trivial, hclL.mono fun i hi => by omega, trivial, trivial⟩ hρ⟩
    · refine ⟨_, h796, ?_, rfl, rfl⟩
      have e1 : conc φ7 (evsOf j) = conc (fun i => φ7 (if i = 97 then 96 else i)) (evL n many) := by
        unfold evsOf evL
        by_cases h0 : many = 0
        · rw [if_pos h0, if_pos (by rw [hevl, h0, Nat.mul_zero])]; rfl
        · rw [if_neg h0, if_neg (by
            rw [hevl]
            have : 0 < 3 * n * many := Nat.mul_pos (by omega) (by omega)
            omega), hevl]
          show conc φ7 (.oslice 8 8 0 0 (3 * n * many) (3 * n * many)) = _
          exact conc_os (hρ 8 (by omega)).symm
      have e2 : conc φ7 (.soslice 20 1 0 0 (2 * n + 65) (2 * n + 65)) = conc (fun i => φ7 (if i = 97 then 96 else i)) (.oslice 20 1 0 0 (2 * n + 65) (2 * n + 65)) := by
        show conc φ7 (.oslice 20 1 0 0 (2 * n + 65) (2 * n + 65)) = _
        exact conc_os (hρ 20 (by omega)).symm
      unfold tailRow
      rw [concL, concL, concL, concL, e1, e2]
      rfl
    · refine ⟨_, (h7at 20 (by omega)).trans rfl, ?_, rfl, rfl⟩
      exact words_lit hend.ok hend.fin _ _
    · refine ⟨.row true j.evs 48 (some 8), (h7at 8 (by omega)).trans ?_, ?_, rfl, rfl⟩
      · show (if many = 0 then none else some (AObj.row true j.evs 48 (some 8))) = _
        rw [if_neg hmany]
      · exact (concL_congr (D := fun i => i ≠ 97) hρ (hEvs _)).symm
  · exact cons_all ⟨_, slot_of hsl6 0 rfl rfl, rfl, trivial⟩ <| cons_all ⟨_, slot_of hsl6 1 rfl rfl, rfl, trivial⟩ <| cons_all ⟨_, slot_of hsl6 2 rfl rfl, by simp only [conc]; rw [hρ 14 (by omega)], by show 14 < 98; omega⟩ <| cons_all ⟨_, slot_of hsl6 3 rfl rfl, by simp [conc], by show 97 < 98; omega⟩ <| cons_all ⟨_, slot_of hsl6 4 rfl rfl, rfl, trivial⟩ nil_all
end Ct
end Go.Proofs.YtpkfimijnkkbjaaGreat

namespace Go.Proofs.YtpkfimijnkkbjaaGreat
namespace Ct
open Ev
def noneRun (P : Program) (c : Code) (n : Nat) (v : AV) : Res (Ex × Env) := evCode P (evFn P liveSum 60) 170 100000 (dropC 2 c) [(0, .int .i64 n), (7, .int .i64 (0 : Nat)), (2, v)] ⟨mk [], 96, 0, 0, True, []⟩
theorem noneA1 : viewP Tryz.prog Tryz.f4.results.toList (noneRun Tryz.prog (Tryz.f4.body.getD .skip) 1 .nils) = some ([.bool true], True) := by kernel_rfl
theorem noneB1 (off cap : Nat) : viewP Tryz.prog Tryz.f4.results.toList (noneRun Tryz.prog (Tryz.f4.body.getD .skip) 1 (.slice 22 off 0 cap)) = some ([.bool true], True) := by kernel_rfl
theorem noneA2 : viewP Tryz.prog Tryz.f4.results.toList (noneRun Tryz.prog (Tryz.f4.body.getD .skip) 2 .nils) = some ([.bool true], True) := by kernel_rfl
theorem noneB2 (off cap : Nat) : viewP Tryz.prog Tryz.f4.results.toList (noneRun Tryz.prog (Tryz.f4.body.getD .skip) 2 (.slice 22 off 0 cap)) = some ([.bool true], True) := by kernel_rfl
theorem noneA3 : viewP Tryz.prog Tryz.f4.results.toList (noneRun Tryz.prog (Tryz.f4.body.getD .skip) 3 .nils) = some ([.bool true], True) := by kernel_rfl
theorem noneB3 (off cap : Nat) : viewP Tryz.prog Tryz.f4.results.toList (noneRun Tryz.prog (Tryz.f4.body.getD .skip) 3 (.slice 22 off 0 cap)) = some ([.bool true], True) := by kernel_rfl
theorem noneA4 : viewP Tryz.prog Tryz.f4.results.toList (noneRun Tryz.prog (Tryz.f4.body.getD .skip) 4 .nils) = some ([.bool true], True) := by kernel_rfl
theorem noneB4 (off cap : Nat) : viewP Tryz.prog Tryz.f4.results.toList (noneRun Tryz.prog (Tryz.f4.body.getD .skip) 4 (.slice 22 off 0 cap)) = some ([.bool true], True) := by kernel_rfl
theorem noneA5 : viewP Tryz.prog Tryz.f4.results.toList (noneRun Tryz.prog (Tryz.f4.body.getD .skip) 5 .nils) = some ([.bool true], True) := by kernel_rfl
theorem noneB5 (off cap : Nat) : viewP Tryz.prog Tryz.f4.results.toList (noneRun Tryz.prog (Tryz.f4.body.getD .skip) 5 (.slice 22 off 0 cap)) = some ([.bool true], True) := by kernel_rfl
theorem noneA6 : viewP Tryz.prog Tryz.f4.results.toList (noneRun Tryz.prog (Tryz.f4.body.getD .skip) 6 .nils) = some ([.bool true], True) := by kernel_rfl
theorem noneB6 (off cap : Nat) : viewP Tryz.prog Tryz.f4.results.toList (noneRun Tryz.prog (Tryz.f4.body.getD .skip) 6 (.slice 22 off 0 cap)) = some ([.bool true], True) := by kernel_rfl
theorem none_all {n : Nat} (hn : 1 ≤ n ∧ n ≤ 6) {v : AV} (hv : v = .nils ∨ ∃ off cap, v = .slice 22 off 0 cap) : viewP Tryz.prog Tryz.f4.results.toList (noneRun Tryz.prog (Tryz.f4.body.getD .skip) n v) = some ([.bool true], True) := by
  have : n = 1 ∨ n = 2 ∨ n = 3 ∨ n = 4 ∨ n = 5 ∨ n = 6 := by omega
  rcases hv with rfl | ⟨off, cap, rfl⟩
  · rcases this with rfl | rfl | rfl | rfl | rfl | rfl
    · exact noneA1
    · exact noneA2
    · exact noneA3
    · exact noneA4
    · exact noneA5
    · exact noneA6
  · rcases this with rfl | rfl | rfl | rfl | rfl | rfl
    · exact noneB1 off cap
    · exact noneB2 off cap
    · exact noneB3 off cap
    · exact noneB4 off cap
    · exact noneB5 off cap
    · exact noneB6 off cap
end Ct
end Go.Proofs.YtpkfimijnkkbjaaGreat

namespace Go.Proofs.YtpkfimijnkkbjaaGreat
namespace Ct
open Ev
theorem tail1 (many : Nat) (hm : many < 6) (x y r : Nat → Int) (z : Nat → AV) (c : Nat → Int) (a b : Int) (v1 v3 : Value) : viewP Tryz.prog Tryz.f4.results.toList (tailRun Tryz.prog (Tryz.f4.body.getD .skip) 1 many x y r z c a b v1 v3) = some ([.bool true], preR r (3 * 1 * many) (preX x (1 * many) True)) :=
  match many, hm with
  | 0, _ => by kernel_rfl
  | 1, _ => by kernel_rfl
  | 2, _ => by kernel_rfl
  | 3, _ => by kernel_rfl
  | 4, _ => by kernel_rfl
  | 5, _ => by kernel_rfl
theorem tail2 (many : Nat) (hm : many < 6) (x y r : Nat → Int) (z : Nat → AV) (c : Nat → Int) (a b : Int) (v1 v3 : Value) : viewP Tryz.prog Tryz.f4.results.toList (tailRun Tryz.prog (Tryz.f4.body.getD .skip) 2 many x y r z c a b v1 v3) = some ([.bool true], preR r (3 * 2 * many) (preX x (2 * many) True)) :=
  match many, hm with
  | 0, _ => by kernel_rfl
  | 1, _ => by kernel_rfl
  | 2, _ => by kernel_rfl
  | 3, _ => by kernel_rfl
  | 4, _ => by kernel_rfl
  | 5, _ => by kernel_rfl
theorem tail3 (many : Nat) (hm : many < 6) (x y r : Nat → Int) (z : Nat → AV) (c : Nat → Int) (a b : Int) (v1 v3 : Value) : viewP Tryz.prog Tryz.f4.results.toList (tailRun Tryz.prog (Tryz.f4.body.getD .skip) 3 many x y r z c a b v1 v3) = some ([.bool true], preR r (3 * 3 * many) (preX x (3 * many) True)) :=
  match many, hm with
  | 0, _ => by kernel_rfl
  | 1, _ => by kernel_rfl
  | 2, _ => by kernel_rfl
  | 3, _ => by kernel_rfl
  | 4, _ => by kernel_rfl
  | 5, _ => by kernel_rfl
theorem tail4 (many : Nat) (hm : many < 6) (x y r : Nat → Int) (z : Nat → AV) (c : Nat → Int) (a b : Int) (v1 v3 : Value) : viewP Tryz.prog Tryz.f4.results.toList (tailRun Tryz.prog (Tryz.f4.body.getD .skip) 4 many x y r z c a b v1 v3) = some ([.bool true], preR r (3 * 4 * many) (preX x (4 * many) True)) :=
  match many, hm with
  | 0, _ => by kernel_rfl
  | 1, _ => by kernel_rfl
  | 2, _ => by kernel_rfl
  | 3, _ => by kernel_rfl
  | 4, _ => by kernel_rfl
  | 5, _ => by kernel_rfl
end Ct
end Go.Proofs.YtpkfimijnkkbjaaGreat

namespace Go.Proofs.YtpkfimijnkkbjaaGreat
namespace Ct
open Ev
theorem tail5 (many : Nat) (hm : many < 6) (x y r : Nat → Int) (z : Nat → AV) (c : Nat → Int) (a b : Int) (v1 v3 : Value) : viewP Tryz.prog Tryz.f4.results.toList (tailRun Tryz.prog (Tryz.f4.body.getD .skip) 5 many x y r z c a b v1 v3) = some ([.bool true], preR r (3 * 5 * many) (preX x (5 * many) True)) :=
  match many, hm with
  | 0, _ => by kernel_rfl
  | 1, _ => by kernel_rfl
  | 2, _ => by kernel_rfl
  | 3, _ => by kernel_rfl
  | 4, _ => by kernel_rfl
  | 5, _ => by kernel_rfl
end Ct
end Go.Proofs.YtpkfimijnkkbjaaGreat

namespace Go.Proofs.YtpkfimijnkkbjaaGreat
namespace Ct
open Ev
theorem tail6 (many : Nat) (hm : many < 6) (x y r : Nat → Int) (z : Nat → AV) (c : Nat → Int) (a b : Int) (v1 v3 : Value) : viewP Tryz.prog Tryz.f4.results.toList (tailRun Tryz.prog (Tryz.f4.body.getD .skip) 6 many x y r z c a b v1 v3) = some ([.bool true], preR r (3 * 6 * many) (preX x (6 * many) True)) :=
  match many, hm with
  | 0, _ => by kernel_rfl
  | 1, _ => by kernel_rfl
  | 2, _ => by kernel_rfl
  | 3, _ => by kernel_rfl
  | 4, _ => by kernel_rfl
  | 5, _ => by kernel_rfl
end Ct
end Go.Proofs.YtpkfimijnkkbjaaGreat
