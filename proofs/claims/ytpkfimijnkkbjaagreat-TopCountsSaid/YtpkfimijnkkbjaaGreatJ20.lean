/-
  TopCounts: its scene in a memory.
  The built-in append of one element onto a slice of the call's own.
  The built-in append of a whole slice onto a slice of the call's own.
  The law's 'with': picks, and so many more of a thread.
  TopCounts: the picks that are added, reckoned.
  Ways through Player.Pick, printed by uni.py from what the kernel reckoned: idle.
-/
import Derived.Test.YtpkfimijnkkbjaaGreatJ19
import Derived.Test.YtpkfimijnkkbjaaGreatJ01
import Derived.Deep.Draws
import Derived.Laws.AppendOwnNone
import Derived.Test.YtpkfimijnkkbjaaGreatProg
import Derived.Test.YtpkfimijnkkbjaaGreatJ16
import Derived.KernelRfl
set_option linter.unusedVariables false
namespace Go.Proofs.YtpkfimijnkkbjaaGreat
namespace Ct
open Ev

variable {κ : Keep}

theorem made1 (many : Nat) (hm : many < 6) (pv : Value) : madeOk (made 1 many (sceneRun Tryz.prog (Tryz.f4.body.getD .skip) 1 many pv)) = some (true, True, some (.opq pv), some (.tup [.int .i64 (1 : Nat), .int .i64 (many : Nat)])) :=
  match many, hm with
  | 0, _ => by kernel_rfl
  | 1, _ => by kernel_rfl
  | 2, _ => by kernel_rfl
  | 3, _ => by kernel_rfl
  | 4, _ => by kernel_rfl
  | 5, _ => by kernel_rfl
theorem made2 (many : Nat) (hm : many < 6) (pv : Value) : madeOk (made 2 many (sceneRun Tryz.prog (Tryz.f4.body.getD .skip) 2 many pv)) = some (true, True, some (.opq pv), some (.tup [.int .i64 (2 : Nat), .int .i64 (many : Nat)])) :=
  match many, hm with
  | 0, _ => by kernel_rfl
  | 1, _ => by kernel_rfl
  | 2, _ => by kernel_rfl
  | 3, _ => by kernel_rfl
  | 4, _ => by kernel_rfl
  | 5, _ => by kernel_rfl
theorem made3 (many : Nat) (hm : many < 6) (pv : Value) : madeOk (made 3 many (sceneRun Tryz.prog (Tryz.f4.body.getD .skip) 3 many pv)) = some (true, True, some (.opq pv), some (.tup [.int .i64 (3 : Nat), .int .i64 (many : Nat)])) :=
  match many, hm with
  | 0, _ => by kernel_rfl
  | 1, _ => by kernel_rfl
  | 2, _ => by kernel_rfl
  | 3, _ => by kernel_rfl
  | 4, _ => by kernel_rfl
  | 5, _ => by kernel_rfl
theorem made4 (many : Nat) (hm : many < 6) (pv : Value) : madeOk (made 4 many (sceneRun Tryz.prog (Tryz.f4.body.getD .skip) 4 many pv)) = some (true, True, some (.opq pv), some (.tup [.int .i64 (4 : Nat), .int .i64 (many : Nat)])) :=
  match many, hm with
  | 0, _ => by kernel_rfl
  | 1, _ => by kernel_rfl
  | 2, _ => by kernel_rfl
  | 3, _ => by kernel_rfl
  | 4, _ => by kernel_rfl
  | 5, _ => by kernel_rfl
theorem made5 (many : Nat) (hm : many < 6) (pv : Value) : madeOk (made 5 many (sceneRun Tryz.prog (Tryz.f4.body.getD .skip) 5 many pv)) = some (true, True, some (.opq pv), some (.tup [.int .i64 (5 : Nat), .int .i64 (many : Nat)])) :=
  match many, hm with
  | 0, _ => by kernel_rfl
  | 1, _ => by kernel_rfl
  | 2, _ => by kernel_rfl
  | 3, _ => by kernel_rfl
  | 4, _ => by kernel_rfl
  | 5, _ => by kernel_rfl
theorem made6 (many : Nat) (hm : many < 6) (pv : Value) : madeOk (made 6 many (sceneRun Tryz.prog (Tryz.f4.body.getD .skip) 6 many pv)) = some (true, True, some (.opq pv), some (.tup [.int .i64 (6 : Nat), .int .i64 (many : Nat)])) :=
  match many, hm with
  | 0, _ => by kernel_rfl
  | 1, _ => by kernel_rfl
  | 2, _ => by kernel_rfl
  | 3, _ => by kernel_rfl
  | 4, _ => by kernel_rfl
  | 5, _ => by kernel_rfl
theorem made_all {n many : Nat} (hn : 1 ≤ n ∧ n ≤ 6) (hm : many ≤ 5) (pv : Value) : madeOk (made n many (sceneRun Tryz.prog (Tryz.f4.body.getD .skip) n many pv)) = some (true, True, some (.opq pv), some (.tup [.int .i64 (n : Nat), .int .i64 (many : Nat)])) := by
  have : n = 1 ∨ n = 2 ∨ n = 3 ∨ n = 4 ∨ n = 5 ∨ n = 6 := by omega
  rcases this with rfl | rfl | rfl | rfl | rfl | rfl
  · exact made1 many (by omega) pv
  · exact made2 many (by omega) pv
  · exact made3 many (by omega) pv
  · exact made4 many (by omega) pv
  · exact made5 many (by omega) pv
  · exact made6 many (by omega) pv

/-- What lies there in TopCounts: 1 the specs, 7 the calls, 13 picks of its own, 14 the scene. -/
def H4 (n many : Nat) (P : AV) (own : Option AObj) (b : Nat) : Option AObj :=
  if b = 1 then some (.row false specRow 39 none)
  else if b = 7 then (if many = 0 then none else some (.row false (callsOf n many) 42 (some 6)))
  else if b = 13 then own
  else if b = 14 then some (.row false [.int .i64 (n : Nat), .slice 1 0 3 3, clArg n many, P] 26 none) else none
theorem clArg_lt {n many nx : Nat} (h : 7 < nx) : (clArg n many).All (· < nx) := by
  unfold clArg; split
  · trivial
  · exact h
theorem H4_ids {n many : Nat} {P : AV} {own : Option AObj} (hP : P.All (· < 96)) (ho : ∀ o, own = some o → o.All (· < 96)) : ∀ c o, H4 n many P own c = some o → c < 96 ∧ o.All (· < 96) := fun c o h => by
  unfold H4 at h
  split at h
  · cases h; exact ⟨by omega, by simp [specRow, AObj.All, AllL, AV.All]⟩
  split at h
  · split at h
    · cases h
    · cases h; exact ⟨by omega, calls_all n many⟩
  split at h
  · exact ⟨by omega, ho o h⟩
  split at h
  · cases h; exact ⟨by omega, trivial, by show 1 < 96; omega, clArg_lt (by omega), hP, trivial⟩
  · cases h

theorem made_fit {n many : Nat} {x : Ex} {env : Env} {s : St} {pv : Value} {φ : Phi} {w : World} (hm : madeOk (made n many (.ok (x, env) s)) = some (true, True, some (.opq pv), some (.tup [.int .i64 (n : Nat), .int .i64 (many : Nat)]))) (hfit : FitH κ (after (fun _ => none) s) φ w) :
    x = .normal ∧ s.pre ∧ ∃ (q : Nat) (φ' : Phi), env.look 8 = some (.ptr q 0) ∧ env.look 0 = some (.int .i64 (n : Nat)) ∧ env.look 7 = some (.int .i64 (many : Nat)) ∧ φ' 14 = φ q ∧ FitH κ (H4 n many (.opq pv) none) φ' w := by
  unfold made at hm
  split at hm
  case h_2 => cases hm
  rename_i env' s' he
  cases he
  split at hm
  case h_2 => cases hm
  rename_i q hq
  split at hm
  case h_2 => cases hm
  rename_i sy a p cl pv' t hg
  simp only [madeOk, Option.some.injEq, Prod.mk.injEq] at hm
  obtain ⟨h1, h2, h3, h4⟩ := hm
  subst h3
  refine ⟨rfl, by rw [h2]; exact True.intro, q, ?_⟩
  have nb : ∀ {x y : Nat}, Nat.beq x y = true → x = y := fun h => Nat.eq_of_beq_eq_true h
  simp only [Bool.and_eq_true, decide_eq_true_eq] at h1
  obtain ⟨⟨⟨⟨⟨⟨⟨e1, e2⟩, e3⟩, e4⟩, e5⟩, e6⟩, e7⟩, e8⟩ := h1
  generalize hl : (if many = 0 then [(1, p), (14, q)] else [(1, p), (14, q), (7, follow s q 2)] : List (Nat × Nat)) = l at e3 e4 e5 e8
  let φ' : Phi := fun i => if quiet i = true then φ (rl l i) else ⟨(φ (rl l i)).blk, 0⟩
  have hren : Ren (rl l) φ φ' := ⟨fun i hi => by show (if quiet i = true then _ else _) = _; rw [if_pos hi], fun i hi => by show (if quiet i = true then _ else _) = _; rw [if_neg (by rw [hi]; simp)]⟩
  have hblk : ∀ i, (φ' i).blk = (φ (rl l i)).blk := fun i => by
    show (if quiet i = true then _ else _ : Slot).blk = _
    split <;> rfl
  have r1 : rl l 1 = p := by rw [← hl]; split <;> rfl
  have r14 : rl l 14 = q := by rw [← hl]; split <;> rfl
  have hafp : after (fun _ => none) s p = s.get p := by unfold after; rw [if_pos e6]
  have hafq : after (fun _ => none) s q = s.get q := by unfold after; rw [if_pos e7]
  have key : ∀ b o', H4 n many (.opq pv) none b = some o' → b < 96 ∧ Holds φ' b o' w ∧ ∃ o, after (fun _ => none) s (rl l b) = some o := by
    intro b o' hb
    refine ⟨(H4_ids (P := .opq pv) (own := none) trivial (fun o h => (by cases h)) b o' hb).1, ?_⟩
    unfold H4 at hb
    split at hb
    · rename_i e; subst e; cases hb
      have hsome : ∃ o, s.get p = some o := by
        cases hg : s.get p with
        | none => rw [hg] at e5; simp [eqO] at e5
        | some o => exact ⟨o, rfl⟩
      obtain ⟨o, ho⟩ := hsome
      refine ⟨eqO_ok hren e5 fun o2 ho2 => ?_, o, by rw [r1, hafp, ho]⟩
      rw [r1]
      exact hfit.holds p o2 (hafp.trans ho2)
    split at hb
    · rename_i e; subst e
      split at hb
      · cases hb
      · rename_i hmany
        cases hb
        have h0 : Nat.beq many 0 = false := by
          cases hh : Nat.beq many 0 with
          | true => exact absurd (nb hh) hmany
          | false => rfl
        rw [h0, Bool.false_or, Bool.and_eq_true] at e8
        have r7 : rl l 7 = follow s q 2 := by rw [← hl, if_neg hmany]; rfl
        have hafc : after (fun _ => none) s (follow s q 2) = s.get (follow s q 2) := by unfold after; rw [if_pos e8.1]
        have hsome : ∃ o, s.get (follow s q 2) = some o := by
          cases hg : s.get (follow s q 2) with
          | none => rw [hg] at e8; simp [eqO] at e8
          | some o => exact ⟨o, rfl⟩
        obtain ⟨o, ho⟩ := hsome
        refine ⟨eqO_ok hren e8.2 fun o2 ho2 => ?_, o, by rw [r7, hafc, ho]⟩
        rw [r7]
        exact hfit.holds _ o2 (hafc.trans ho2)
    split at hb
    · cases hb
    split at hb
    · rename_i _ _ _ e; subst e; cases hb
      refine ⟨?_, _, by rw [r14, hafq, hg]⟩
      have := hfit.holds q _ (hafq.trans hg)
      refine this.same (by rw [hren.same 14 rfl, r14]) ⟨?_, (nb e2).symm ▸ rfl, rfl⟩
      have e9 : conc φ (.slice p 0 3 3) = conc φ' (.slice 1 0 3 3) := by
        simp only [conc]; rw [hren.same 1 rfl, r1]
      simp only [concL]
      rw [e1, e9, eqA_ok hren e4]
      rfl
    · cases hb
  refine ⟨φ', hq, (both_ok h4).1, (both_ok h4).2, by rw [hren.same 14 rfl, r14], fun b o' hb => (key b o' hb).2.1, fun b d x y hbx hdy he => ?_, fun b o' hb => ?_, hfit.old, hfit.size, hfit.env⟩
  · obtain ⟨b1, _, o1, g1⟩ := key b x hbx
    obtain ⟨d1, _, o2, g2⟩ := key d y hdy
    rw [hblk, hblk] at he
    exact rl_inj e3 b1 d1 (hfit.inj _ _ _ _ g1 g2 he)
  · obtain ⟨_, _, o, ho⟩ := key b o' hb
    rw [hblk]; exact hfit.base _ o ho
end Ct
end Go.Proofs.YtpkfimijnkkbjaaGreat

namespace Go.Proofs.YtpkfimijnkkbjaaGreat
open Go.RowKit

theorem below_of_grown {w w' : World} {B : Nat} {E : TypeId} {size n : Nat} {v : Value} {xs : List Value} (hown : w.ownsRow B E size v n xs) (hg : w.grownBy w' v.ownBlock) (hB : B ≤ w.heap.size) : Below B w w' :=
  (Below.refl B w).grown hg hB (fun k hk => (hown.lt k hk).1)

theorem own_drewN {w : World} {B : Nat} {E : TypeId} {size n : Nat} {v : Value} {xs : List Value} (h : w.ownsRow B E size v n xs) (m : Nat) : (w.drewN m).ownsRow B E size v n xs := h

theorem wpList_app1 {P : Program} {ops : Array Oper} {rest : List Oper} {o : Oper} {a : Act} {Q : Exit → Act → World → Prop} {w : World} (hgd : o.guard = none) (s x : Operand) (T : TypeId)
    (ho : o.op = .call { callee := .builtin .append, args := #[s, x], argTypes := #[T, T] }) (B : Nat) (E : TypeId) (z : Value) (bytes : Nat) (hT : P.underlying T = some (.slice E))
    (hE : (P.info? E).map (fun i => (i.zero, i.size, i.bytes)) = some (some z, 1, bytes)) (hz : z.cells.size = 1)
    (v : Value) (n : Nat) (xs : List Value) (y : Value) (g : Nat) (hs : a.eval s = v) (hown : w.ownsRow B E 1 v n xs) (hx : a.eval x = .slice (some ⟨g, 0, none⟩) 1 1)
    (hg : w.cell? ⟨g, 0, none⟩ = some y) (hy : y.oneCell' = true) (hn : n + 1 ≤ maxLen) (hb : (n + 1) * bytes ≤ 140737488355328) (hB : B ≤ w.heap.size)
    (h : ∀ v' w', w'.ownsRow B E 1 v' (n + 1) (xs ++ [y]) → w.grownBy w' v.ownBlock → Below B w w' → wpList P ops Q rest (a.put o.dst v') w') : wpList P ops Q (o :: rest) a w := by
  obtain ⟨i0, hi, hz0, hz1, hz2⟩ := info_parts hE
  refine wpList_append_own w hgd s x T ho B E i0 z 1 bytes hT hi hz0 hz1 hz2 hz (by decide) v n xs hs hown ⟨g, 0, none⟩ 1 1 [y] hx rfl ?_ (by intro u hu; simp at hu; subst hu; exact hy) hn hb hB ?_
  · intro j u hj
    match j, hj with
    | 0, hj => simp at hj; subst hj; simpa [Addr.add] using hg
  · intro v' w' h1 h2 _
    exact h v' w' h1 h2 (below_of_grown hown h2 hB)

end Go.Proofs.YtpkfimijnkkbjaaGreat

namespace Go.Proofs.YtpkfimijnkkbjaaGreat
open Go.RowKit

/-- The slice at a reads as these values, one cell each. -/
def IsVals (w : World) (a : Option Addr) (vs : List Value) : Prop :=
  vs = [] ∨ ∃ b off, a = some ⟨b, off, none⟩ ∧ ∀ i, i < vs.length → w.cell? ⟨b, off + i, none⟩ = vs[i]?

theorem wpList_appN {P : Program} {ops : Array Oper} {rest : List Oper} {o : Oper} {a : Act} {Q : Exit → Act → World → Prop} {w : World} (hgd : o.guard = none) (s x : Operand) (T : TypeId)
    (ho : o.op = .call { callee := .builtin .append, args := #[s, x], argTypes := #[T, T] }) (B : Nat) (E : TypeId) (z : Value) (bytes : Nat) (hT : P.underlying T = some (.slice E))
    (hE : (P.info? E).map (fun i => (i.zero, i.size, i.bytes)) = some (some z, 1, bytes)) (hz : z.cells.size = 1)
    (v : Value) (n : Nat) (xs : List Value) (ys : List Value) (src : Option Addr) (m c : Nat) (hm : m = ys.length) (hs : a.eval s = v) (hown : w.ownsRow B E 1 v n xs) (hx : a.eval x = .slice src m c)
    (hnil : src = none → ys = [] ∧ c = 0) (hsrc : IsVals w src ys) (hy : ∀ u ∈ ys, u.oneCell' = true) (hn : n + m ≤ maxLen) (hb : (n + m) * bytes ≤ 140737488355328) (hB : B ≤ w.heap.size)
    (h : ∀ v' w', w'.ownsRow B E 1 v' (n + m) (xs ++ ys) → w.grownBy w' v.ownBlock → Below B w w' → wpList P ops Q rest (a.put o.dst v') w') : wpList P ops Q (o :: rest) a w := by
  subst hm
  obtain ⟨i0, hi, hz0, hz1, hz2⟩ := info_parts hE
  cases src with
  | none =>
    obtain ⟨rfl, rfl⟩ := hnil rfl
    refine wpList_append_own_none hgd s x T ho B E i0 1 hT hi v n xs hs hown hx ?_
    refine h v w (by simpa using hown) ⟨rfl, rfl, rfl, Nat.le_refl _, fun _ _ _ => rfl⟩ (Below.refl _ _)
  | some ad =>
    refine wpList_append_own w hgd s x T ho B E i0 z 1 bytes hT hi hz0 hz1 hz2 hz (by decide) v n xs hs hown ad ys.length c ys hx (by simp) ?_ hy hn hb hB ?_
    · intro j u hj
      have hjl : j < ys.length := by
        by_cases hc : j < ys.length
        · exact hc
        · rw [List.getElem?_eq_none (by omega)] at hj; cases hj
      rcases hsrc with rfl | ⟨b, off, hab, hc⟩
      · simp at hjl
      · simp only [Option.some.injEq] at hab
        subst hab
        rw [addr_add, hc j hjl, hj]
    · intro v' w' h1 h2 _
      exact h v' w' h1 h2 (below_of_grown hown h2 hB)

end Go.Proofs.YtpkfimijnkkbjaaGreat

namespace Go.Proofs.YtpkfimijnkkbjaaGreat
open Go.RowKit

theorem info3 : (Tryz.prog.info? 3).map (fun i => (i.zero, i.size, i.bytes)) = some (some (.int .i64 0), 1, 8) := by kernel_rfl
theorem oneCell_ints (zs : List Int) : ∀ u ∈ zs.map (Value.int .i64), u.oneCell' = true := fun u hu => by
  obtain ⟨x, _, rfl⟩ := List.mem_map.1 hu; rfl
theorem vals_ints {w : World} {a : Option Addr} {zs : List Int} (h : IsInts .i64 w a zs) : IsVals w a (zs.map (Value.int .i64)) := by
  rcases h with rfl | ⟨b, off, rfl, hc⟩
  · exact .inl rfl
  · refine .inr ⟨b, off, rfl, fun i hi => ?_⟩
    rw [List.length_map] at hi
    rw [List.getElem?_map, getElem?_nth zs i hi]
    exact hc i hi

set_option maxHeartbeats 1000000 in
theorem with_any (a : Option Addr) (cap : Nat) (zs : List Int) (t : Int) (more : Nat) (w : World) (hs : IsInts .i64 w a zs) (han : a = none → zs = [] ∧ cap = 0) (hlen : zs.length ≤ 60000) (hm : more ≤ 2000) :
    Calls Tryz.prog 11 #[.slice a zs.length cap, .int .i64 t, .int .i64 more] w fun e w' => ∃ v, e = .returned v ∧ w'.ownsRow w.heap.size 3 1 v (zs.length + more) ((zs ++ List.replicate more t).map (Value.int .i64)) ∧ Below w.heap.size w w' := by
  have HS := Lib.hid hs; clear hs
  have HAN := Lib.hid (fun h => ⟨by rw [(han h).1]; rfl, (han h).2⟩ : a = none → zs.map (Value.int .i64) = [] ∧ cap = 0); clear han
  have HO := Lib.hid (World.ownsRow_made (e := 3) (size := 1) w #[] 0 (Nat.le_refl w.heap.size) (by decide) rfl)
  go_enter Tryz.func11, Tryz.ntmps11
  go_wp2_with (at_builtin; refine wpList_appN rfl (.tmp 8) (.tmp 9) 24 rfl w.heap.size 3 _ 8 Tryz.underlying24 info3 rfl _ 0 [] (zs.map (Value.int .i64)) a zs.length cap (by simp) rfl HO.out rfl HAN.out (vals_ints (HS.out.ext ((Ext.refl w).alloc _))) (oneCell_ints zs) ?_ ?_ ?_ ?_)
  case refine_1 => unfold maxLen; omega
  case refine_2 => omega
  case refine_3 => simp
  intro v1 w1 ho1 hg1 hb1
  have HO1 := Lib.hid ho1; clear ho1
  have HB1 := Lib.hid (((Below.refl _ _).alloc (Nat.le_refl _) _).trans hb1 : Below w.heap.size w w1); clear hb1 hg1
  go_wp2
  go_loopw [7, 12] (fun v k wr => ∃ (j : Nat), j ≤ more ∧ k = .int .i64 j ∧ wr.ownsRow w.heap.size 3 1 v (zs.length + j) ((zs ++ List.replicate j t).map (Value.int .i64)) ∧ Below w.heap.size w wr) (fun _ k _ => more - (intOf k).toNat)
  case atStart => exact ⟨0, Nat.zero_le _, rfl, by simpa using HO1.out, HB1.out⟩
  case round =>
    obtain ⟨j, hj, rfl, hown, hbel⟩ := hrel
    by_cases hlt : j < more
    · have HB := Lib.hid hbel; clear hbel
      have HO2 := Lib.hid hown; clear hown
      go_wp2_with (at_builtin; refine wpList_app1 rfl (.tmp 14) (.tmp 16) 24 rfl w.heap.size 3 _ 8 Tryz.underlying24 info3 rfl _ _ _ (.int .i64 t) _ rfl (HO2.out.alloc _) rfl ?c1 rfl ?c2 ?c3 ?c4 ?_)
      case c1 => rw [World.cell?_alloc_at _ _ _ _ rfl]; rfl
      case c2 => unfold maxLen; omega
      case c3 => omega
      case c4 => have := HB.out.size; simp; omega
      intro v' w2 ho hg hb
      have HO' := Lib.hid ho; clear ho
      have HB' := Lib.hid ((HB.out.alloc HB.out.size _).trans hb); clear hb hg
      go_wp2
      go_roundw
      case rel =>
        refine ⟨j + 1, by omega, by go_num, ?_, HB'.out⟩
        have := HO'.out
        rw [List.replicate_succ', ← List.append_assoc, List.map_append]
        simp only [List.map_append, List.map_replicate, List.map_cons, List.map_nil, List.append_assoc] at this ⊢
        exact this
      case measure => simp [intOf]; omega
    · go_wp2
      go_ret
      have hj' : j = more := by omega
      subst hj'
      exact ⟨_, rfl, hown, hbel⟩
end Go.Proofs.YtpkfimijnkkbjaaGreat

namespace Go.Proofs.YtpkfimijnkkbjaaGreat
namespace Ct
open Ev

variable {κ : Keep}

/-- The pieces of TopCounts from its second loop on. -/
def D4 (c : Code) : Code := dropC 1 (dropC 2 c)
def E4 (n many i : Nat) : Env := [(0, .sint .i64 n), (7, .sint .i64 many), (8, .ptr 14 0), (60, .sint .i64 n), (61, .sint .i64 i)]
def V4 (n many : Nat) (i : Int) : List (Option AV) := [some (.sint .i64 n), some (.sint .i64 many), some (.ptr 14 0), some (.sint .i64 n), some (.sint .i64 i)]
theorem u4_start (n many : Nat) : viewC [0, 7, 8, 60, 61] [] (evCode Tryz.prog (evFn Tryz.prog liveSum 60) 170 100000 (takeC 0 (takeC 0 (D4 (Tryz.f4.body.getD .skip)))) [(0, .sint .i64 n), (7, .sint .i64 many), (8, .ptr 14 0)] ⟨mk [], 96, 0, 0, True, []⟩) =
    some (.normal, [some (.sint .i64 n), some (.sint .i64 many), some (.ptr 14 0), some (.sint .i64 n), some (.int .i64 0)], True, 96, [], []) := by kernel_rfl
theorem u4_test (n many i : Nat) : viewC [0, 7, 8, 60, 61] [] (evCode Tryz.prog (evFn Tryz.prog liveSum 60) 170 100000 (takeC 1 (bodyC (takeC 0 (D4 (Tryz.f4.body.getD .skip))))) (E4 n many i) ⟨mk [], 96, 0, 0, True, [.br true]⟩) =
    some (.normal, V4 n many i, True ∧ cmpI .lss i n = true, 96, [], []) := by kernel_rfl
theorem u4_out (n many i : Nat) : viewC [0, 7, 8, 60, 61] [] (evCode Tryz.prog (evFn Tryz.prog liveSum 60) 170 100000 (bodyC (takeC 0 (D4 (Tryz.f4.body.getD .skip)))) (E4 n many i) ⟨mk [], 96, 0, 0, True, [.br false]⟩) =
    some (.exit 4, V4 n many i, True ∧ cmpI .lss i n = false, 96, [], []) := by kernel_rfl
theorem u4_ten (n many i : Nat) : viewC [0, 7, 8, 60, 61, 10] [] (evCode Tryz.prog (evFn Tryz.prog liveSum 60) 170 100000 (takeC 0 (lpB (takeC 0 (dropC 1 (bodyC (takeC 0 (D4 (Tryz.f4.body.getD .skip)))))))) (E4 n many i) ⟨mk [], 96, 0, 0, True, []⟩) =
    some (.normal, V4 n many i ++ [some (.sint .i64 i)], True, 96, [], []) := by kernel_rfl
theorem u4_next (n many i : Nat) : viewC [0, 7, 8, 60, 61] [] (evCode Tryz.prog (evFn Tryz.prog liveSum 60) 170 100000 (dropC 0 (dropC 1 (bodyC (takeC 0 (D4 (Tryz.f4.body.getD .skip)))))) (E4 n many i) ⟨mk [], 96, 0, 0, True, []⟩) =
    some (.normal, V4 n many (IntKind.i64.wrap (i + 1)), True ∧ true = true, 96, [], []) := by kernel_rfl
/-- The region that calls 'with'. -/
def R4 (c : Code) : Code := dropC 0 (lpB (takeC 0 (dropC 1 (bodyC (takeC 0 (D4 c))))))
theorem r4_is : R4 (Tryz.f4.body.getD .skip) = .region 16 (opsA (R4 (Tryz.f4.body.getD .skip))) false := by kernel_rfl
theorem r4_size : (opsA (R4 (Tryz.f4.body.getD .skip))).size = 8 := by kernel_rfl
theorem r4_op : ∃ r, (opsA (R4 (Tryz.f4.body.getD .skip)))[5]? = some r ∧ r.op = .call { callee := .value (.func 11), args := #[.tmp 65, .tmp 66, .tmp 68], argTypes := #[24, 3, 3] } ∧ r.guard = none ∧ r.dst = some 69 := ⟨((opsA (R4 (Tryz.f4.body.getD .skip)))[5]?).getD default, by kernel_rfl, by kernel_rfl, by kernel_rfl, by kernel_rfl⟩
theorem f11_is : ∃ fn, Tryz.prog.funcs[11]? = some fn ∧ fn.body.isSome = true := ⟨_, Tryz.func11, by kernel_rfl⟩
theorem u4_pre (n many i : Nat) (cl : AV) (pv : Value) : viewO [0, 7, 8, 60, 61, 65, 66, 68] [] (evText Tryz.prog (evFn Tryz.prog liveSum 60) 170 (opsA (R4 (Tryz.f4.body.getD .skip))) ((opsA (R4 (Tryz.f4.body.getD .skip))).toList.take 5) ((10, .sint .i64 i) :: E4 n many i) ⟨mk [(14, .row false [.int .i64 n, .slice 1 0 3 3, cl, .opq pv] 26 none)], 96, 0, 0, True, []⟩) =
    some (V4 n many i ++ [some (.opq pv), some (.sint .i64 i), some (.sint .i64 (IntKind.i64.wrap (300 * (many : Int))))], True ∧ true = true, 96, [], []) := by kernel_rfl
theorem u4_post (n many i : Nat) (cl : AV) (pv v : Value) : viewO [0, 7, 8, 60, 61] [14] (evText Tryz.prog (evFn Tryz.prog liveSum 60) 170 (opsA (R4 (Tryz.f4.body.getD .skip))) ((opsA (R4 (Tryz.f4.body.getD .skip))).toList.drop 6) ((69, .opq v) :: E4 n many i) ⟨mk [(14, .row false [.int .i64 n, .slice 1 0 3 3, cl, .opq pv] 26 none)], 96, 0, 0, True, []⟩) =
    some (V4 n many i, True, 96, [14], [some (.row false [.int .i64 n, .slice 1 0 3 3, cl, .opq v] 26 none)]) := by kernel_rfl
end Ct
end Go.Proofs.YtpkfimijnkkbjaaGreat

namespace Go.Proofs.YtpkfimijnkkbjaaGreat
namespace Ct
open Ev
theorem way_idleA (th : Int) (cl turn : AV) (m : Nat → AV) (ats : Nat → AV) (evs : AV) (wd : AV) (cn : Nat → AV) (idle : Int) (left : Int) (lmap : List (Int × AV)) :
    view [0] (evFn Tryz.prog noSums 60 22 [.ptr 0 0, .sint .i64 th] ⟨mk [(0, .row false (PL' cl turn m ats evs wd cn idle) 83 none), (4, .row false [.mapv 5, .sint .i64 left] 113 none), (5, .map true lmap)], 96, 0, 0, True, [.val []]⟩) =
    some (.bool false, (True ∧ findM th lmap = none) ∧ true = true, 96, [0], [some (.row false (PL' cl turn m ats evs wd cn (IntKind.i64.wrap (idle + 1))) 83 none)]) := by kernel_rfl
theorem way_idleB (th : Int) (cl turn : AV) (m : Nat → AV) (ats : Nat → AV) (evs : AV) (wd : AV) (cn : Nat → AV) (idle : Int) (left : Int) (lmap : List (Int × AV)) (b lk lj lt : Nat) :
    view [0] (evFn Tryz.prog noSums 60 22 [.ptr 0 0, .sint .i64 th] ⟨mk [(0, .row false (PL' cl turn m ats evs wd cn idle) 83 none), (4, .row false [.mapv 5, .sint .i64 left] 113 none), (5, .map true lmap)], 96, 0, 0, True, [.val [.soslice b 1 lk lj 0 lt], .br true]⟩) =
    some (.bool false, ((True ∧ findM th lmap = some (.soslice b 1 lk lj 0 lt)) ∧ true = true) ∧ true = true, 96, [0], [some (.row false (PL' cl turn m ats evs wd cn (IntKind.i64.wrap (idle + 1))) 83 none)]) := by kernel_rfl
end Ct
end Go.Proofs.YtpkfimijnkkbjaaGreat
