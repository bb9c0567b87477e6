/-
  plan.Read: the script whose plan a text is; or where it gives up.
  The law's four lines.
  The law's ref: a script, for the reference.
  The reference's numbers.
-/
import Derived.Test.YtcfbcffmlinlaaaDoorJ11
import Derived.Test.YtcfbcffmlinlaaaDoorJ08
import Derived.Test.YtcfbcffmlinlaaaDoorJ05
import Derived.Test.YtcfbcffmlinlaaaDoorJ06
import Derived.Laws.BytesArg
import Derived.Outline
set_option linter.unusedVariables false
namespace Go.Proofs.YtcfbcffmlinlaaaDoor
open Go.RowKit

theorem Rok.start : Rok Pl.st0 := ⟨fun h => absurd h (by decide), by decide, by decide, by decide, by decide⟩
theorem Rok.take {r : Pl.St} (h : Rok r) (w : List UInt8) (l : List Int) : Rok (Pl.takeL r w l).2 := by
  unfold Pl.takeL
  split
  · split
    · rename_i h1 h2
      exact ⟨fun _ => h2, by show (0 : Int) ≤ 1 ∧ (1 : Int) ≤ 3; decide, h.specs, h.calls, h.picks⟩
    · exact h
  split
  · rename_i h1
    split
    · exact h
    · split
      · exact h
      · refine ⟨fun _ => h.n (by omega), by show (0 : Int) ≤ 1 ∧ (1 : Int) ≤ 3; decide, by simp; omega, h.calls, h.picks⟩
  split
  · rename_i h1
    split
    · exact h
    · split
      · exact h
      · refine ⟨fun _ => h.n (by omega), by show (0 : Int) ≤ 2 ∧ (2 : Int) ≤ 3; decide, h.specs, by simp; omega, h.picks⟩
  split
  · rename_i h1
    split
    · exact h
    · split
      · exact h
      · refine ⟨fun _ => h.n h1.2.1, by show (0 : Int) ≤ 3 ∧ (3 : Int) ≤ 3; decide, h.specs, h.calls, by simp; omega⟩
  · exact h
theorem Rok.step {r : Pl.St} (h : Rok r) (t : List UInt8) : Rok (Pl.stepL r t).2 := by
  unfold Pl.stepL
  split
  · exact h
  · split
    · exact h
    · exact h.take _ _

theorem bb_below {B R : Nat} {w w' : World} (h : BB B R w w') {N : Nat} (hB : N ≤ B) (hR : N ≤ R) : Below N w w' :=
  ⟨h.1, h.2.1, h.2.2.1, h.2.2.2.1, fun k hk => h.2.2.2.2 k (by omega) (by omega)⟩

/-- What plan.Read answers. -/
def RdPost (x : Int × Int × Pl.St) (w : World) (e : Ending) (w' : World) : Prop :=
  Ext w w' ∧ ((x.1 ≠ 0 ∧ x.2.1 ≠ 0 ∧ e = .returned (.tuple #[.agg #[.int .i64 0, .slice none 0 0, .slice none 0 0, .slice none 0 0], .int .i64 x.1, .int .i64 x.2.1])) ∨
    (x.1 = 0 ∧ x.2.1 = 0 ∧ ∃ m : Lies, e = .returned (.tuple #[.agg #[.int .i64 x.2.2.s.n, .slice m.sa x.2.2.s.specs.length m.sc, .slice m.ca x.2.2.s.calls.length m.cc, .slice m.pa x.2.2.s.picks.length m.pc], .int .i64 0, .int .i64 0]) ∧ LiesAt x.2.2.s m w' ∧ x.2.2.s.picks.length ≤ m.pc))

/-- All that lies in memory while plan.Read reads: w is the world in which it began. -/
structure Sta (w wr : World) (r : Pl.St) (line : Int) : Prop where
  rd : IsRd wr (w.heap.size + 1 + 1 + 1 + 1 + 1) (w.heap.size + 1 + 1 + 1) r line
  q : Blk wr (w.heap.size + 1 + 1 + 1 + 1) #[.pointer (some ⟨w.heap.size + 1 + 1 + 1, 0, none⟩)] 63
  s : Blk wr w.heap.size #[.int .i64 0, .slice none 0 0, .slice none 0 0, .slice none 0 0] 26
  a : Blk wr (w.heap.size + 1) #[.int .i64 0] 3
  e : Blk wr (w.heap.size + 1 + 1) #[.int .i64 0] 28
  x : Ext w wr
  m : MaxAt wr

theorem Sta.size {w wr : World} {r : Pl.St} {line : Int} (h : Sta w wr r line) : w.heap.size + 1 + 1 + 1 + 1 + 1 ≤ wr.heap.size := h.q.lt
theorem Sta.bb {w wr w' : World} {r r' : Pl.St} {line line' : Int} (h : Sta w wr r line) (k : BB (w.heap.size + 1 + 1 + 1 + 1 + 1) (w.heap.size + 1 + 1 + 1) wr w') (hr : IsRd w' (w.heap.size + 1 + 1 + 1 + 1 + 1) (w.heap.size + 1 + 1 + 1) r' line') : Sta w w' r' line' := by
  have hb := fun i hi hne => k.2.2.2.2 i hi hne
  refine ⟨hr, (hb _ (by omega) (by omega)).trans h.q, (hb _ (by omega) (by omega)).trans h.s, (hb _ (by omega) (by omega)).trans h.a, (hb _ (by omega) (by omega)).trans h.e, Below.trans h.x (bb_below k (by omega) (by omega)), ?_⟩
  obtain ⟨m, hm⟩ := h.m
  exact ⟨m, (World.cell?_of_block (hb 0 (by omega) (by omega))).trans hm⟩
theorem Sta.ext {w wr w' : World} {r : Pl.St} {line : Int} (h : Sta w wr r line) (k : Ext wr w') : Sta w w' r line := h.bb (BB.ext k h.size) (h.rd.ext k)

theorem pl_results {w : World} {S A E : Nat} {v0 v1 v2 v3 x y : Value} (tmps : Array Value) (h2 : tmps[2]?.getD undef = .pointer (some ⟨S, 0, none⟩)) (h3 : tmps[3]?.getD undef = .pointer (some ⟨A, 0, none⟩)) (h4 : tmps[4]?.getD undef = .pointer (some ⟨E, 0, none⟩))
    (hS : Blk w S #[v0, v1, v2, v3] 26) (hA : Blk w A #[x] 3) (hE : Blk w E #[y] 28) :
    (results Tryd.f11 tmps).run Tryd.prog w = .ok (.tuple #[.agg #[v0, v1, v2, v3], x, y]) w := by
  have s0 := hS.cell 0 (v := v0) rfl
  have s1 := hS.cell 1 (v := v1) rfl
  have s2 := hS.cell 2 (v := v2) rfl
  have s3 := hS.cell 3 (v := v3) rfl
  have a0 := hA.cell 0 (v := x) rfl
  have e0 := hE.cell 0 (v := y) rfl
  simp [results, Tryd.results11, go_sem, h2, h3, h4, s0, s1, s2, s3, a0, e0]

theorem pl_bad (x : Int × Int × Pl.St) (w W : World) (tmps : Array Value) (r : Pl.St) (line e : Int) (h2 : tmps[2]?.getD undef = .pointer (some ⟨w.heap.size, 0, none⟩)) (h3 : tmps[3]?.getD undef = .pointer (some ⟨w.heap.size + 1, 0, none⟩)) (h4 : tmps[4]?.getD undef = .pointer (some ⟨w.heap.size + 1 + 1, 0, none⟩))
    (h : Sta w W r line) (hx1 : x.1 = line) (hx2 : x.2.1 = e) (hl : line ≠ 0) (he : e ≠ 0) :
    Leaves Tryd.prog Tryd.f11 tmps (RdPost x w) [{ target := .fn (.func 21) #[.pointer (some ⟨w.heap.size + 1 + 1 + 1 + 1, 0, none⟩), .pointer (some ⟨w.heap.size, 0, none⟩), .pointer (some ⟨w.heap.size + 1, 0, none⟩), .pointer (some ⟨w.heap.size + 1 + 1, 0, none⟩)], args := #[] }]
      (.panicking [{ v := .iface 28 (.int .i64 e), recovered := false }]) W := by
  obtain ⟨sa, ca, pa, hr⟩ := h.rd
  refine leaves_cons (f := 21) (args := #[.pointer (some ⟨w.heap.size + 1 + 1 + 1 + 1, 0, none⟩), .pointer (some ⟨w.heap.size, 0, none⟩), .pointer (some ⟨w.heap.size + 1, 0, none⟩), .pointer (some ⟨w.heap.size + 1 + 1, 0, none⟩)]) (by simp) (by simp [go_sem]) ?_
  refine (plclos_caught (w.heap.size + 1 + 1 + 1 + 1) (w.heap.size + 1 + 1 + 1) w.heap.size (w.heap.size + 1) (w.heap.size + 1 + 1) 0 0 line e _ [] W (h.q.cell 0 rfl) (hr.here.cell 4 rfl) h.s ⟨_, _, _, _, rfl⟩ h.a h.e (by omega) (by omega)).mono ?_
  rintro en u' w'' ⟨rfl, rfl, hbel, hS', hA', hE'⟩
  refine ⟨_, pl_results tmps h2 h3 h4 hS' hA' hE', ?_⟩
  exact ⟨Below.trans h.x hbel, .inl ⟨by rw [hx1]; exact hl, by rw [hx2]; exact he, by rw [hx1, hx2]⟩⟩

theorem pl_ok (x : Int × Int × Pl.St) (w W : World) (tmps : Array Value) (m : Lies) (h2 : tmps[2]?.getD undef = .pointer (some ⟨w.heap.size, 0, none⟩)) (h3 : tmps[3]?.getD undef = .pointer (some ⟨w.heap.size + 1, 0, none⟩)) (h4 : tmps[4]?.getD undef = .pointer (some ⟨w.heap.size + 1 + 1, 0, none⟩))
    (hS : Blk W w.heap.size #[.int .i64 x.2.2.s.n, .slice m.sa x.2.2.s.specs.length m.sc, .slice m.ca x.2.2.s.calls.length m.cc, .slice m.pa x.2.2.s.picks.length m.pc] 26) (hA : Blk W (w.heap.size + 1) #[.int .i64 0] 3) (hE : Blk W (w.heap.size + 1 + 1) #[.int .i64 0] 28)
    (hx : Ext w W) (hx1 : x.1 = 0) (hx2 : x.2.1 = 0) (hm : LiesAt x.2.2.s m W) (hc : x.2.2.s.picks.length ≤ m.pc) :
    Leaves Tryd.prog Tryd.f11 tmps (RdPost x w) [{ target := .fn (.func 21) #[.pointer (some ⟨w.heap.size + 1 + 1 + 1 + 1, 0, none⟩), .pointer (some ⟨w.heap.size, 0, none⟩), .pointer (some ⟨w.heap.size + 1, 0, none⟩), .pointer (some ⟨w.heap.size + 1 + 1, 0, none⟩)], args := #[] }] .returning W := by
  refine leaves_cons (f := 21) (args := #[.pointer (some ⟨w.heap.size + 1 + 1 + 1 + 1, 0, none⟩), .pointer (some ⟨w.heap.size, 0, none⟩), .pointer (some ⟨w.heap.size + 1, 0, none⟩), .pointer (some ⟨w.heap.size + 1 + 1, 0, none⟩)]) (by simp) (by simp [go_sem]) ?_
  refine (plclos_idle _ _ _ _ W).mono ?_
  rintro en u' w'' ⟨rfl, rfl, rfl⟩
  exact ⟨_, pl_results tmps h2 h3 h4 hS hA hE, hx, .inr ⟨hx1, hx2, m, rfl, hm, hc⟩⟩

def slen : Value → Nat
  | .string s => s.size
  | _ => 0
def agNat : Value → Nat → Nat
  | .bool true, n => n + 1
  | _, _ => 0

theorem runL_none {f : Nat} {r : Pl.St} {k : Int} {t : List UInt8} (hf : 0 < f) (h : Pl.cutL t = none) : Pl.runL f r k t = (k, 4, r) := by
  obtain ⟨g, rfl⟩ : ∃ g, f = g + 1 := ⟨f - 1, by omega⟩
  rw [Pl.runL_succ, h]
theorem runL_bad {f : Nat} {r : Pl.St} {k : Int} {t a b : List UInt8} (hf : 0 < f) (h : Pl.cutL t = some (a, b)) (hb : (Pl.stepL r a).1 ≠ 0) : Pl.runL f r k t = (k, (Pl.stepL r a).1, r) := by
  obtain ⟨g, rfl⟩ : ∃ g, f = g + 1 := ⟨f - 1, by omega⟩
  rw [Pl.runL_succ, h]; simp only; rw [if_neg hb]
theorem runL_good {f : Nat} {r : Pl.St} {k : Int} {t a b : List UInt8} (hf : 0 < f) (h : Pl.cutL t = some (a, b)) (hb : (Pl.stepL r a).1 = 0) : Pl.runL f r k t = if b = [] then (0, 0, (Pl.stepL r a).2) else Pl.runL (f - 1) (Pl.stepL r a).2 (k + 1) b := by
  obtain ⟨g, rfl⟩ : ∃ g, f = g + 1 := ⟨f - 1, by omega⟩
  rw [Pl.runL_succ, h]; simp only; rw [if_pos hb]; rfl

/-- What is still to be read. -/
def ToGo (x : Int × Int × Pl.St) (ag : Bool) (f : Nat) (r : Pl.St) (line : Int) (t : List UInt8) : Prop :=
  if ag = true then x = Pl.runL f r (line + 1) t ∧ t.length < f else x = (0, 0, r)

set_option maxRecDepth 100000 in
set_option maxHeartbeats 4000000 in
theorem pread_any (t : List UInt8) (w : World) (ht : t.length ≤ 1000000) (hm : MaxAt w) :
    Calls Tryd.prog 11 #[.string (St t)] w (RdPost (Pl.readP t) w) := by
  have hmf : ∀ (fn : Fn) (first cap : Array Value) (w : World), (Instr.makeFunc fn first cap).run Tryd.prog w = .ok (.func fn first cap) w := fun _ _ _ _ => rfl
  have HTG : Hid (ToGo (Pl.readP t) true (t.length + 1) Pl.st0 0 t) := Lib.hid ⟨rfl, Nat.lt_succ_self _⟩
  have HM := Lib.hid hm
  clear hm
  generalize Pl.readP t = X at *
  go_enter_defers Tryd.func11, Tryd.ntmps11
  go_wp2_with fail
  have HST : Hid (Sta w (((((w.alloc (.cells #[Value.int .i64 0, .slice none 0 0, .slice none 0 0, .slice none 0 0] 26)).alloc (.cells #[Value.int .i64 0] 3)).alloc (.cells #[Value.int .i64 0] 28)).alloc (.cells #[Value.int .i64 0, .slice none 0 0, .slice none 0 0, .slice none 0 0, .int .i64 0, .int .i64 0, .bool false] 65)).alloc (.cells #[Value.pointer (some ⟨w.heap.size + 1 + 1 + 1, 0, none⟩)] 63)) Pl.st0 0) := Lib.hid (by
    have hx := (((((Ext.refl w).alloc (.cells #[Value.int .i64 0, .slice none 0 0, .slice none 0 0, .slice none 0 0] 26)).alloc (.cells #[Value.int .i64 0] 3)).alloc (.cells #[Value.int .i64 0] 28)).alloc (.cells #[Value.int .i64 0, .slice none 0 0, .slice none 0 0, .slice none 0 0, .int .i64 0, .int .i64 0, .bool false] 65)).alloc (.cells #[Value.pointer (some ⟨w.heap.size + 1 + 1 + 1, 0, none⟩)] 63)
    refine ⟨⟨.slice none 0 0, .slice none 0 0, .slice none 0 0, ?_, World.ownsRow_nil _ _ _ _, World.ownsRow_nil _ _ _ _, World.ownsRow_nil _ _ _ _⟩, ?_, ?_, ?_, ?_, hx, HM.out.ext hx⟩
    · have := Blk.new (((w.alloc (.cells #[Value.int .i64 0, .slice none 0 0, .slice none 0 0, .slice none 0 0] 26)).alloc (.cells #[Value.int .i64 0] 3)).alloc (.cells #[Value.int .i64 0] 28)) #[Value.int .i64 0, .slice none 0 0, .slice none 0 0, .slice none 0 0, .int .i64 0, .int .i64 0, .bool false] 65
      simp only [World.size_alloc] at this
      exact this.alloc _
    · have := Blk.new ((((w.alloc (.cells #[Value.int .i64 0, .slice none 0 0, .slice none 0 0, .slice none 0 0] 26)).alloc (.cells #[Value.int .i64 0] 3)).alloc (.cells #[Value.int .i64 0] 28)).alloc (.cells #[Value.int .i64 0, .slice none 0 0, .slice none 0 0, .slice none 0 0, .int .i64 0, .int .i64 0, .bool false] 65)) #[Value.pointer (some ⟨w.heap.size + 1 + 1 + 1, 0, none⟩)] 63
      simp only [World.size_alloc] at this
      exact this
    · exact ((((Blk.new w _ _).alloc _).alloc _).alloc _).alloc _
    · have := Blk.new (w.alloc (.cells #[Value.int .i64 0, .slice none 0 0, .slice none 0 0, .slice none 0 0] 26)) #[Value.int .i64 0] 3
      simp only [World.size_alloc] at this
      exact ((this.alloc _).alloc _).alloc _
    · have := Blk.new ((w.alloc (.cells #[Value.int .i64 0, .slice none 0 0, .slice none 0 0, .slice none 0 0] 26)).alloc (.cells #[Value.int .i64 0] 3)) #[Value.int .i64 0] 28
      simp only [World.size_alloc] at this
      exact (this.alloc _).alloc _)
  generalize (((((w.alloc (.cells #[Value.int .i64 0, .slice none 0 0, .slice none 0 0, .slice none 0 0] 26)).alloc (.cells #[Value.int .i64 0] 3)).alloc (.cells #[Value.int .i64 0] 28)).alloc (.cells #[Value.int .i64 0, .slice none 0 0, .slice none 0 0, .slice none 0 0, .int .i64 0, .int .i64 0, .bool false] 65)).alloc (.cells #[Value.pointer (some ⟨w.heap.size + 1 + 1 + 1, 0, none⟩)] 63)) = W0 at *
  clear HM
  go_loopw [0, 6] (fun u v wr => ∃ (tt : List UInt8) (ag : Bool) (f : Nat) (r : Pl.St) (line : Int), u = .string (St tt) ∧ v = .bool ag ∧ tt.length ≤ 1000000 ∧ 0 ≤ line ∧ line + tt.length ≤ 1000000 ∧ Hid (Sta w wr r line) ∧ Hid (Rok r) ∧ Hid (ToGo X ag f r line tt)) (fun u v _ => agNat v (slen u))
  case atStart => exact ⟨t, true, t.length + 1, Pl.st0, 0, rfl, rfl, ht, by omega, by omega, HST, Lib.hid Rok.start, HTG⟩
  case round =>
    clear HST HTG
    obtain ⟨tt, ag, f, r, line, rfl, rfl, htl, hl0, hll, HS, HK, HG⟩ := hrel
    obtain ⟨sa, ca, pa, hrd⟩ := HS.out.rd
    have HRD := Lib.hid hrd
    clear hrd
    have q0 := HS.out.q.cell 0 (v := .pointer (some ⟨w.heap.size + 1 + 1 + 1, 0, none⟩)) rfl
    cases ag with
    | true =>
      have r4 := HRD.out.here.cell 4 (v := .int .i64 line) rfl
      have r5 := HRD.out.here.fz 4
      have r6 := HRD.out.here.lt
      go_upto_region 7 with (fail)
      have HS1 : Hid (Sta w (wr.setCell ⟨w.heap.size + 1 + 1 + 1, 4, none⟩ (.int .i64 (line + 1))) r (line + 1)) := Lib.hid (HS.out.bb (BB.set _ _) ⟨_, _, _, HRD.out.set_line (line + 1)⟩)
      clear HS HRD q0 r4 r5 r6
      generalize wr.setCell ⟨w.heap.size + 1 + 1 + 1, 4, none⟩ (.int .i64 (line + 1)) = W1 at *
      have hcut := cut_any tt W1 htl HS1.out.m
      have HCUT := Lib.hid hcut
      clear hcut
      obtain ⟨hg1, hg2⟩ : X = Pl.runL f r (line + 1) tt ∧ tt.length < f := HG.out
      have HX := Lib.hid hg1
      have hf : 0 < f := by omega
      have HF := Lib.hid hf
      have HG2 := Lib.hid hg2
      clear hg1 hg2 HG hf
      go_wp2_with fail
      refine HCUT.out.mono ?_
      rintro e w2 ⟨rfl, n, rfl⟩
      have HS2 := Lib.hid (HS1.out.ext ((Ext.refl W1).drewN n))
      clear HS1 HCUT
      generalize W1.drewN n = W2 at *
      cases hc : Pl.cutL tt with
      | none =>
        have HXX := Lib.hid (HX.out.trans (runL_none HF.out hc))
        clear hc
        unfold cutV
        go_wp2_with fail
        refine (give_no 4 _).mono ?_
        rintro e w3 ⟨hgv, rfl⟩
        unfold Gave at hgv
        subst hgv
        exact pl_bad X w _ _ r (line + 1) 4 rfl rfl rfl HS2.out (by rw [HXX.out]) (by rw [HXX.out]) (by omega) (by decide)
      | some p =>
        obtain ⟨a, b⟩ := p
        have hlb := Pl.cutL_lt hc
        have hla : a.length ≤ tt.length := by obtain ⟨e1, -⟩ := Pl.cutL_back _ _ _ hc; rw [e1]; simp
        have HC := Lib.hid hc
        clear hc
        unfold cutV
        have hread := read_any W2 _ _ r (line + 1) a HS2.out.rd HK.out HS2.out.size HS2.out.m (by omega)
        have HREAD := Lib.hid hread
        clear hread
        have q0 := HS2.out.q.cell 0 (v := .pointer (some ⟨w.heap.size + 1 + 1 + 1, 0, none⟩)) rfl
        go_wp2_with fail
        refine (give_ok 4 _).mono ?_
        rintro e w3 ⟨rfl, rfl⟩
        go_wp2_with fail
        refine HREAD.out.mono ?_
        rintro e w3 ⟨hb, hr, hz⟩
        have HS3 := Lib.hid (HS2.out.bb hb hr)
        have HK3 := Lib.hid (HK.out.step a)
        clear HREAD hb hr HS2 q0 HK
        rcases hz with ⟨hz, rfl⟩ | ⟨hz, hgv⟩
        · have HXX := Lib.hid (HX.out.trans (runL_good HF.out HC.out hz))
          have HZ := Lib.hid hz
          clear hz HX
          generalize (Pl.stepL r a).2 = r2 at *
          by_cases hbn : b = []
          · subst hbn
            have HX0 : Hid (X = (0, 0, r2)) := Lib.hid (HXX.out.trans (if_pos rfl))
            clear HXX
            go_wp2_with fail
            go_roundw
            case rel => exact ⟨[], false, f - 1, r2, line + 1, rfl, rfl, by simp, by omega, by simp; omega, HS3, HK3, Lib.hid HX0.out⟩
            case measure => simp [agNat, slen]
          · have HBN := Lib.hid hbn
            have hbe : b.isEmpty = false := by cases b with | nil => exact absurd rfl hbn | cons _ _ => rfl
            clear hbn
            go_wp2_with fail
            go_roundw
            case rel => exact ⟨b, true, f - 1, r2, line + 1, rfl, rfl, by omega, by omega, by omega, HS3, HK3, Lib.hid ⟨by rw [HXX.out, if_neg HBN.out], by have := HG2.out; omega⟩⟩
            case measure => simp [agNat, slen, St_size]; omega
        · have HXX := Lib.hid (HX.out.trans (runL_bad HF.out HC.out hz))
          unfold Gave at hgv
          subst hgv
          exact pl_bad X w _ _ _ (line + 1) _ rfl rfl rfl HS3.out (by rw [HXX.out]) (by rw [HXX.out]) (by omega) hz
    | false =>
      have HXX : Hid (X = (0, 0, r)) := Lib.hid HG.out
      clear HG
      obtain ⟨va, vc, rfl, hs1⟩ := own_slice HRD.out.specs
      obtain ⟨ua, uc, rfl, hs2⟩ := own_slice HRD.out.calls
      obtain ⟨qa, qc, rfl, hs3⟩ := own_slice HRD.out.picks
      have r0 := HRD.out.here.cell 0 (v := .int .i64 r.s.n) rfl
      have r1 := HRD.out.here.cell 1 (v := .slice va r.s.specs.length vc) rfl
      have r2 := HRD.out.here.cell 2 (v := .slice ua r.s.calls.length uc) rfl
      have r3 := HRD.out.here.cell 3 (v := .slice qa r.s.picks.length qc) rfl
      have s0 := HS.out.s.cell 0 (v := .int .i64 0) rfl
      have s1 := HS.out.s.cell 1 (v := .slice none 0 0) rfl
      have s2 := HS.out.s.cell 2 (v := .slice none 0 0) rfl
      have s3 := HS.out.s.cell 3 (v := .slice none 0 0) rfl
      have z0 := HS.out.s.fz 0
      have z1 := HS.out.s.fz 1
      have z2 := HS.out.s.fz 2
      have z3 := HS.out.s.fz 3
      have ls := HS.out.s.lt
      have a0 := HS.out.a.cell 0 (v := .int .i64 0) rfl
      have a1 := HS.out.a.fz 0
      have a2 := HS.out.a.lt
      have e0 := HS.out.e.cell 0 (v := .int .i64 0) rfl
      have e1 := HS.out.e.fz 0
      have e2 := HS.out.e.lt
      have HQC := Lib.hid hs3
      clear hs1 hs2 hs3
      go_wp2_with fail
      have hS4 : Blk ((((((wr.setCell ⟨w.heap.size, 0, none⟩ (.int .i64 r.s.n)).setCell ⟨w.heap.size, 1, none⟩ (.slice va r.s.specs.length vc)).setCell ⟨w.heap.size, 2, none⟩ (.slice ua r.s.calls.length uc)).setCell ⟨w.heap.size, 3, none⟩ (.slice qa r.s.picks.length qc)).setCell ⟨w.heap.size + 1, 0, none⟩ (.int .i64 0)).setCell ⟨w.heap.size + 1 + 1, 0, none⟩ (.int .i64 0)) w.heap.size #[.int .i64 r.s.n, .slice va r.s.specs.length vc, .slice ua r.s.calls.length uc, .slice qa r.s.picks.length qc] 26 :=
        (((((HS.out.s.set 0 _).set 1 _).set 2 _).set 3 _).set_ne (by omega) _).set_ne (by omega) _
      have hA4 : Blk ((((((wr.setCell ⟨w.heap.size, 0, none⟩ (.int .i64 r.s.n)).setCell ⟨w.heap.size, 1, none⟩ (.slice va r.s.specs.length vc)).setCell ⟨w.heap.size, 2, none⟩ (.slice ua r.s.calls.length uc)).setCell ⟨w.heap.size, 3, none⟩ (.slice qa r.s.picks.length qc)).setCell ⟨w.heap.size + 1, 0, none⟩ (.int .i64 0)).setCell ⟨w.heap.size + 1 + 1, 0, none⟩ (.int .i64 0)) (w.heap.size + 1) #[.int .i64 0] 3 :=
        (((((HS.out.a.set_ne (by omega) _).set_ne (by omega) _).set_ne (by omega) _).set_ne (by omega) _).set 0 _).set_ne (by omega) _
      have hE4 : Blk ((((((wr.setCell ⟨w.heap.size, 0, none⟩ (.int .i64 r.s.n)).setCell ⟨w.heap.size, 1, none⟩ (.slice va r.s.specs.length vc)).setCell ⟨w.heap.size, 2, none⟩ (.slice ua r.s.calls.length uc)).setCell ⟨w.heap.size, 3, none⟩ (.slice qa r.s.picks.length qc)).setCell ⟨w.heap.size + 1, 0, none⟩ (.int .i64 0)).setCell ⟨w.heap.size + 1 + 1, 0, none⟩ (.int .i64 0)) (w.heap.size + 1 + 1) #[.int .i64 0] 28 :=
        (((((HS.out.e.set_ne (by omega) _).set_ne (by omega) _).set_ne (by omega) _).set_ne (by omega) _).set_ne (by omega) _).set 0 _
      have hx5 : Ext w ((((((wr.setCell ⟨w.heap.size, 0, none⟩ (.int .i64 r.s.n)).setCell ⟨w.heap.size, 1, none⟩ (.slice va r.s.specs.length vc)).setCell ⟨w.heap.size, 2, none⟩ (.slice ua r.s.calls.length uc)).setCell ⟨w.heap.size, 3, none⟩ (.slice qa r.s.picks.length qc)).setCell ⟨w.heap.size + 1, 0, none⟩ (.int .i64 0)).setCell ⟨w.heap.size + 1 + 1, 0, none⟩ (.int .i64 0)) :=
        Below.trans HS.out.x ((((((below_set _ _ (Nat.le_refl _) _).trans (below_set _ _ (Nat.le_refl _) _)).trans (below_set _ _ (Nat.le_refl _) _)).trans (below_set _ _ (Nat.le_refl _) _)).trans (below_set _ _ (by omega) _)).trans (below_set _ _ (by omega) _))
      have o1 : (((((((wr.setCell ⟨w.heap.size, 0, none⟩ (.int .i64 r.s.n)).setCell ⟨w.heap.size, 1, none⟩ (.slice va r.s.specs.length vc)).setCell ⟨w.heap.size, 2, none⟩ (.slice ua r.s.calls.length uc)).setCell ⟨w.heap.size, 3, none⟩ (.slice qa r.s.picks.length qc)).setCell ⟨w.heap.size + 1, 0, none⟩ (.int .i64 0)).setCell ⟨w.heap.size + 1 + 1, 0, none⟩ (.int .i64 0))).ownsRow (w.heap.size + 1 + 1 + 1 + 1 + 1) 59 3 (.slice va r.s.specs.length vc) r.s.specs.length (r.s.specs.flatMap spcCells) := own_set (own_set (own_set (own_set (own_set (own_set (HRD.out.specs) (by omega) _) (by omega) _) (by omega) _) (by omega) _) (by omega) _) (by omega) _
      have o2 : (((((((wr.setCell ⟨w.heap.size, 0, none⟩ (.int .i64 r.s.n)).setCell ⟨w.heap.size, 1, none⟩ (.slice va r.s.specs.length vc)).setCell ⟨w.heap.size, 2, none⟩ (.slice ua r.s.calls.length uc)).setCell ⟨w.heap.size, 3, none⟩ (.slice qa r.s.picks.length qc)).setCell ⟨w.heap.size + 1, 0, none⟩ (.int .i64 0)).setCell ⟨w.heap.size + 1 + 1, 0, none⟩ (.int .i64 0))).ownsRow (w.heap.size + 1 + 1 + 1 + 1 + 1) 49 6 (.slice ua r.s.calls.length uc) r.s.calls.length (r.s.calls.flatMap cllCells) := own_set (own_set (own_set (own_set (own_set (own_set (HRD.out.calls) (by omega) _) (by omega) _) (by omega) _) (by omega) _) (by omega) _) (by omega) _
      have o3 : (((((((wr.setCell ⟨w.heap.size, 0, none⟩ (.int .i64 r.s.n)).setCell ⟨w.heap.size, 1, none⟩ (.slice va r.s.specs.length vc)).setCell ⟨w.heap.size, 2, none⟩ (.slice ua r.s.calls.length uc)).setCell ⟨w.heap.size, 3, none⟩ (.slice qa r.s.picks.length qc)).setCell ⟨w.heap.size + 1, 0, none⟩ (.int .i64 0)).setCell ⟨w.heap.size + 1 + 1, 0, none⟩ (.int .i64 0))).ownsRow (w.heap.size + 1 + 1 + 1 + 1 + 1) 3 1 (.slice qa r.s.picks.length qc) r.s.picks.length (r.s.picks.map (Value.int .i64)) := own_set (own_set (own_set (own_set (own_set (own_set (HRD.out.picks) (by omega) _) (by omega) _) (by omega) _) (by omega) _) (by omega) _) (by omega) _
      generalize ((((((wr.setCell ⟨w.heap.size, 0, none⟩ (.int .i64 r.s.n)).setCell ⟨w.heap.size, 1, none⟩ (.slice va r.s.specs.length vc)).setCell ⟨w.heap.size, 2, none⟩ (.slice ua r.s.calls.length uc)).setCell ⟨w.heap.size, 3, none⟩ (.slice qa r.s.picks.length qc)).setCell ⟨w.heap.size + 1, 0, none⟩ (.int .i64 0)).setCell ⟨w.heap.size + 1 + 1, 0, none⟩ (.int .i64 0)) = W4 at hS4 hA4 hE4 hx5 o1 o2 o3 ⊢
      obtain ⟨a1', c1', g1, -, -, i1, -⟩ := IsSeq.own (d := spc0) spcCells_len (by decide) o1
      obtain ⟨a2', c2', g2, -, -, i2, -⟩ := IsSeq.own (d := cll0) cllCells_len (by decide) o2
      obtain ⟨a3', c3', g3, -, -, i3, -⟩ := IsInts.ownK o3
      simp only [Value.slice.injEq] at g1 g2 g3
      obtain ⟨rfl, -, rfl⟩ := g1
      obtain ⟨rfl, -, rfl⟩ := g2
      obtain ⟨rfl, -, rfl⟩ := g3
      obtain rfl := HXX.out
      exact pl_ok (0, 0, r) w W4 _ ⟨va, vc, ua, uc, qa, qc⟩ rfl rfl rfl hS4 hA4 hE4 hx5 rfl rfl ⟨i1, i2, i3⟩ HQC.out

end Go.Proofs.YtcfbcffmlinlaaaDoor

namespace Go.Proofs.YtcfbcffmlinlaaaDoor
open Go.RowKit

def fourA : List UInt8 := [116, 104, 114, 101, 97, 100, 115, 32, 50, 10, 111, 98, 106, 101, 99, 116, 32, 49, 32, 48, 32, 48, 10, 99, 97, 108, 108, 32, 48, 32, 48, 32, 48, 32, 53, 32, 48, 32, 48, 10, 112, 105, 99, 107, 115, 32, 48, 32, 48, 10]
def fourB : List UInt8 := [116, 104, 114, 101, 97, 100, 115, 32, 50, 10, 112, 105, 99, 107, 115, 32, 48, 32, 48, 49, 10]
def fourS : Scr := ⟨2, [⟨1, 0, 0⟩], [⟨0, 0, 0, 5, 0, 0⟩], [0, 0]⟩
theorem readA : Pl.readP fourA = (0, 0, ⟨fourS, 3, true⟩) := by kernel_rfl
theorem readB : Pl.readP fourB = (2, 5, ⟨⟨2, [], [], []⟩, 1, false⟩) := by kernel_rfl

theorem ok_fits {s : Scr} (h : s.ok) : Fits s := ⟨by have := h.1; omega, by have := h.2.1; omega, by have := h.2.2.1; omega, by have := h.2.2.2.1; omega⟩

set_option maxRecDepth 100000 in
set_option maxHeartbeats 4000000 in
theorem four_any (w : World) (hm : MaxAt w) : Calls Tryd.prog 7 #[] w fun e w' => e = .returned (.bool true) ∧ Ext w w' := by
  have HM := Lib.hid hm
  have H1 := Lib.hid (pread_any fourA w (by decide) hm)
  clear hm
  go_enter Tryd.func7, Tryd.ntmps7
  go_wp2_with fail
  refine H1.out.mono ?_
  rw [readA]
  obtain ⟨-, hpl, hok, hwd⟩ := Pl.read_back readA
  have hf := ok_fits hok
  have he := (errF_zero _).2 hok
  have HPL := Lib.hid hpl
  have HOK := Lib.hid he
  clear hpl hok he
  rintro e w1 ⟨hx, ⟨h0, -⟩ | ⟨-, -, m, rfl, hla, hcap⟩⟩
  · exact absurd rfl h0
  have HX1 := Lib.hid hx
  clear hx
  obtain ⟨b2, off2, e2, -, -, -, u3, -, -⟩ := IsCalls.at (i := 0) hla.calls (by decide)
  have HLA := Lib.hid hla
  have HWD := Lib.hid hwd
  have HF := Lib.hid hf
  have HC := Lib.hid hcap
  obtain ⟨sa, sc, ca, cc, pa, pc⟩ := m
  simp only at e2
  subst e2
  have HU : Hid (w1.cell? ⟨b2, off2 + 3, none⟩ = some (.int .u64 5)) := Lib.hid (by simpa [show (nthD cll0 fourS.calls 0).a = 5 from rfl] using u3)
  clear hla hwd hf hcap u3
  simp only [show fourS.n = 2 from rfl, show fourS.specs.length = 1 from rfl, show fourS.calls.length = 1 from rfl, show fourS.picks.length = 2 from rfl] at HLA HC ⊢
  go_upto_region 2 with (fail)
  have hb := Blk.new w1 #[.int .i64 2, .slice sa 1 sc, .slice (some ⟨b2, off2, none⟩) 1 cc, .slice pa 2 pc] 26
  have hx2 := (Ext.refl w1).alloc (.cells #[.int .i64 2, .slice sa 1 sc, .slice (some ⟨b2, off2, none⟩) 1 cc, .slice pa 2 pc] 26)
  have HE2 := Lib.hid hx2
  have HW : Hid (Calls Tryd.prog 8 #[.agg #[.int .i64 2, .slice sa 1 sc, .slice (some ⟨b2, off2, none⟩) 1 cc, .slice pa 2 pc]] (w1.alloc (.cells #[.int .i64 2, .slice sa 1 sc, .slice (some ⟨b2, off2, none⟩) 1 cc, .slice pa 2 pc] 26)) (WrPost fourS (w1.alloc (.cells #[.int .i64 2, .slice sa 1 sc, .slice (some ⟨b2, off2, none⟩) 1 cc, .slice pa 2 pc] 26)))) := Lib.hid (pwrite_any fourS ⟨sa, sc, some ⟨b2, off2, none⟩, cc, pa, pc⟩ _ HF.out HWD.out (HLA.out.ext hx2) HC.out)
  have HB := Lib.hid hb
  have HU2 : Hid ((w1.alloc (.cells #[.int .i64 2, .slice sa 1 sc, .slice (some ⟨b2, off2, none⟩) 1 cc, .slice pa 2 pc] 26)).cell? ⟨b2, off2 + 3, none⟩ = some (.int .u64 5)) := Lib.hid (hx2.cell HU.out)
  have HM2 : Hid (MaxAt (w1.alloc (.cells #[.int .i64 2, .slice sa 1 sc, .slice (some ⟨b2, off2, none⟩) 1 cc, .slice pa 2 pc] 26))) := Lib.hid ((HM.out.ext HX1.out).ext hx2)
  clear hb hx2 HM HU
  generalize w1.alloc (.cells #[.int .i64 2, .slice sa 1 sc, .slice (some ⟨b2, off2, none⟩) 1 cc, .slice pa 2 pc] 26) = W2 at *
  have u0 := HB.out.cell 0 (v := .int .i64 2) rfl
  have u1 := HB.out.cell 1 (v := .slice sa 1 sc) rfl
  have u2 := HB.out.cell 2 (v := .slice (some ⟨b2, off2, none⟩) 1 cc) rfl
  have u3 := HB.out.cell 3 (v := .slice pa 2 pc) rfl
  go_wp2_with fail
  clear u0 u1 u2 u3
  refine HW.out.mono ?_
  rintro e w3 ⟨hx, ⟨h0, -⟩ | ⟨-, rfl⟩⟩
  · exact absurd HOK.out h0
  rw [show Pl.planT fourS = fourA from HPL.out]
  have HX3 := Lib.hid hx
  have H4 := Lib.hid (pread_any fourB w3 (by decide) (HM2.out.ext hx))
  clear hx HW
  go_wp2_with fail
  refine H4.out.mono ?_
  rw [readB]
  rintro e w4 ⟨hx, ⟨-, -, rfl⟩ | ⟨h0, -⟩⟩
  rotate_left
  · cases h0
  have HX4 := Lib.hid hx
  clear hx H4
  simp only
  have hx5 := (HX3.out.trans HX4.out).alloc (.cells #[.int .i64 0, .slice none 0 0, .slice none 0 0, .slice none 0 0] 26)
  have v0 := hx5.cell (HB.out.cell 0 (v := .int .i64 2) rfl)
  have v1 := hx5.cell (HB.out.cell 1 (v := .slice sa 1 sc) rfl)
  have v2 := hx5.cell (HB.out.cell 2 (v := .slice (some ⟨b2, off2, none⟩) 1 cc) rfl)
  have v3 := hx5.cell (HB.out.cell 3 (v := .slice pa 2 pc) rfl)
  have v4 := hx5.cell HU2.out
  have HXX : Hid (Ext w (w4.alloc (.cells #[.int .i64 0, .slice none 0 0, .slice none 0 0, .slice none 0 0] 26))) := Lib.hid (HX1.out.trans (HE2.out.trans hx5))
  clear hx5 HX1 HX3 HX4 HB HU2
  go_upto_region 4 with (fail)
  generalize w4.alloc (.cells #[.int .i64 0, .slice none 0 0, .slice none 0 0, .slice none 0 0] 26) = W5 at *
  simp only [fourA]
  go_wp2_with fail
  refine bodyPost_ret (v := .bool true) (by simp [results, Tryd.results7, go_sem]) rfl ?_
  exact ⟨rfl, HXX.out⟩

end Go.Proofs.YtcfbcffmlinlaaaDoor

namespace Go.Proofs.YtcfbcffmlinlaaaDoor
open Go.RowKit

theorem ref_any (s : Scr) (m : Lies) (w : World) :
    Calls Tryd.prog 10 #[.agg #[.int .i64 s.n, .slice m.sa s.specs.length m.sc, .slice m.ca s.calls.length m.cc, .slice m.pa s.picks.length m.pc]] w
      fun e w' => e = .returned (.agg #[.int .i64 s.n, .slice m.sa s.specs.length m.sc, .slice m.ca s.calls.length m.cc, .slice m.pa s.picks.length m.pc]) ∧ Ext w w' := by
  obtain ⟨sa, sc, ca, cc, pa, pc⟩ := m
  simp only
  have hw : ∀ o o' : Obj, Ext w ((w.alloc o).alloc o') := fun o o' => ((Ext.refl w).alloc o).alloc o'
  go_enter Tryd.func10, Tryd.ntmps10
  go_wp2
  refine bodyPost_ret (v := .agg #[.int .i64 s.n, .slice sa s.specs.length sc, .slice ca s.calls.length cc, .slice pa s.picks.length pc]) (by simp [results, Tryd.results10, go_sem]) rfl ⟨rfl, hw _ _⟩

end Go.Proofs.YtcfbcffmlinlaaaDoor

namespace Go.Proofs.YtcfbcffmlinlaaaDoor
open Go.RowKit

theorem one_run (w : World) (v : Int) (g : Nat) (hg : g = w.heap.size) (n : Nat) :
    (convert 43 9 (.slice (some ⟨g, 0, none⟩) 1 n)).run Tryd.prog (w.alloc (.cells #[.int .u8 v] 5)) = .ok (.string (St [UInt8.ofNat v.toNat])) (w.alloc (.cells #[.int .u8 v] 5)) := by
  subst hg
  have hc : ∀ i, i < 1 → (w.alloc (.cells #[.int .u8 v] 5)).cell? ⟨w.heap.size, 0 + i, none⟩ = some (.int .u8 ([v].getD i 0)) := fun i hi => by
    obtain rfl : i = 0 := by omega
    rw [World.cell?_alloc_at _ _ _ _ rfl]
    rfl
  exact run_convert_bytes_arg (P := Tryd.prog) (w.alloc (.cells #[.int .u8 v] 5)) 43 5 Tryd.underlying43 Tryd.underlying5 w.heap.size 0 1 n [v] rfl hc 9 Tryd.underlying9

theorem pow20 : (10 : Int) ^ 20 = 100000000000000000000 := by decide
theorem pow_step (k : Nat) (h : k < 20) : (10 : Int) ^ (20 - k) = 10 * 10 ^ (20 - (k + 1)) := by
  rw [show 20 - k = (20 - (k + 1)) + 1 by omega, Int.pow_succ]; omega

set_option maxHeartbeats 400000 in
theorem rdigits_any (x : Int) (w : World) (h0 : 0 ≤ x) (h1 : x ≤ 18446744073709551615) :
    Calls Tryd.prog 45 #[.int .u64 x] w fun e w' => e = .returned (.string (St (Tx.digs 20 x.toNat))) ∧ Ext w w' := by
  have hx20 : x < 10 ^ (20 - 0) := by rw [show (20 - 0 : Nat) = 20 from rfl, pow20]; omega
  have HX20 := Lib.hid hx20; clear hx20
  go_enter Tryd.func45, Tryd.ntmps45
  go_wp2
  go_loopw [0, 3, 4] (fun a s i wr => ∃ (k : Nat) (y : Int) (t : List UInt8), k < 20 ∧ i = .int .i64 k ∧ 0 ≤ y ∧ y ≤ 18446744073709551615 ∧ a = .int .u64 y ∧ s = .string (St t) ∧ t.length ≤ 21 ∧ Hid (y < 10 ^ (20 - k)) ∧ Hid (Tx.digs 20 x.toNat = Tx.digs 20 y.toNat ++ t) ∧ Ext w wr) (fun _ _ i _ => 20 - (intOf i).toNat)
  case atStart => exact ⟨0, x, [], by omega, rfl, h0, h1, rfl, rfl, by simp, HX20, Lib.hid (by simp), Ext.refl w⟩
  case round =>
    obtain ⟨k, y, t, hk, rfl, hy0, hy1, rfl, rfl, ht, HY, HD, HX⟩ := hrel
    have hl : (Tx.digs 20 x.toNat).length ≤ 21 := digs_len 20 _
    have ht20 : t.length ≤ 20 := by
      have := HD.out
      rw [this, List.length_append] at hl
      have := List.length_pos_iff.2 (Tx.digs_ne 20 y.toNat)
      omega
    have hr := fun (w : World) => one_run w (48 + y % 10) w.heap.size rfl 1
    have HXR := Lib.hid HX; clear HX
    by_cases hz : y / 10 = 0
    · have hz' : (y / 10 == 0) = true := beq_iff_eq.2 hz
      have HZ := Lib.hid hz; clear hz
      have HF : Hid (Tx.digs 20 x.toNat = UInt8.ofNat (48 + y % 10).toNat :: t) := Lib.hid (by
        have hz := HZ.out
        rw [HD.out, Tx.digs_small (x := y.toNat) (by omega), show (48 + y % 10).toNat = 48 + y.toNat by omega]
        rfl)
      go_wp2
      go_ret
      exact ⟨ret_str (by rw [HF.out]), HXR.out.alloc _⟩
    · have hz' : (y / 10 == 0) = false := beq_eq_false_iff_ne.2 hz
      have hy10 : 10 ≤ y := by omega
      have HP : Hid (k + 1 < 20) := Lib.hid (by
        rcases Nat.lt_or_ge (k + 1) 20 with h | h
        · exact h
        · have h1 := HY.out
          rw [show 20 - k = 1 by omega] at h1
          have : (10 : Int) ^ 1 = 10 := by decide
          omega)
      have HY2 : Hid (y / 10 < 10 ^ (20 - (k + 1))) := Lib.hid (by
        have h1 := HY.out
        rw [pow_step k hk] at h1
        omega)
      have HF : Hid (Tx.digs 20 x.toNat = Tx.digs 20 (y / 10).toNat ++ ([UInt8.ofNat (48 + y % 10).toNat] ++ t)) := Lib.hid (by
        rw [HD.out, Tx.digs_big (x := y.toNat) (by omega) (Tx.big21 (by omega)), List.append_assoc, show y.toNat / 10 = (y / 10).toNat by omega, show (48 + y % 10).toNat = 48 + y.toNat % 10 by omega]
        rfl)
      clear hz
      go_wp2
      go_roundw
      case rel => exact ⟨k + 1, y / 10, _, HP.out, by go_num, by omega, by omega, rfl, rfl, by simp; omega, HY2, HF, HXR.out.alloc _⟩
      case measure => simp [intOf]; omega

set_option maxHeartbeats 400000 in
theorem rint_any (x : Int) (w : World) (h0 : -9223372036854775808 ≤ x) (h1 : x ≤ 9223372036854775807) :
    Calls Tryd.prog 25 #[.int .i64 x] w fun e w' => e = .returned (.string (St (Tx.numT x))) ∧ Ext w w' := by
  by_cases h : x < 0
  · have hd := digs_len 20 (-(x + 1) + 1).toNat
    have HT := Lib.hid (Tx.numT_neg h)
    have HE := Lib.hid (show (-(x + 1) + 1).toNat = (-x).toNat by omega)
    go_enter Tryd.func25, Tryd.ntmps25
    go_wp2_with fail
    refine (rdigits_any (-(x + 1) + 1) _ (by omega) (by omega)).mono ?_
    rintro e w' ⟨rfl, hx⟩
    have HX := Lib.hid hx; clear hx
    go_wp2_with fail
    go_ret
    exact ⟨ret_str (by rw [HT.out, HE.out]), HX.out⟩
  · have HT := Lib.hid (Tx.numT_pos (x := x) (by omega))
    go_enter Tryd.func25, Tryd.ntmps25
    go_wp2_with fail
    refine (rdigits_any x _ (by omega) (by omega)).mono ?_
    rintro e w' ⟨rfl, hx⟩
    have HX := Lib.hid hx; clear hx
    go_wp2_with fail
    go_ret
    exact ⟨ret_str (by rw [HT.out]), HX.out⟩

end Go.Proofs.YtcfbcffmlinlaaaDoor
