/-
  script.Decode: the script whose bytes these are; or where it gives up.
-/
import Derived.Test.YtcfbcffmlinlaaaDoorScrClos
namespace Go.Proofs.YtcfbcffmlinlaaaDoor
open Go.RowKit

def pS2 (n : Int) (ss : List Spc) (cs : List Cll) : Option (List Int) → Option Scr
  | none => none
  | some ps => some ⟨n, ss, cs, ps⟩
def pS1 (n : Int) (ss : List Spc) : Option (List Cll × List Int) → Option Scr
  | none => none
  | some (cs, l) => pS2 n ss cs (pPicks (-1) true [] l)
def pS0 : Option ((Int × List Spc) × List Int) → Option Scr
  | none => none
  | some ((n, ss), l) => pS1 n ss (pAllCalls n l)
theorem pS_zero (l : List Int) : pS l = pS0 (pHead l) := by
  rw [pS_parts]
  cases pHead l with
  | none => rfl
  | some x =>
    obtain ⟨⟨n, ss⟩, l⟩ := x
    simp only [pS0]
    cases pAllCalls n l with
    | none => rfl
    | some x =>
      obtain ⟨cs, l⟩ := x
      simp only [pS1]
      cases pPicks (-1) true [] l <;> rfl

/-- What script.Decode answers. -/
def DecPost (l : List Int) (w : World) (e : Ending) (w' : World) : Prop :=
  Ext w w' ∧ ((pS l = none ∧ ∃ p r : Int, e = .returned (.tuple #[.agg #[.int .i64 0, .slice none 0 0, .slice none 0 0, .slice none 0 0], .int .i64 p, .int .i64 r]) ∧ 0 ≤ p ∧ p ≤ l.length ∧ r ≠ 0 ∧ (l = [1, 1] → p = 2 ∧ r = 4)) ∨
    ∃ (s : Scr) (m : Lies), pS l = some s ∧ e = .returned (.tuple #[.agg #[.int .i64 s.n, .slice m.sa s.specs.length m.sc, .slice m.ca s.calls.length m.cc, .slice m.pa s.picks.length m.pc], .int .i64 0, .int .i64 0]) ∧ LiesAt s m w' ∧ s.picks.length ≤ m.pc)

theorem dec_results {w : World} {S A E : Nat} {v0 v1 v2 v3 x y : Value} (tmps : Array Value) (h2 : tmps[2]?.getD undef = .pointer (some ⟨S, 0, none⟩)) (h3 : tmps[3]?.getD undef = .pointer (some ⟨A, 0, none⟩)) (h4 : tmps[4]?.getD undef = .pointer (some ⟨E, 0, none⟩))
    (hS : Blk w S #[v0, v1, v2, v3] 26) (hA : Blk w A #[x] 3) (hE : Blk w E #[y] 28) :
    (results Tryd.f16 tmps).run Tryd.prog w = .ok (.tuple #[.agg #[v0, v1, v2, v3], x, y]) w := by
  have s0 := hS.cell 0 (v := v0) rfl
  have s1 := hS.cell 1 (v := v1) rfl
  have s2 := hS.cell 2 (v := v2) rfl
  have s3 := hS.cell 3 (v := v3) rfl
  have a0 := hA.cell 0 (v := x) rfl
  have e0 := hE.cell 0 (v := y) rfl
  simp [results, Tryd.results16, go_sem, h2, h3, h4, s0, s1, s2, s3, a0, e0]

theorem dec_bad (l : List Int) (w W : World) (tmps : Array Value) (S A E : Nat) (v0 v1 v2 v3 : Value) (x y p r : Int) (h2 : tmps[2]?.getD undef = .pointer (some ⟨S, 0, none⟩)) (h3 : tmps[3]?.getD undef = .pointer (some ⟨A, 0, none⟩)) (h4 : tmps[4]?.getD undef = .pointer (some ⟨E, 0, none⟩))
    (hS : Blk W S #[v0, v1, v2, v3] 26) (hA : Blk W A #[.int .i64 x] 3) (hE : Blk W E #[.int .i64 y] 28) (hwS : w.heap.size ≤ S) (hSA : S < A) (hAE : A < E) (hx : Ext w W) (hn : pS l = none) (hp : 0 ≤ p ∧ p ≤ l.length ∧ r ≠ 0 ∧ (l = [1, 1] → p = 2 ∧ r = 4)) :
    Leaves Tryd.prog Tryd.f16 tmps (DecPost l w) [{ target := .fn (.func 34) #[.pointer (some ⟨S, 0, none⟩), .pointer (some ⟨A, 0, none⟩), .pointer (some ⟨E, 0, none⟩)], args := #[] }]
      (.panicking [{ v := .iface 86 (.agg #[.int .i64 p, .int .i64 r]), recovered := false }]) W := by
  refine leaves_cons (f := 34) (args := #[.pointer (some ⟨S, 0, none⟩), .pointer (some ⟨A, 0, none⟩), .pointer (some ⟨E, 0, none⟩)]) (by simp) (by simp [go_sem]) ?_
  refine (clos_caught S A E x y p r _ [] W hS ⟨v0, v1, v2, v3, rfl⟩ hA hE hSA hAE).mono ?_
  rintro e u' w'' ⟨rfl, rfl, hbel, hS', hA', hE'⟩
  refine ⟨_, dec_results tmps h2 h3 h4 hS' hA' hE', ?_⟩
  exact ⟨Below.trans hx (Below.mono hbel hwS), .inl ⟨hn, p, r, rfl, hp⟩⟩

theorem dec_ok (l : List Int) (w W : World) (tmps : Array Value) (S A E : Nat) (s : Scr) (m : Lies) (h2 : tmps[2]?.getD undef = .pointer (some ⟨S, 0, none⟩)) (h3 : tmps[3]?.getD undef = .pointer (some ⟨A, 0, none⟩)) (h4 : tmps[4]?.getD undef = .pointer (some ⟨E, 0, none⟩))
    (hS : Blk W S #[.int .i64 s.n, .slice m.sa s.specs.length m.sc, .slice m.ca s.calls.length m.cc, .slice m.pa s.picks.length m.pc] 26) (hA : Blk W A #[.int .i64 0] 3) (hE : Blk W E #[.int .i64 0] 28) (hx : Ext w W) (hn : pS l = some s) (hm : LiesAt s m W) (hc : s.picks.length ≤ m.pc) :
    Leaves Tryd.prog Tryd.f16 tmps (DecPost l w) [{ target := .fn (.func 34) #[.pointer (some ⟨S, 0, none⟩), .pointer (some ⟨A, 0, none⟩), .pointer (some ⟨E, 0, none⟩)], args := #[] }] .returning W := by
  refine leaves_cons (f := 34) (args := #[.pointer (some ⟨S, 0, none⟩), .pointer (some ⟨A, 0, none⟩), .pointer (some ⟨E, 0, none⟩)]) (by simp) (by simp [go_sem]) ?_
  refine (clos_idle _ _ _ W).mono ?_
  rintro e u' w'' ⟨rfl, rfl, rfl⟩
  exact ⟨_, dec_results tmps h2 h3 h4 hS hA hE, hx, .inr ⟨s, m, hn, rfl, hm, hc⟩⟩

theorem Rd.set2 {w : World} {R : Nat} {l : List Int} {ba : Option Addr} {bc j : Nat} (h : Rd w R l ba bc j) {b i : Nat} (hb : l = [] ∨ ∀ x, ba = some x → x.block ≠ b) (hne : R ≠ b) (v : Value) : Rd (w.setCell ⟨b, i, none⟩ v) R l ba bc j := by
  rcases hb with rfl | hb
  · exact ⟨by rw [heap_setCell_other w _ R v hne]; exact h.here, .inl rfl, h.le⟩
  · exact h.set_ne hb hne v
theorem rd_new {w : World} {l : List Int} {ba : Option Addr} {bc : Nat} (h : IsInts .u8 w ba l) : Rd (w.alloc (.cells #[.slice ba l.length bc, .int .i64 0] 90)) w.heap.size l ba bc 0 := by
  refine ⟨heap_alloc_new w _, ?_, Nat.zero_le _⟩
  by_cases hl : l = []
  · exact .inl hl
  · rcases h with h | ⟨b, off, ha, hc⟩
    · exact .inl h
    · have h0 := hc 0 (List.length_pos_iff.2 hl)
      have hb : b < w.heap.size := World.block_lt_of_cell? _ _ h0
      exact .inr ⟨b, off, ha, by omega, fun i hi => ((Ext.refl w).alloc _).cell (hc i hi)⟩
theorem ints_block {w : World} {k : IntKind} {l : List Int} {ba : Option Addr} (h : IsInts k w ba l) : l = [] ∨ ∀ x, ba = some x → x.block < w.heap.size := by
  by_cases hl : l = []
  · exact .inl hl
  · rcases h with h | ⟨b, off, ha, hc⟩
    · exact .inl h
    · right
      intro x hx
      have h0 := hc 0 (List.length_pos_iff.2 hl)
      have hb : b < w.heap.size := World.block_lt_of_cell? _ _ h0
      rw [ha] at hx; cases hx; exact hb
theorem keep_ext {R : Nat} {w a b : World} (h : Ext w a) (k : Keep R a b) (hR : w.heap.size ≤ R) (hRa : R ≤ a.heap.size) : Ext w b := Below.mono (Keep.below k (Below.refl R a) hRa) hR |> fun x => Below.trans h x

set_option maxRecDepth 100000 in
set_option maxHeartbeats 2000000 in
theorem decode_any (l : List Int) (ba : Option Addr) (bc : Nat) (w : World) (hi : IsInts .u8 w ba l) (hb : ∀ b ∈ l, byteOk b) (hl : l.length ≤ 9223372036854775807) :
    Calls Tryd.prog 16 #[.slice ba l.length bc] w (DecPost l w) := by
  have hmf : ∀ (fn : Fn) (first cap : Array Value) (w : World), (Instr.makeFunc fn first cap).run Tryd.prog w = .ok (.func fn first cap) w := fun _ _ _ _ => rfl
  have HP := Lib.hid (pS_zero l)
  go_enter_defers Tryd.func16, Tryd.ntmps16
  go_wp2_with fail
  have HX := Lib.hid (((((Ext.refl w).alloc (.cells #[Value.int .i64 0, .slice none 0 0, .slice none 0 0, .slice none 0 0] 26)).alloc (.cells #[Value.int .i64 0] 3)).alloc (.cells #[Value.int .i64 0] 28)).alloc (.cells #[Value.slice ba l.length bc, .int .i64 0] 90))
  have hr0 := rd_new (bc := bc) (((hi.ext ((Ext.refl w).alloc (.cells #[Value.int .i64 0, .slice none 0 0, .slice none 0 0, .slice none 0 0] 26))).ext ((Ext.refl _).alloc (.cells #[Value.int .i64 0] 3))).ext ((Ext.refl _).alloc (.cells #[Value.int .i64 0] 28)))
  have hS0 := (((Blk.new w #[Value.int .i64 0, .slice none 0 0, .slice none 0 0, .slice none 0 0] 26).alloc (.cells #[Value.int .i64 0] 3)).alloc (.cells #[Value.int .i64 0] 28)).alloc (.cells #[Value.slice ba l.length bc, .int .i64 0] 90)
  have hA0 := ((Blk.new (w.alloc (.cells #[Value.int .i64 0, .slice none 0 0, .slice none 0 0, .slice none 0 0] 26)) #[Value.int .i64 0] 3).alloc (.cells #[Value.int .i64 0] 28)).alloc (.cells #[Value.slice ba l.length bc, .int .i64 0] 90)
  have hE0 := (Blk.new ((w.alloc (.cells #[Value.int .i64 0, .slice none 0 0, .slice none 0 0, .slice none 0 0] 26)).alloc (.cells #[Value.int .i64 0] 3)) #[Value.int .i64 0] 28).alloc (.cells #[Value.slice ba l.length bc, .int .i64 0] 90)
  have hba := ints_block hi
  simp only [World.size_alloc] at hr0 hA0 hE0
  generalize (((w.alloc (.cells #[Value.int .i64 0, .slice none 0 0, .slice none 0 0, .slice none 0 0] 26)).alloc (.cells #[Value.int .i64 0] 3)).alloc (.cells #[Value.int .i64 0] 28)).alloc (.cells #[Value.slice ba l.length bc, .int .i64 0] 90) = W0 at *
  have hsz := hr0.lt
  refine (head_read W0 _ l ba bc 0 hr0 hb hl).mono ?_
  rintro e w1 ⟨hk1, ⟨hn, p, r, rfl, hbad⟩ | ⟨⟨n, ss⟩, j1, hs1, ⟨sa, sc, rfl, hsp, hsb, n0, n1, hsl⟩, hr1⟩⟩
  · refine dec_bad l w _ _ w.heap.size (w.heap.size + 1) (w.heap.size + 1 + 1) _ _ _ _ _ _ p r rfl rfl rfl (hS0.keep hk1 (by omega)) (hA0.keep hk1 (by omega)) (hE0.keep hk1 (by omega)) (Nat.le_refl _) (by omega) (by omega) (keep_ext HX.out hk1 (by omega) (by omega)) ?_ hbad
    rw [List.drop_zero] at hn
    rw [HP.out, hn]; rfl
  · simp only at hsl hsp n0 n1 ⊢
    have HP1 : Hid (pS l = pS1 n ss (pAllCalls n (l.drop j1))) := Lib.hid (by rw [List.drop_zero] at hs1; rw [HP.out, hs1]; rfl)
    have h11 : l ≠ [1, 1] := by
      intro h; subst h
      rw [List.drop_zero, show pHead [1, 1] = none from rfl] at hs1
      cases hs1
    have hSb := hS0.keep hk1 (by omega)
    have s0 := hSb.cell 0 (v := .int .i64 0) rfl
    have s1 := hSb.cell 1 (v := .slice none 0 0) rfl
    have s2 := hSb.cell 2 (v := .slice none 0 0) rfl
    have s3 := hSb.cell 3 (v := .slice none 0 0) rfl
    have z0 := hSb.fz 0
    have z1 := hSb.fz 1
    have z2 := hSb.fz 2
    have z3 := hSb.fz 3
    have ls := hSb.lt
    have hS1 : Blk ((((w1.setCell ⟨w.heap.size, 0, none⟩ (.int .i64 n)).setCell ⟨w.heap.size, 1, none⟩ (.slice sa ss.length sc)).setCell ⟨w.heap.size, 2, none⟩ (.slice none 0 0)).setCell ⟨w.heap.size, 3, none⟩ (.slice none 0 0)) w.heap.size #[.int .i64 n, .slice sa ss.length sc, .slice none 0 0, .slice none 0 0] 26 :=
      (((hSb.set 0 _).set 1 _).set 2 _).set 3 _
    have hA1 := (((((hA0.keep hk1 (by omega)).set_ne (b := w.heap.size) (i := 0) (by omega) (.int .i64 n)).set_ne (b := w.heap.size) (i := 1) (by omega) (.slice sa ss.length sc)).set_ne (b := w.heap.size) (i := 2) (by omega) (.slice none 0 0)).set_ne (b := w.heap.size) (i := 3) (by omega) (.slice none 0 0))
    have hE1 := (((((hE0.keep hk1 (by omega)).set_ne (b := w.heap.size) (i := 0) (by omega) (.int .i64 n)).set_ne (b := w.heap.size) (i := 1) (by omega) (.slice sa ss.length sc)).set_ne (b := w.heap.size) (i := 2) (by omega) (.slice none 0 0)).set_ne (b := w.heap.size) (i := 3) (by omega) (.slice none 0 0))
    have hbn : l = [] ∨ ∀ x, ba = some x → x.block ≠ w.heap.size := hba.imp id (fun h x hx => by have := h x hx; omega)
    have hR1 := ((((hr1.set2 (b := w.heap.size) (i := 0) hbn (by omega) (.int .i64 n)).set2 (b := w.heap.size) (i := 1) hbn (by omega) (.slice sa ss.length sc)).set2 (b := w.heap.size) (i := 2) hbn (by omega) (.slice none 0 0)).set2 (b := w.heap.size) (i := 3) hbn (by omega) (.slice none 0 0))
    have hsn : ∀ x, sa = some x → x.block ≠ w.heap.size := fun x hx => by have := hsb x hx; omega
    have hsp1 : IsSpecs ((((w1.setCell ⟨w.heap.size, 0, none⟩ (.int .i64 n)).setCell ⟨w.heap.size, 1, none⟩ (.slice sa ss.length sc)).setCell ⟨w.heap.size, 2, none⟩ (.slice none 0 0)).setCell ⟨w.heap.size, 3, none⟩ (.slice none 0 0)) sa ss :=
      IsSeq.keep (IsSeq.keep (IsSeq.keep (IsSeq.keep hsp (keep_set _ 0 _ _) hsn) (keep_set _ 1 _ _) hsn) (keep_set _ 2 _ _) hsn) (keep_set _ 3 _ _) hsn
    have hx1 : Ext w w1 := keep_ext HX.out hk1 (by omega) (by omega)
    have hx2 : Ext w ((((w1.setCell ⟨w.heap.size, 0, none⟩ (.int .i64 n)).setCell ⟨w.heap.size, 1, none⟩ (.slice sa ss.length sc)).setCell ⟨w.heap.size, 2, none⟩ (.slice none 0 0)).setCell ⟨w.heap.size, 3, none⟩ (.slice none 0 0)) :=
      Below.trans hx1 ((((below_set _ _ (Nat.le_refl _) _).trans (below_set _ _ (Nat.le_refl _) _)).trans (below_set _ _ (Nat.le_refl _) _)).trans (below_set _ _ (Nat.le_refl _) _))
    have hsz1 : W0.heap.size ≤ ((((w1.setCell ⟨w.heap.size, 0, none⟩ (.int .i64 n)).setCell ⟨w.heap.size, 1, none⟩ (.slice sa ss.length sc)).setCell ⟨w.heap.size, 2, none⟩ (.slice none 0 0)).setCell ⟨w.heap.size, 3, none⟩ (.slice none 0 0)).heap.size := by
      have := hk1.size; simp; omega
    go_upto_region 4 with (fail)
    generalize ((((w1.setCell ⟨w.heap.size, 0, none⟩ (.int .i64 n)).setCell ⟨w.heap.size, 1, none⟩ (.slice sa ss.length sc)).setCell ⟨w.heap.size, 2, none⟩ (.slice none 0 0)).setCell ⟨w.heap.size, 3, none⟩ (.slice none 0 0)) = W1 at *
    clear s0 s1 s2 s3 z0 z1 z2 z3 ls hSb hr0 hS0 hA0 hE0 hr1 hk1 hsp hx1 hs1 HP
    have k0 := hS1.cell 0 (v := .int .i64 n) rfl
    have k1 := hS1.lt
    go_wp2_with fail
    refine (calls_read n W1 _ l ba bc j1 hR1 hb hl h11).mono ?_
    rintro e w2 ⟨hk2, ⟨hn, p, r, rfl, hbad⟩ | ⟨cs, j2, hs2, ⟨ca, cc, rfl, hcp, hcb, hcl⟩, hr2⟩⟩
    · refine dec_bad l w _ _ w.heap.size (w.heap.size + 1) (w.heap.size + 1 + 1) _ _ _ _ _ _ p r rfl rfl rfl (hS1.keep hk2 (by omega)) (hA1.keep hk2 (by omega)) (hE1.keep hk2 (by omega)) (Nat.le_refl _) (by omega) (by omega) (keep_ext hx2 hk2 (by omega) (by omega)) ?_ hbad
      rw [HP1.out, hn]; rfl
    · clear k0 k1
      have HP2 : Hid (pS l = pS2 n ss cs (pPicks (-1) true [] (l.drop j2))) := Lib.hid (by rw [HP1.out, hs2]; rfl)
      have hSb := hS1.keep hk2 (by omega)
      have s2 := hSb.cell 2 (v := .slice none 0 0) rfl
      have z2 := hSb.fz 2
      have ls := hSb.lt
      have hcn : ∀ x, ca = some x → x.block ≠ w.heap.size := fun x hx => by have := hcb x hx; omega
      have hS2 : Blk (w2.setCell ⟨w.heap.size, 2, none⟩ (.slice ca cs.length cc)) w.heap.size #[.int .i64 n, .slice sa ss.length sc, .slice ca cs.length cc, .slice none 0 0] 26 := hSb.set 2 _
      have hA2 := (hA1.keep hk2 (by omega)).set_ne (b := w.heap.size) (i := 2) (by omega) (.slice ca cs.length cc)
      have hE2 := (hE1.keep hk2 (by omega)).set_ne (b := w.heap.size) (i := 2) (by omega) (.slice ca cs.length cc)
      have hR2 := hr2.set2 (b := w.heap.size) (i := 2) hbn (by omega) (.slice ca cs.length cc)
      have hsp2 : IsSpecs (w2.setCell ⟨w.heap.size, 2, none⟩ (.slice ca cs.length cc)) sa ss := IsSeq.keep (IsSeq.keep hsp1 hk2 (fun x hx => by have := hsb x hx; omega)) (keep_set _ 2 _ _) hsn
      have hcp2 : IsCalls (w2.setCell ⟨w.heap.size, 2, none⟩ (.slice ca cs.length cc)) ca cs := IsSeq.keep hcp (keep_set _ 2 _ _) hcn
      have hx3 : Ext w (w2.setCell ⟨w.heap.size, 2, none⟩ (.slice ca cs.length cc)) := Below.trans (keep_ext hx2 hk2 (by omega) (by omega)) (below_set _ _ (Nat.le_refl _) _)
      have hsz2 : W0.heap.size ≤ (w2.setCell ⟨w.heap.size, 2, none⟩ (.slice ca cs.length cc)).heap.size := by have := hk2.size; simp; omega
      go_upto_region 5 with (fail)
      generalize w2.setCell ⟨w.heap.size, 2, none⟩ (.slice ca cs.length cc) = W2 at *
      clear s2 z2 ls hSb hk2 hr2 hsp1 hcp hS1 hA1 hE1 hR1 hx2 hs2 HP1
      go_wp2_with fail
      refine (picks_read W2 _ l ba bc j2 hR2 hb hl h11).mono ?_
      rintro e w3 ⟨hk3, ⟨hn, p, r, rfl, hbad⟩ | ⟨ps, j3, hs3, ⟨pa, pc, rfl, hpp, hpb, hpl, hpc⟩, hr3⟩⟩
      · refine dec_bad l w _ _ w.heap.size (w.heap.size + 1) (w.heap.size + 1 + 1) _ _ _ _ _ _ p r rfl rfl rfl (hS2.keep hk3 (by omega)) (hA2.keep hk3 (by omega)) (hE2.keep hk3 (by omega)) (Nat.le_refl _) (by omega) (by omega) (keep_ext hx3 hk3 (by omega) (by omega)) ?_ hbad
        unfold pPicksR at hn
        rw [HP2.out]
        cases hq : pPicks (-1) true [] (l.drop j2) with
        | none => rfl
        | some x => rw [hq] at hn; cases hn
      · have HP3 : Hid (pS l = some ⟨n, ss, cs, ps⟩) := Lib.hid (by
          unfold pPicksR at hs3
          rw [HP2.out]
          cases hq : pPicks (-1) true [] (l.drop j2) with
          | none => rw [hq] at hs3; cases hs3
          | some x => rw [hq] at hs3; simp at hs3; rw [hs3.1]; rfl)
        have hSb := hS2.keep hk3 (by omega)
        have s3 := hSb.cell 3 (v := .slice none 0 0) rfl
        have z3 := hSb.fz 3
        have ls := hSb.lt
        have hpn : ∀ x, pa = some x → x.block ≠ w.heap.size := fun x hx => by have := hpb x hx; omega
        have hS3 : Blk (w3.setCell ⟨w.heap.size, 3, none⟩ (.slice pa ps.length pc)) w.heap.size #[.int .i64 n, .slice sa ss.length sc, .slice ca cs.length cc, .slice pa ps.length pc] 26 := hSb.set 3 _
        have hA3 := (hA2.keep hk3 (by omega)).set_ne (b := w.heap.size) (i := 3) (by omega) (.slice pa ps.length pc)
        have hE3 := (hE2.keep hk3 (by omega)).set_ne (b := w.heap.size) (i := 3) (by omega) (.slice pa ps.length pc)
        have hsp3 : IsSpecs (w3.setCell ⟨w.heap.size, 3, none⟩ (.slice pa ps.length pc)) sa ss := IsSeq.keep (IsSeq.keep hsp2 hk3 (fun x hx => by have := hsb x hx; omega)) (keep_set _ 3 _ _) hsn
        have hcp3 : IsCalls (w3.setCell ⟨w.heap.size, 3, none⟩ (.slice pa ps.length pc)) ca cs := IsSeq.keep (IsSeq.keep hcp2 hk3 (fun x hx => by have := hcb x hx; omega)) (keep_set _ 3 _ _) hcn
        have hpp3 : IsInts .i64 (w3.setCell ⟨w.heap.size, 3, none⟩ (.slice pa ps.length pc)) pa ps := hpp.keep (keep_set _ 3 _ _) hpn
        have hx4 : Ext w (w3.setCell ⟨w.heap.size, 3, none⟩ (.slice pa ps.length pc)) := Below.trans (keep_ext hx3 hk3 (by omega) (by omega)) (below_set _ _ (Nat.le_refl _) _)
        have hsz3 : W0.heap.size ≤ (w3.setCell ⟨w.heap.size, 3, none⟩ (.slice pa ps.length pc)).heap.size := by have := hk3.size; simp; omega
        go_upto_region 6 with (fail)
        generalize w3.setCell ⟨w.heap.size, 3, none⟩ (.slice pa ps.length pc) = W3 at *
        clear s3 z3 ls hSb hk3 hr3 hsp2 hcp2 hpp hS2 hA2 hE2 hR2 hx3 hs3 HP2
        have s0 := hS3.cell 0 (v := .int .i64 n) rfl
        have s1 := hS3.cell 1 (v := .slice sa ss.length sc) rfl
        have s2 := hS3.cell 2 (v := .slice ca cs.length cc) rfl
        have s3 := hS3.cell 3 (v := .slice pa ps.length pc) rfl
        have z0 := hS3.fz 0
        have z1 := hS3.fz 1
        have z2 := hS3.fz 2
        have z3 := hS3.fz 3
        have ls := hS3.lt
        have a0 := hA3.cell 0 (v := .int .i64 0) rfl
        have a1 := hA3.fz 0
        have a2 := hA3.lt
        have e0 := hE3.cell 0 (v := .int .i64 0) rfl
        have e1 := hE3.fz 0
        have e2 := hE3.lt
        have hS4 : Blk ((((((W3.setCell ⟨w.heap.size, 0, none⟩ (.int .i64 n)).setCell ⟨w.heap.size, 1, none⟩ (.slice sa ss.length sc)).setCell ⟨w.heap.size, 2, none⟩ (.slice ca cs.length cc)).setCell ⟨w.heap.size, 3, none⟩ (.slice pa ps.length pc)).setCell ⟨w.heap.size + 1, 0, none⟩ (.int .i64 0)).setCell ⟨w.heap.size + 1 + 1, 0, none⟩ (.int .i64 0)) w.heap.size #[.int .i64 n, .slice sa ss.length sc, .slice ca cs.length cc, .slice pa ps.length pc] 26 :=
          (((((hS3.set 0 _).set 1 _).set 2 _).set 3 _).set_ne (by omega) _).set_ne (by omega) _
        have hA4 : Blk ((((((W3.setCell ⟨w.heap.size, 0, none⟩ (.int .i64 n)).setCell ⟨w.heap.size, 1, none⟩ (.slice sa ss.length sc)).setCell ⟨w.heap.size, 2, none⟩ (.slice ca cs.length cc)).setCell ⟨w.heap.size, 3, none⟩ (.slice pa ps.length pc)).setCell ⟨w.heap.size + 1, 0, none⟩ (.int .i64 0)).setCell ⟨w.heap.size + 1 + 1, 0, none⟩ (.int .i64 0)) (w.heap.size + 1) #[.int .i64 0] 3 :=
          (((((hA3.set_ne (by omega) _).set_ne (by omega) _).set_ne (by omega) _).set_ne (by omega) _).set 0 _).set_ne (by omega) _
        have hE4 : Blk ((((((W3.setCell ⟨w.heap.size, 0, none⟩ (.int .i64 n)).setCell ⟨w.heap.size, 1, none⟩ (.slice sa ss.length sc)).setCell ⟨w.heap.size, 2, none⟩ (.slice ca cs.length cc)).setCell ⟨w.heap.size, 3, none⟩ (.slice pa ps.length pc)).setCell ⟨w.heap.size + 1, 0, none⟩ (.int .i64 0)).setCell ⟨w.heap.size + 1 + 1, 0, none⟩ (.int .i64 0)) (w.heap.size + 1 + 1) #[.int .i64 0] 28 :=
          (((((hE3.set_ne (by omega) _).set_ne (by omega) _).set_ne (by omega) _).set_ne (by omega) _).set_ne (by omega) _).set 0 _
        have q1 : ∀ x, sa = some x → W0.heap.size ≤ x.block := hsb
        have q2 : ∀ x, ca = some x → W0.heap.size ≤ x.block := fun x hx => by have := hcb x hx; omega
        have q3 : ∀ x, pa = some x → W0.heap.size ≤ x.block := fun x hx => by have := hpb x hx; omega
        have nn : ∀ (a : Option Addr), (∀ x, a = some x → W0.heap.size ≤ x.block) → ∀ b, b ≤ w.heap.size + 1 + 1 → ∀ x, a = some x → x.block ≠ b := fun a h b hb x hx => by have := h x hx; omega
        have hm4 : LiesAt ⟨n, ss, cs, ps⟩ ⟨sa, sc, ca, cc, pa, pc⟩ ((((((W3.setCell ⟨w.heap.size, 0, none⟩ (.int .i64 n)).setCell ⟨w.heap.size, 1, none⟩ (.slice sa ss.length sc)).setCell ⟨w.heap.size, 2, none⟩ (.slice ca cs.length cc)).setCell ⟨w.heap.size, 3, none⟩ (.slice pa ps.length pc)).setCell ⟨w.heap.size + 1, 0, none⟩ (.int .i64 0)).setCell ⟨w.heap.size + 1 + 1, 0, none⟩ (.int .i64 0)) := by
          refine ⟨?_, ?_, ?_⟩
          · exact IsSeq.keep (IsSeq.keep (IsSeq.keep (IsSeq.keep (IsSeq.keep (IsSeq.keep hsp3 (keep_set _ 0 _ _) (nn _ q1 _ (by omega))) (keep_set _ 1 _ _) (nn _ q1 _ (by omega))) (keep_set _ 2 _ _) (nn _ q1 _ (by omega))) (keep_set _ 3 _ _) (nn _ q1 _ (by omega))) (keep_set _ 0 _ _) (nn _ q1 _ (by omega))) (keep_set _ 0 _ _) (nn _ q1 _ (by omega))
          · exact IsSeq.keep (IsSeq.keep (IsSeq.keep (IsSeq.keep (IsSeq.keep (IsSeq.keep hcp3 (keep_set _ 0 _ _) (nn _ q2 _ (by omega))) (keep_set _ 1 _ _) (nn _ q2 _ (by omega))) (keep_set _ 2 _ _) (nn _ q2 _ (by omega))) (keep_set _ 3 _ _) (nn _ q2 _ (by omega))) (keep_set _ 0 _ _) (nn _ q2 _ (by omega))) (keep_set _ 0 _ _) (nn _ q2 _ (by omega))
          · exact IsInts.keep (IsInts.keep (IsInts.keep (IsInts.keep (IsInts.keep (IsInts.keep hpp3 (keep_set _ 0 _ _) (nn _ q3 _ (by omega))) (keep_set _ 1 _ _) (nn _ q3 _ (by omega))) (keep_set _ 2 _ _) (nn _ q3 _ (by omega))) (keep_set _ 3 _ _) (nn _ q3 _ (by omega))) (keep_set _ 0 _ _) (nn _ q3 _ (by omega))) (keep_set _ 0 _ _) (nn _ q3 _ (by omega))
        have hx5 : Ext w ((((((W3.setCell ⟨w.heap.size, 0, none⟩ (.int .i64 n)).setCell ⟨w.heap.size, 1, none⟩ (.slice sa ss.length sc)).setCell ⟨w.heap.size, 2, none⟩ (.slice ca cs.length cc)).setCell ⟨w.heap.size, 3, none⟩ (.slice pa ps.length pc)).setCell ⟨w.heap.size + 1, 0, none⟩ (.int .i64 0)).setCell ⟨w.heap.size + 1 + 1, 0, none⟩ (.int .i64 0)) :=
          Below.trans hx4 ((((((below_set _ _ (Nat.le_refl _) _).trans (below_set _ _ (Nat.le_refl _) _)).trans (below_set _ _ (Nat.le_refl _) _)).trans (below_set _ _ (Nat.le_refl _) _)).trans (below_set _ _ (by omega) _)).trans (below_set _ _ (by omega) _))
        go_wp2_with fail
        generalize ((((((W3.setCell ⟨w.heap.size, 0, none⟩ (.int .i64 n)).setCell ⟨w.heap.size, 1, none⟩ (.slice sa ss.length sc)).setCell ⟨w.heap.size, 2, none⟩ (.slice ca cs.length cc)).setCell ⟨w.heap.size, 3, none⟩ (.slice pa ps.length pc)).setCell ⟨w.heap.size + 1, 0, none⟩ (.int .i64 0)).setCell ⟨w.heap.size + 1 + 1, 0, none⟩ (.int .i64 0)) = W4 at hS4 hA4 hE4 hm4 hx5 ⊢
        exact dec_ok l w W4 _ w.heap.size (w.heap.size + 1) (w.heap.size + 1 + 1) ⟨n, ss, cs, ps⟩ ⟨sa, sc, ca, cc, pa, pc⟩ rfl rfl rfl hS4 hA4 hE4 hx5 HP3.out hm4 hpc

end Go.Proofs.YtcfbcffmlinlaaaDoor
