/-
  A script as it lies in memory; why it may not be written, as one number.
-/
import Derived.Test.YtcfbcffmlinlaaaDoorChecked
import Derived.Test.YtcfbcffmlinlaaaDoorSeq
import Derived.Test.YtcfbcffmlinlaaaDoorScrRuns
namespace Go.Proofs.YtcfbcffmlinlaaaDoor
open Go.RowKit

theorem ret_int {k : IntKind} {a b : Int} (h : a = b) : Ending.returned (.int k a) = .returned (.int k b) := by rw [h]
theorem ret_bool {a b : Bool} (h : a = b) : Ending.returned (.bool a) = .returned (.bool b) := by rw [h]
theorem vi {k : IntKind} {a b : Int} (h : a = b) : Value.int k a = Value.int k b := by rw [h]
theorem vb {a b : Bool} (h : a = b) : Value.bool a = Value.bool b := by rw [h]

def spc0 : Spc := ⟨0, 0, 0⟩
def cll0 : Cll := ⟨0, 0, 0, 0, 0, 0⟩
def spcCells (s : Spc) : List Value := [.int .i64 s.kind, .int .i64 s.p, .int .i64 s.q]
def cllCells (c : Cll) : List Value := [.int .i64 c.thread, .int .i64 c.obj, .int .i64 c.kind, .int .u64 c.a, .int .u64 c.b, .int .u64 c.c]
theorem spcCells_len (s : Spc) : (spcCells s).length = 3 := rfl
theorem cllCells_len (c : Cll) : (cllCells c).length = 6 := rfl

def IsSpecs (w : World) (a : Option Addr) (l : List Spc) : Prop := IsSeq spc0 3 spcCells w a l
def IsCalls (w : World) (a : Option Addr) (l : List Cll) : Prop := IsSeq cll0 6 cllCells w a l
theorem IsSpecs.ext {w w' : World} {a : Option Addr} {l : List Spc} (h : IsSpecs w a l) (he : Ext w w') : IsSpecs w' a l := IsSeq.ext h he
theorem IsCalls.ext {w w' : World} {a : Option Addr} {l : List Cll} (h : IsCalls w a l) (he : Ext w w') : IsCalls w' a l := IsSeq.ext h he

theorem IsSpecs.at {w : World} {a : Option Addr} {l : List Spc} (h : IsSpecs w a l) {i : Nat} (hi : i < l.length) :
    ∃ b off, a = some ⟨b, off, none⟩ ∧ w.cell? ⟨b, off + i * 3, none⟩ = some (.int .i64 (nthD spc0 l i).kind) ∧ w.cell? ⟨b, off + i * 3 + 1, none⟩ = some (.int .i64 (nthD spc0 l i).p) ∧
      w.cell? ⟨b, off + i * 3 + 2, none⟩ = some (.int .i64 (nthD spc0 l i).q) := by
  obtain ⟨b, off, ha, hc⟩ := IsSeq.at h hi
  exact ⟨b, off, ha, hc 0 (by decide), hc 1 (by decide), hc 2 (by decide)⟩

theorem IsCalls.at {w : World} {a : Option Addr} {l : List Cll} (h : IsCalls w a l) {i : Nat} (hi : i < l.length) :
    ∃ b off, a = some ⟨b, off, none⟩ ∧ w.cell? ⟨b, off + i * 6, none⟩ = some (.int .i64 (nthD cll0 l i).thread) ∧ w.cell? ⟨b, off + i * 6 + 1, none⟩ = some (.int .i64 (nthD cll0 l i).obj) ∧
      w.cell? ⟨b, off + i * 6 + 2, none⟩ = some (.int .i64 (nthD cll0 l i).kind) ∧ w.cell? ⟨b, off + i * 6 + 3, none⟩ = some (.int .u64 (nthD cll0 l i).a) ∧
      w.cell? ⟨b, off + i * 6 + 4, none⟩ = some (.int .u64 (nthD cll0 l i).b) ∧ w.cell? ⟨b, off + i * 6 + 5, none⟩ = some (.int .u64 (nthD cll0 l i).c) := by
  obtain ⟨b, off, ha, hc⟩ := IsSeq.at h hi
  exact ⟨b, off, ha, hc 0 (by decide), hc 1 (by decide), hc 2 (by decide), hc 3 (by decide), hc 4 (by decide), hc 5 (by decide)⟩

/-- Where a script's three lists lie. -/
structure Lies where
  sa : Option Addr
  sc : Nat
  ca : Option Addr
  cc : Nat
  pa : Option Addr
  pc : Nat

def scrCells (s : Scr) (m : Lies) : Array Value := #[.int .i64 s.n, .slice m.sa s.specs.length m.sc, .slice m.ca s.calls.length m.cc, .slice m.pa s.picks.length m.pc]
def scrVal (s : Scr) (m : Lies) : Value := .agg (scrCells s m)

/-- The script's lists lie there. -/
structure LiesAt (s : Scr) (m : Lies) (w : World) : Prop where
  specs : IsSpecs w m.sa s.specs
  calls : IsCalls w m.ca s.calls
  picks : IsInts .i64 w m.pa s.picks

theorem LiesAt.ext {s : Scr} {m : Lies} {w w' : World} (h : LiesAt s m w) (he : Ext w w') : LiesAt s m w' := ⟨h.specs.ext he, h.calls.ext he, h.picks.ext he⟩

/-- Its numbers fit Go's ints, its lists are not longer than a slice may be. -/
structure Fits (s : Scr) : Prop where
  n : -9223372036854775808 ≤ s.n ∧ s.n ≤ 9223372036854775807
  sl : s.specs.length ≤ 9223372036854775807
  cl : s.calls.length ≤ 9223372036854775807
  pl : s.picks.length ≤ 9223372036854775807

def upTo (to x : Int) : Bool := decide (0 ≤ x) && decide (x ≤ to)
theorem upTo_iff (to x : Int) : upTo to x = true ↔ 0 ≤ x ∧ x ≤ to := by simp [upTo]
def specB (s : Spc) : Bool := upTo 255 s.kind && (upTo 65535 s.p && upTo 65535 s.q)
def callB (n : Int) (c : Cll) : Bool := upTo (n - 1) c.thread && (upTo 255 c.obj && upTo 255 c.kind)
def okB (s : Scr) : Bool := s.picks.all (upTo 255) && (s.specs.all specB && s.calls.all (callB s.n))

/-- Why a script may not be written; 0: it may. -/
def errF (s : Scr) : Int := if s.n < 1 ∨ 16 < s.n then 1 else if 8 < s.specs.length ∨ 1000 < s.calls.length ∨ 65536 < s.picks.length then 3 else if okB s then 0 else 10

theorem errF_zero (s : Scr) : errF s = 0 ↔ s.ok := by
  unfold errF Scr.ok
  have hp : s.picks.all (upTo 255) = true ↔ ∀ p ∈ s.picks, byteOk p := by
    rw [List.all_eq_true]; simp only [upTo_iff, byteOk]
  have hs : s.specs.all specB = true ↔ ∀ x ∈ s.specs, x.ok := by
    rw [List.all_eq_true]; simp only [specB, Bool.and_eq_true, upTo_iff, Spc.ok, byteOk, wordOk]
  have hc : s.calls.all (callB s.n) = true ↔ ∀ c ∈ s.calls, c.ok s.n := by
    rw [List.all_eq_true]; simp only [callB, Bool.and_eq_true, upTo_iff, Cll.ok, byteOk]
    constructor
    · intro h c hm; have := h c hm; exact ⟨⟨this.1.1, by omega⟩, this.2⟩
    · intro h c hm; have := h c hm; exact ⟨⟨this.1.1, by omega⟩, this.2⟩
  by_cases h1 : s.n < 1 ∨ 16 < s.n
  · rw [if_pos h1]; constructor
    · intro h; omega
    · intro h; omega
  · rw [if_neg h1]
    by_cases h2 : 8 < s.specs.length ∨ 1000 < s.calls.length ∨ 65536 < s.picks.length
    · rw [if_pos h2]; constructor
      · intro h; omega
      · intro h; omega
    · rw [if_neg h2]
      by_cases h3 : okB s = true
      · rw [if_pos h3]
        unfold okB at h3
        simp only [Bool.and_eq_true] at h3
        exact ⟨fun _ => ⟨by omega, by omega, by omega, by omega, hs.1 h3.2.1, hc.1 h3.2.2, hp.1 h3.1⟩, fun _ => rfl⟩
      · rw [if_neg h3]
        constructor
        · intro h; omega
        · intro h
          refine absurd ?_ h3
          unfold okB
          rw [hp.2 h.2.2.2.2.2.2, hs.2 h.2.2.2.2.1, hc.2 h.2.2.2.2.2.1]; rfl

theorem all_take_succ {α : Type} (d : α) (p : α → Bool) (l : List α) (j : Nat) (h : j < l.length) : (l.take (j + 1)).all p = ((l.take j).all p && p (nthD d l j)) := by
  rw [takeD_snoc d l j h, List.all_append]; simp

theorem all_no {α : Type} (d : α) (p : α → Bool) (l : List α) (j : Nat) (h : j < l.length) (hp : p (nthD d l j) = false) : l.all p = false := by
  rw [List.all_eq_false]; exact ⟨nthD d l j, nthD_mem d l j h, by rw [hp]; decide⟩

theorem nth_nthD (l : List Int) (i : Nat) : nthD 0 l i = nth l i := rfl

set_option maxHeartbeats 400000 in
theorem within_any (to : Int) (a : Option Addr) (n cap : Nat) (l : List Int) (w : World) (hn : n = l.length) (hs : IsInts .i64 w a l) (hlen : l.length ≤ 9223372036854775807) :
    Calls Tryd.prog 47 #[.int .i64 to, .slice a n cap] w fun e w' => e = .returned (.bool (l.all (upTo to))) ∧ w' = w := by
  subst hn
  have HS := Lib.hid hs; clear hs
  go_enter Tryd.func47, Tryd.ntmps47
  go_wp2
  go_loop [9] (fun k => ∃ j : Nat, j ≤ l.length ∧ k = .int .i64 j ∧ Hid ((l.take j).all (upTo to) = true)) (fun k => l.length - (intOf k).toNat)
  case atStart => exact ⟨0, Nat.zero_le _, rfl, Lib.hid (by simp)⟩
  case round =>
    obtain ⟨j, hj, rfl, HJ⟩ := hrel
    by_cases hlt : j < l.length
    · have H1 := Lib.hid (all_take_succ 0 (upTo to) l j hlt)
      have H2 := Lib.hid (fun hp => all_no 0 (upTo to) l j hlt hp)
      rw [nth_nthD] at H1 H2
      obtain ⟨b, off, rfl, hc⟩ := HS.out.at hlt
      generalize nth l j = x at *
      by_cases h1 : x < 0
      · have HF : Hid (l.all (upTo to) = false) := Lib.hid (H2.out (by unfold upTo; rw [decide_eq_false (by omega)]; rfl))
        go_wp2
        go_ret
        exact ⟨by rw [HF.out]; rfl, rfl⟩
      · by_cases h2 : to < x
        · have HF : Hid (l.all (upTo to) = false) := Lib.hid (H2.out (by unfold upTo; rw [decide_eq_false (by omega : ¬ x ≤ to), Bool.and_false]))
          go_wp2
          go_ret
          exact ⟨by rw [HF.out]; rfl, rfl⟩
        · have HT : Hid ((l.take (j + 1)).all (upTo to) = true) := Lib.hid (by rw [H1.out, HJ.out]; unfold upTo; rw [decide_eq_true (by omega), decide_eq_true (by omega)]; rfl)
          go_wp2
          go_round
          case rel => exact ⟨j + 1, by omega, by go_num, HT⟩
          case measure => simp [intOf]; omega
    · go_wp2
      go_ret
      have hje : j = l.length := by omega
      subst hje
      have := HJ.out
      rw [List.take_length] at this
      exact ⟨by rw [this]; rfl, rfl⟩

end Go.Proofs.YtcfbcffmlinlaaaDoor
