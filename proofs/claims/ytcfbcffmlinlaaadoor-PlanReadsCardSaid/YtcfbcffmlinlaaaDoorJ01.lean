/-
  Lists, no program in sight: the element at a place, as one word.
  Small words for all walks of this seat: a slice that reads as a list of integers, a world that only has more than it had.
  Strings as lists of bytes, for the walks.
  A play's script as bytes, no program in sight: what is written is read as it was, and what is read is written in the same bytes.
  Picks as runs, and a whole script as bytes: no program in sight.
-/
import Derived.WalkKit
import Derived.WalkSpells
import Derived.WalkLawsBesides
import Derived.BigQuiet
import Derived.Deep.QuietTactic
import Derived.Lib.Hide
set_option linter.unusedVariables false
namespace Go.Proofs.YtcfbcffmlinlaaaDoor

/-- The element at a place; 0 beyond the end. -/
def nth (l : List Int) (i : Nat) : Int := l.getD i 0

theorem nth_cons_zero (x : Int) (l : List Int) : nth (x :: l) 0 = x := rfl
theorem nth_cons_succ (x : Int) (l : List Int) (i : Nat) : nth (x :: l) (i + 1) = nth l i := by simp [nth]
theorem nth_getElem (l : List Int) (i : Nat) (h : i < l.length) : l[i] = nth l i := by simp [nth, List.getElem?_eq_getElem h]
theorem getElem?_nth (l : List Int) (i : Nat) (h : i < l.length) : l[i]? = some (nth l i) := by rw [List.getElem?_eq_getElem h, nth_getElem l i h]
theorem take_snoc (l : List Int) (k : Nat) (h : k < l.length) : l.take (k + 1) = l.take k ++ [nth l k] := by
  rw [List.take_succ_eq_append_getElem h, nth_getElem]
theorem drop_cons (l : List Int) (k : Nat) (h : k < l.length) : l.drop k = nth l k :: l.drop (k + 1) := by
  rw [List.drop_eq_getElem_cons h, nth_getElem]
theorem nth_append_left (a b : List Int) (i : Nat) (h : i < a.length) : nth (a ++ b) i = nth a i := by
  simp [nth, List.getElem?_append_left h]
theorem nth_append_at (a b : List Int) (x : Int) : nth (a ++ x :: b) a.length = x := by simp [nth]
theorem nth_ext {a b : List Int} (hl : a.length = b.length) (h : ∀ i, i < a.length → nth a i = nth b i) : a = b := by
  apply List.ext_getElem hl
  intro i h1 h2
  rw [nth_getElem a i h1, nth_getElem b i h2]; exact h i h1
theorem nth_mem (l : List Int) (i : Nat) (h : i < l.length) : nth l i ∈ l := by rw [← nth_getElem l i h]; exact List.getElem_mem h

/-- The element at a place of a list of whatever make; d beyond the end. -/
def nthD {α : Type} (d : α) (l : List α) (i : Nat) : α := l.getD i d
section
variable {α : Type} (d : α)
theorem nthD_getElem (l : List α) (i : Nat) (h : i < l.length) : l[i] = nthD d l i := by simp [nthD, List.getElem?_eq_getElem h]
theorem getElem?_nthD (l : List α) (i : Nat) (h : i < l.length) : l[i]? = some (nthD d l i) := by rw [List.getElem?_eq_getElem h, nthD_getElem d l i h]
theorem takeD_snoc (l : List α) (k : Nat) (h : k < l.length) : l.take (k + 1) = l.take k ++ [nthD d l k] := by
  rw [List.take_succ_eq_append_getElem h, nthD_getElem d]
theorem dropD_cons (l : List α) (k : Nat) (h : k < l.length) : l.drop k = nthD d l k :: l.drop (k + 1) := by
  rw [List.drop_eq_getElem_cons h, nthD_getElem d]
theorem nthD_append_left (a b : List α) (i : Nat) (h : i < a.length) : nthD d (a ++ b) i = nthD d a i := by
  simp [nthD, List.getElem?_append_left h]
theorem nthD_append_right (a b : List α) (i : Nat) : nthD d (a ++ b) (a.length + i) = nthD d b i := by
  simp [nthD, List.getElem?_append_right]
theorem nthD_append_at (a b : List α) (x : α) : nthD d (a ++ x :: b) a.length = x := by simp [nthD]
theorem nthD_cons_zero (x : α) (l : List α) : nthD d (x :: l) 0 = x := rfl
theorem nthD_cons_succ (x : α) (l : List α) (i : Nat) : nthD d (x :: l) (i + 1) = nthD d l i := by simp [nthD]
theorem nthD_mem (l : List α) (i : Nat) (h : i < l.length) : nthD d l i ∈ l := by rw [← nthD_getElem d l i h]; exact List.getElem_mem h
theorem nthD_ext {a b : List α} (hl : a.length = b.length) (h : ∀ i, i < a.length → nthD d a i = nthD d b i) : a = b := by
  apply List.ext_getElem hl
  intro i h1 h2
  rw [nthD_getElem d a i h1, nthD_getElem d b i h2]; exact h i h1
end

end Go.Proofs.YtcfbcffmlinlaaaDoor

namespace Go.Proofs.YtcfbcffmlinlaaaDoor
open Go.RowKit

/-- All that was there is as it was. -/
def Ext (w w' : World) : Prop := Below w.heap.size w w'

theorem Ext.refl (w : World) : Ext w w := Below.refl _ _
theorem Ext.trans {a b c : World} (h : Ext a b) (k : Ext b c) : Ext a c := Below.trans h (Below.mono k h.size)
theorem Ext.drew {a w : World} (h : Ext a w) : Ext a w.drew := Below.drew h
theorem Ext.alloc {a w : World} (h : Ext a w) (o : Obj) : Ext a (w.alloc o) := Below.alloc h h.size o
theorem Ext.drewN {a w : World} (h : Ext a w) (n : Nat) : Ext a (w.drewN n) := h.trans ⟨rfl, rfl, rfl, Nat.le_refl _, fun _ _ => rfl⟩
theorem ext_of_below {a b c : World} (h : Below a.heap.size a b) (k : Below a.heap.size b c) : Ext a c := Below.trans h k
theorem Ext.cell {w w' : World} (h : Ext w w') {a : Addr} {v : Value} (hc : w.cell? a = some v) : w'.cell? a = some v :=
  (Below.cell h (World.block_lt_of_cell? w a hc)).trans hc

theorem addr_add (g o j : Nat) : (⟨g, o, none⟩ : Addr).add j = ⟨g, o + j, none⟩ := by unfold Addr.add; split <;> simp_all

/-- The slice value at a reads as zs (its length is zs.length, its kind k). -/
def IsInts (k : IntKind) (w : World) (a : Option Addr) (zs : List Int) : Prop :=
  zs = [] ∨ ∃ b off, a = some ⟨b, off, none⟩ ∧ ∀ i, i < zs.length → w.cell? ⟨b, off + i, none⟩ = some (.int k (nth zs i))

theorem IsInts.ext {k : IntKind} {w w' : World} {a : Option Addr} {zs : List Int} (h : IsInts k w a zs) (he : Ext w w') : IsInts k w' a zs := by
  rcases h with h | ⟨b, off, ha, hc⟩
  · exact .inl h
  · exact .inr ⟨b, off, ha, fun i hi => he.cell (hc i hi)⟩

theorem IsInts.nil (k : IntKind) (w : World) (a : Option Addr) : IsInts k w a [] := .inl rfl

theorem IsInts.at {k : IntKind} {w : World} {a : Option Addr} {zs : List Int} (h : IsInts k w a zs) {i : Nat} (hi : i < zs.length) :
    ∃ b off, a = some ⟨b, off, none⟩ ∧ w.cell? ⟨b, off + i, none⟩ = some (.int k (nth zs i)) := by
  rcases h with rfl | ⟨b, off, ha, hc⟩
  · simp at hi
  · exact ⟨b, off, ha, hc i hi⟩

theorem ints_fresh (k : IntKind) (w : World) (zs : List Int) (cs : Array Value) (hcs : cs = (zs.map (Value.int k)).toArray) (E : TypeId) (g : Nat) (hg : g = w.heap.size) :
    IsInts k (w.alloc (.cells cs E)) (some ⟨g, 0, none⟩) zs := by
  refine .inr ⟨g, 0, rfl, fun i hi => ?_⟩
  rw [World.cell?_alloc_at _ _ _ _ hg, hcs]
  simp [nth, List.getElem?_eq_getElem hi]

end Go.Proofs.YtcfbcffmlinlaaaDoor

namespace Go.Proofs.YtcfbcffmlinlaaaDoor
open Go.RowKit

/-- The string of these bytes. -/
def St (l : List UInt8) : ByteArray := ⟨l.toArray⟩

@[go_sem] theorem lit_St (l : List UInt8) : ByteArray.mk l.toArray = St l := rfl
@[go_sem] theorem St_app (a b : List UInt8) : St a ++ St b = St (a ++ b) := by
  apply ByteArray.ext
  show (St a ++ St b).data = (a ++ b).toArray
  rw [ByteArray.data_append]
  simp [St]
@[go_sem] theorem St_size (l : List UInt8) : (St l).size = l.length := by simp [St, ByteArray.size]
theorem St_list (l : List UInt8) : (St l).data.toList = l := by simp [St]
theorem St_of (s : ByteArray) : ∃ l, s = St l := ⟨s.data.toList, by unfold St; simp⟩
theorem St_inj {a b : List UInt8} (h : St a = St b) : a = b := by
  have := congrArg (fun s => s.data.toList) h
  simpa [St_list] using this
@[go_sem] theorem St_toList (l : List UInt8) : (St l).toList = l := ByteArray.toList_mk l
theorem vs {a b : List UInt8} (h : a = b) : Value.string (St a) = Value.string (St b) := by rw [h]
theorem ret_str {a b : List UInt8} (h : a = b) : Ending.returned (.string (St a)) = .returned (.string (St b)) := by rw [h]
@[go_sem] theorem St_get (l : List UInt8) (k : Nat) (h : k < (St l).size) : (St l)[k] = l[k]'(by rw [St_size] at h; exact h) := by
  show (St l).data[k] = _
  simp [St]

theorem enc_small (n : Int) (h0 : 0 ≤ n) (h1 : n < 128) : Utf8.encode n = St [UInt8.ofNat n.toNat] := by
  obtain ⟨m, rfl⟩ := Int.eq_ofNat_of_zero_le h0
  have hm : m < 128 := by omega
  have v : Utf8.valid (m : Int) = true := by simp [Utf8.valid]; omega
  simp [Utf8.encode, v, hm, St]

end Go.Proofs.YtcfbcffmlinlaaaDoor

namespace Go.Proofs.YtcfbcffmlinlaaaDoor

structure Spc where
  kind : Int
  p : Int
  q : Int
structure Cll where
  thread : Int
  obj : Int
  kind : Int
  a : Int
  b : Int
  c : Int
structure Scr where
  n : Int
  specs : List Spc
  calls : List Cll
  picks : List Int

def byteOk (x : Int) : Prop := 0 ≤ x ∧ x ≤ 255
def wordOk (x : Int) : Prop := 0 ≤ x ∧ x ≤ 65535
def u64Ok (x : Int) : Prop := 0 ≤ x ∧ x < 18446744073709551616
def Spc.ok (s : Spc) : Prop := byteOk s.kind ∧ wordOk s.p ∧ wordOk s.q
def Cll.ok (n : Int) (c : Cll) : Prop := (0 ≤ c.thread ∧ c.thread < n) ∧ byteOk c.obj ∧ byteOk c.kind
def Cll.wide (c : Cll) : Prop := u64Ok c.a ∧ u64Ok c.b ∧ u64Ok c.c
/-- A script that may be written. -/
def Scr.ok (s : Scr) : Prop := (1 ≤ s.n ∧ s.n ≤ 16) ∧ s.specs.length ≤ 8 ∧ s.calls.length ≤ 1000 ∧ s.picks.length ≤ 65536 ∧ (∀ x ∈ s.specs, x.ok) ∧ (∀ c ∈ s.calls, c.ok s.n) ∧ ∀ p ∈ s.picks, byteOk p
/-- Its numbers fit their words. -/
def Scr.wide (s : Scr) : Prop := ∀ c ∈ s.calls, c.wide

/-! ### Numbers -/

/-- a number in as few bytes as can be. -/
def numB : Nat → Int → List Int
  | 0, x => [x]
  | f + 1, x => if x ≤ 127 then [x] else (128 + x % 128) :: numB f (x / 128)

/-- the next number: its bits from 7·i on are still to come. -/
def pNum : Nat → Int → Int → List Int → Option (Int × List Int)
  | _, _, _, [] => none
  | i, w, acc, x :: r =>
    if (9 ≤ i ∧ 1 < x) ∨ (x = 0 ∧ i ≠ 0) then none
    else if x ≤ 127 then some (acc + x * w, r) else pNum (i + 1) (w * 128) (acc + x % 128 * w) r

def weight (i : Nat) : Int := (128 : Int) ^ i
theorem weight_zero : weight 0 = 1 := rfl
theorem weight_succ (i : Nat) : weight (i + 1) = weight i * 128 := Int.pow_succ 128 i
theorem weight_pos (i : Nat) : 0 < weight i := by
  induction i with
  | zero => decide
  | succ i ih => rw [weight_succ]; omega

theorem weight_nine : weight 9 = 9223372036854775808 := by decide

theorem weight_mono {i j : Nat} (h : i ≤ j) : weight i ≤ weight j := by
  induction j with
  | zero => have : i = 0 := by omega
            subst this; omega
  | succ j ih =>
    by_cases hj : i = j + 1
    · subst hj; omega
    · have := ih (by omega)
      have := weight_pos j
      rw [weight_succ]; omega

theorem pNum_numB (f : Nat) : ∀ (i : Nat) (x acc : Int) (r : List Int), 10 ≤ f + i → 0 ≤ x → x * weight i < 18446744073709551616 → (x ≠ 0 ∨ i = 0) →
    pNum i (weight i) acc (numB f x ++ r) = some (acc + x * weight i, r) := by
  induction f with
  | zero =>
    intro i x acc r hf h0 hb hz
    have h10 := weight_mono (show 10 ≤ i by omega)
    have e10 : weight 10 = 1180591620717411303424 := by decide
    have hx : x = 0 := by
      by_cases h : x = 0
      · exact h
      · have : weight i ≤ x * weight i := by
          have := Int.mul_le_mul_of_nonneg_right (show 1 ≤ x by omega) (Int.le_of_lt (weight_pos i))
          omega
        omega
    omega
  | succ f ih =>
    intro i x acc r hf h0 hb hz
    have h9 : 9 ≤ i → x ≤ 1 := by
      intro h
      have hw := weight_mono h
      rw [weight_nine] at hw
      by_cases hx : x ≤ 1
      · exact hx
      · have := Int.mul_le_mul_of_nonneg_right (show 2 ≤ x by omega) (Int.le_of_lt (weight_pos i))
        omega
    unfold numB
    by_cases hx : x ≤ 127
    · rw [if_pos hx]
      simp only [List.singleton_append, pNum]
      rw [if_neg (by omega), if_pos hx]
    · rw [if_neg hx]
      simp only [List.cons_append, pNum]
      have hm : 0 ≤ x % 128 ∧ x % 128 < 128 := ⟨Int.emod_nonneg _ (by decide), Int.emod_lt_of_pos _ (by decide)⟩
      have hd : x = 128 * (x / 128) + x % 128 := (Int.mul_ediv_add_emod x 128).symm
      have hi : ¬ 9 ≤ i := fun h => by have := h9 h; omega
      rw [if_neg (by omega), if_neg (by omega)]
      have hmm : (128 + x % 128) % 128 = x % 128 := by omega
      rw [hmm, ← weight_succ]
      have e : x * weight i = x % 128 * weight i + x / 128 * weight (i + 1) := by
        rw [weight_succ, Int.mul_comm (weight i) 128, ← Int.mul_assoc, ← Int.add_mul]
        congr 1; omega
      have hp := weight_pos i
      have hnn : 0 ≤ x % 128 * weight i := Int.mul_nonneg hm.1 (Int.le_of_lt hp)
      rw [ih (i + 1) (x / 128) (acc + x % 128 * weight i) r (by omega) (by omega) (by omega) (by omega), e]
      congr 2; omega

theorem numB_len (f : Nat) : ∀ x, 1 ≤ (numB f x).length ∧ (numB f x).length ≤ f + 1 := by
  induction f with
  | zero => intro x; simp [numB]
  | succ f ih =>
    intro x; unfold numB; split
    · simp
    · have := ih (x / 128); simp; omega

theorem numB_bytes (f : Nat) : ∀ (i : Nat) (x : Int), 10 ≤ f + i → 0 ≤ x → x * weight i < 18446744073709551616 → ∀ b ∈ numB f x, byteOk b := by
  induction f with
  | zero =>
    intro i x hf h0 hb b hm
    have h10 := weight_mono (show 10 ≤ i by omega)
    have e10 : weight 10 = 1180591620717411303424 := by decide
    have hx : x = 0 := by
      by_cases h : x = 0
      · exact h
      · have := Int.mul_le_mul_of_nonneg_right (show 1 ≤ x by omega) (Int.le_of_lt (weight_pos i))
        omega
    simp [numB] at hm; subst hm; unfold byteOk; omega
  | succ f ih =>
    intro i x hf h0 hb b hm
    unfold numB at hm
    by_cases hx : x ≤ 127
    · rw [if_pos hx] at hm; simp at hm; subst hm; unfold byteOk; omega
    · rw [if_neg hx] at hm
      have hmo : 0 ≤ x % 128 ∧ x % 128 < 128 := ⟨Int.emod_nonneg _ (by decide), Int.emod_lt_of_pos _ (by decide)⟩
      rcases List.mem_cons.1 hm with rfl | hm
      · unfold byteOk; omega
      · refine ih (i + 1) (x / 128) (by omega) (by omega) ?_ b hm
        have hd : x = 128 * (x / 128) + x % 128 := (Int.mul_ediv_add_emod x 128).symm
        have hp := weight_pos i
        have e : x * weight i = x % 128 * weight i + x / 128 * weight (i + 1) := by
          rw [weight_succ, Int.mul_comm (weight i) 128, ← Int.mul_assoc, ← Int.add_mul]
          congr 1; omega
        have hnn : 0 ≤ x % 128 * weight i := Int.mul_nonneg hmo.1 (Int.le_of_lt hp)
        omega

theorem pNum_back (l : List Int) : ∀ (i : Nat) (acc v : Int) (r : List Int), i ≤ 9 → (∀ b ∈ l, byteOk b) → pNum i (weight i) acc l = some (v, r) →
    ∃ x, l = numB (10 - i) x ++ r ∧ v = acc + x * weight i ∧ 0 ≤ x ∧ (x ≠ 0 ∨ i = 0) ∧ x * weight i + weight i ≤ 18446744073709551616 := by
  induction l with
  | nil => intro i acc v r _ _ h; simp [pNum] at h
  | cons x l ih =>
    intro i acc v r hi hb h
    have hx : byteOk x := hb x List.mem_cons_self
    unfold byteOk at hx
    simp only [pNum] at h
    by_cases hbad : (9 ≤ i ∧ 1 < x) ∨ (x = 0 ∧ i ≠ 0)
    · rw [if_pos hbad] at h; cases h
    · rw [if_neg hbad] at h
      have hf : 10 - i = (9 - i) + 1 := by omega
      by_cases hs : x ≤ 127
      · rw [if_pos hs] at h
        cases h
        refine ⟨x, ?_, rfl, hx.1, by omega, ?_⟩
        · rw [hf]; unfold numB; rw [if_pos hs]; rfl
        · by_cases h9 : i = 9
          · subst h9; rw [weight_nine]; omega
          · have h8 := weight_mono (show i ≤ 8 by omega)
            have e8 : weight 8 = 72057594037927936 := by decide
            have := Int.mul_le_mul_of_nonneg_right (show x ≤ 127 by omega) (Int.le_of_lt (weight_pos i))
            omega
      · rw [if_neg hs, ← weight_succ] at h
        have hi9 : i ≠ 9 := by omega
        obtain ⟨y, hy1, hy2, hy3, hy4, hy5⟩ := ih (i + 1) _ v r (by omega) (fun b h => hb b (List.mem_cons_of_mem _ h)) h
        have hm : 0 ≤ x % 128 ∧ x % 128 < 128 := ⟨Int.emod_nonneg _ (by decide), Int.emod_lt_of_pos _ (by decide)⟩
        have hy0 : 1 ≤ y := by omega
        refine ⟨x % 128 + 128 * y, ?_, ?_, by omega, .inl (by omega), ?_⟩
        · rw [hf]; unfold numB
          rw [if_neg (by omega)]
          have e1 : (x % 128 + 128 * y) % 128 = x % 128 := by omega
          have e2 : (x % 128 + 128 * y) / 128 = y := by omega
          have e3 : 128 + x % 128 = x := by omega
          have e4 : 9 - i = 10 - (i + 1) := by omega
          rw [e1, e2, e3, hy1, e4]; rfl
        · rw [hy2, weight_succ, Int.add_mul, Int.mul_comm (weight i) 128, ← Int.mul_assoc, Int.mul_comm y 128]; omega
        · rw [weight_succ, Int.mul_comm (weight i) 128, ← Int.mul_assoc, Int.mul_comm y 128] at hy5
          rw [Int.add_mul]
          have hp := weight_pos i
          have : x % 128 * weight i ≤ 127 * weight i := Int.mul_le_mul_of_nonneg_right (by omega) (Int.le_of_lt hp)
          omega

end Go.Proofs.YtcfbcffmlinlaaaDoor

namespace Go.Proofs.YtcfbcffmlinlaaaDoor

/-- how many of the first k are x. -/
def lead (x : Int) : List Int → Nat → Nat
  | _, 0 => 0
  | [], _ + 1 => 0
  | y :: r, k + 1 => if y = x then lead x r k + 1 else 0

theorem lead_le (x : Int) (l : List Int) : ∀ k, lead x l k ≤ k ∧ lead x l k ≤ l.length := by
  induction l with
  | nil => intro k; cases k <;> simp [lead]
  | cons y r ih =>
    intro k
    cases k with
    | zero => simp [lead]
    | succ k =>
      have := ih k
      unfold lead; split <;> simp <;> omega

theorem lead_take (x : Int) (l : List Int) : ∀ k, l.take (lead x l k) = List.replicate (lead x l k) x := by
  induction l with
  | nil => intro k; cases k <;> simp [lead]
  | cons y r ih =>
    intro k
    cases k with
    | zero => simp [lead]
    | succ k =>
      unfold lead
      split
      · rename_i h; subst h; simp [List.replicate_succ, ih k]
      · simp

theorem lead_split (x : Int) (l : List Int) (k : Nat) : l = List.replicate (lead x l k) x ++ l.drop (lead x l k) := by
  conv => lhs; rw [← List.take_append_drop (lead x l k) l]
  rw [lead_take]

theorem lead_max (x : Int) (l : List Int) : ∀ k, lead x l k < k → (l.drop (lead x l k)).head? ≠ some x := by
  induction l with
  | nil => intro k _; simp
  | cons y r ih =>
    intro k h
    cases k with
    | zero => omega
    | succ k =>
      unfold lead at h ⊢
      by_cases hy : y = x
      · rw [if_pos hy] at h ⊢
        simpa using ih k (by omega)
      · rw [if_neg hy]; simp [hy]

theorem lead_rep (x : Int) (l : List Int) (m : Nat) : ∀ k, m ≤ k → (k = m ∨ l.head? ≠ some x) → lead x (List.replicate m x ++ l) k = m := by
  induction m with
  | zero =>
    intro k _ h
    simp only [List.replicate_zero, List.nil_append]
    rcases h with rfl | h
    · cases l <;> rfl
    · cases l with
      | nil => cases k <;> rfl
      | cons y r =>
        cases k with
        | zero => rfl
        | succ k => unfold lead; rw [if_neg (by simpa using h)]
  | succ m ih =>
    intro k hk h
    obtain ⟨k, rfl⟩ : ∃ j, k = j + 1 := ⟨k - 1, by omega⟩
    simp only [List.replicate_succ, List.cons_append]
    unfold lead
    rw [if_pos rfl, ih k (by omega) (by rcases h with h | h; exact .inl (by omega); exact .inr h)]

/-- picks as runs. -/
def encRuns : Nat → List Int → List Int
  | 0, _ => []
  | _ + 1, [] => []
  | f + 1, x :: r => x :: (((lead x r 254 : Nat) : Int) + 1) :: encRuns f (r.drop (lead x r 254))

theorem encRuns_fuel (f : Nat) : ∀ (g : Nat) (l : List Int), l.length ≤ f → l.length ≤ g → encRuns f l = encRuns g l := by
  induction f with
  | zero =>
    intro g l h1 h2
    have : l = [] := List.length_eq_zero_iff.1 (by omega)
    subst this; cases g <;> rfl
  | succ f ih =>
    intro g l h1 h2
    cases l with
    | nil => cases g <;> rfl
    | cons x r =>
      cases g with
      | zero => simp at h2
      | succ g =>
        simp only [encRuns]
        have hl : (r.drop (lead x r 254)).length ≤ r.length := by rw [List.length_drop]; omega
        simp at h1 h2
        rw [ih g _ (by omega) (by omega)]

/-- runs that are read up to the end. -/
def pPicks (thread : Int) (full : Bool) (out : List Int) : List Int → Option (List Int)
  | [] => some out
  | [_] => none
  | p :: n :: r => if 1 ≤ n ∧ (p ≠ thread ∨ full = true) ∧ n ≤ 65536 - (out.length : Int) then pPicks p (n == 255) (out ++ List.replicate n.toNat p) r else none

theorem pPicks_enc (f : Nat) : ∀ (l : List Int) (thread : Int) (full : Bool) (out : List Int), l.length ≤ f → out.length + l.length ≤ 65536 → (l.head? ≠ some thread ∨ full = true) →
    pPicks thread full out (encRuns f l) = some (out ++ l) := by
  induction f with
  | zero =>
    intro l thread full out h _ _
    have : l = [] := List.length_eq_zero_iff.1 (by omega)
    subst this; simp [encRuns, pPicks]
  | succ f ih =>
    intro l thread full out h1 h2 h3
    cases l with
    | nil => simp [encRuns, pPicks]
    | cons x r =>
      simp only [encRuns, pPicks]
      have hl := lead_le x r 254
      simp at h1 h2
      have hc : (1 : Int) ≤ ((lead x r 254 : Nat) : Int) + 1 ∧ (x ≠ thread ∨ full = true) ∧ ((lead x r 254 : Nat) : Int) + 1 ≤ 65536 - (out.length : Int) := by
        refine ⟨by omega, ?_, by omega⟩
        rcases h3 with h | h
        · exact .inl (by simpa using h)
        · exact .inr h
      rw [if_pos hc]
      have et : (((lead x r 254 : Nat) : Int) + 1).toNat = lead x r 254 + 1 := by omega
      rw [et]
      have hd : (r.drop (lead x r 254)).length = r.length - lead x r 254 := List.length_drop
      rw [ih (r.drop (lead x r 254)) x _ _ (by omega) (by rw [List.length_append, List.length_replicate]; omega) ?_]
      · have e := lead_split x r 254
        rw [List.append_assoc, List.replicate_succ, List.cons_append]
        congr 2
        rw [← e]
      · by_cases h254 : lead x r 254 < 254
        · exact .inl (lead_max x r 254 h254)
        · right
          have : lead x r 254 = 254 := by omega
          rw [this]; rfl

theorem pPicks_back (m : Nat) : ∀ (l : List Int) (thread : Int) (full : Bool) (out res : List Int), l.length ≤ m → (∀ b ∈ l, byteOk b) → out.length ≤ 65536 → pPicks thread full out l = some res →
    ∃ ps, res = out ++ ps ∧ encRuns ps.length ps = l ∧ (ps.head? ≠ some thread ∨ full = true) ∧ (∀ p ∈ ps, byteOk p) ∧ out.length + ps.length ≤ 65536 := by
  induction m with
  | zero =>
    intro l thread full out res h _ ho hp
    have : l = [] := List.length_eq_zero_iff.1 (by omega)
    subst this
    simp [pPicks] at hp; subst hp
    exact ⟨[], by simp, rfl, .inl (by simp), (by intro p hp; cases hp), by simpa using ho⟩
  | succ m ih =>
    intro l thread full out res h hb ho hp
    match l, h, hb, hp with
    | [], _, _, hp =>
      simp [pPicks] at hp; subst hp
      exact ⟨[], by simp, rfl, .inl (by simp), (by intro p hp; cases hp), by simpa using ho⟩
    | [_], _, _, hp => simp [pPicks] at hp
    | p :: n :: r, h, hb, hp =>
      simp only [pPicks] at hp
      by_cases hc : 1 ≤ n ∧ (p ≠ thread ∨ full = true) ∧ n ≤ 65536 - (out.length : Int)
      · rw [if_pos hc] at hp
        have bn := hb n (by simp)
        have bp := hb p (by simp)
        unfold byteOk at bn
        simp at h
        obtain ⟨ps, h1, h2, h3, h4, h5⟩ := ih r p (n == 255) _ res (by omega) (fun b hm => hb b (by simp [hm])) (by rw [List.length_append, List.length_replicate]; omega) hp
        rw [List.length_append, List.length_replicate] at h5
        obtain ⟨k, hk⟩ : ∃ k : Nat, n = (k : Int) + 1 := ⟨(n - 1).toNat, by omega⟩
        have hkn : n.toNat = k + 1 := by omega
        have hlead : lead p (List.replicate k p ++ ps) 254 = k := by
          refine lead_rep p ps k 254 (by omega) ?_
          rcases h3 with h3 | h3
          · exact .inr h3
          · left; simp at h3; omega
        refine ⟨List.replicate (k + 1) p ++ ps, ?_, ?_, ?_, ?_, ?_⟩
        · rw [h1, hkn, List.append_assoc]
        · simp only [List.replicate_succ, List.cons_append, List.length_cons, encRuns, hlead]
          have hdrop : (List.replicate k p ++ ps).drop k = ps := by
            rw [List.drop_append_of_le_length (by simp)]; simp
          rw [hdrop, ← hk]
          rw [encRuns_fuel _ ps.length ps (by rw [List.length_append]; omega) (Nat.le_refl _), h2]
        · rcases hc.2.1 with hc | hc
          · left; simp [List.replicate_succ]; exact hc
          · exact .inr hc
        · intro q hq
          rcases List.mem_append.1 hq with hq | hq
          · rw [(List.mem_replicate.1 hq).2]; exact bp
          · exact h4 q hq
        · rw [List.length_append, List.length_replicate]; omega
      · rw [if_neg hc] at hp; cases hp

/-! ### The whole script -/

def encTwo (n : Int) : List Int := [n / 256, n % 256]
def encSpec (s : Spc) : List Int := s.kind :: (encTwo s.p ++ encTwo s.q)
def encCall (c : Cll) : List Int := c.thread :: c.obj :: c.kind :: (numB 10 c.a ++ (numB 10 c.b ++ numB 10 c.c))
def encS (s : Scr) : List Int := s.n :: (s.specs.length : Int) :: (s.specs.flatMap encSpec ++ (encTwo s.calls.length ++ (s.calls.flatMap encCall ++ encRuns s.picks.length s.picks)))

def pTwo : List Int → Option (Int × List Int)
  | h :: l :: r => some (256 * h + l, r)
  | _ => none
def pSpec : List Int → Option (Spc × List Int)
  | [] => none
  | k :: l => match pTwo l with
    | none => none
    | some (p, l) => match pTwo l with
      | none => none
      | some (q, l) => some (⟨k, p, q⟩, l)
def pSpecs : Nat → List Int → Option (List Spc × List Int)
  | 0, l => some ([], l)
  | k + 1, l => match pSpec l with
    | none => none
    | some (s, l) => match pSpecs k l with
      | none => none
      | some (ss, l) => some (s :: ss, l)
def pCall (n : Int) : List Int → Option (Cll × List Int)
  | t :: o :: k :: l => if t < n then match pNum 0 1 0 l with
      | none => none
      | some (a, l) => match pNum 0 1 0 l with
        | none => none
        | some (b, l) => match pNum 0 1 0 l with
          | none => none
          | some (c, l) => some (⟨t, o, k, a, b, c⟩, l)
    else none
  | _ => none
def pCalls (n : Int) : Nat → List Int → Option (List Cll × List Int)
  | 0, l => some ([], l)
  | k + 1, l => match pCall n l with
    | none => none
    | some (c, l) => match pCalls n k l with
      | none => none
      | some (cs, l) => some (c :: cs, l)
def pS : List Int → Option Scr
  | n :: m :: l => if 1 ≤ n ∧ n ≤ 16 ∧ m ≤ 8 then match pSpecs m.toNat l with
      | none => none
      | some (ss, l) => match pTwo l with
        | none => none
        | some (many, l) => if many ≤ 1000 then match pCalls n many.toNat l with
            | none => none
            | some (cs, l) => match pPicks (-1) true [] l with
              | none => none
              | some ps => some ⟨n, ss, cs, ps⟩
          else none
    else none
  | _ => none

theorem pTwo_enc (n : Int) (r : List Int) : pTwo (encTwo n ++ r) = some (n, r) := by
  unfold encTwo
  simp only [List.cons_append, List.nil_append, pTwo]
  have := Int.mul_ediv_add_emod n 256
  congr 2

theorem pSpecs_enc (ss : List Spc) (r : List Int) : pSpecs ss.length (ss.flatMap encSpec ++ r) = some (ss, r) := by
  induction ss with
  | nil => rfl
  | cons s ss ih =>
    simp only [List.length_cons, pSpecs, List.flatMap_cons, encSpec, List.cons_append, List.append_assoc, pSpec, pTwo_enc, ih]

theorem pNum_start (x : Int) (h : u64Ok x) (r : List Int) : pNum 0 1 0 (numB 10 x ++ r) = some (x, r) := by
  unfold u64Ok at h
  have := pNum_numB 10 0 x 0 r (by omega) h.1 (by rw [weight_zero]; omega) (.inr rfl)
  rw [weight_zero] at this
  rw [this]; congr 2; omega

theorem pCalls_enc (n : Int) (cs : List Cll) (r : List Int) (h : ∀ c ∈ cs, c.ok n) (hw : ∀ c ∈ cs, c.wide) : pCalls n cs.length (cs.flatMap encCall ++ r) = some (cs, r) := by
  induction cs with
  | nil => rfl
  | cons c cs ih =>
    obtain ⟨w1, w2, w3⟩ := hw c List.mem_cons_self
    have ht := (h c List.mem_cons_self).1.2
    simp only [List.length_cons, pCalls, List.flatMap_cons, encCall, List.cons_append, List.append_assoc, pCall, if_pos ht, pNum_start _ w1, pNum_start _ w2, pNum_start _ w3]
    rw [ih (fun c hc => h c (List.mem_cons_of_mem _ hc)) (fun c hc => hw c (List.mem_cons_of_mem _ hc))]

/-- WHAT IS WRITTEN IS READ AS IT WAS. -/
theorem pS_enc (s : Scr) (h : s.ok) (hw : s.wide) : pS (encS s) = some s := by
  obtain ⟨h1, h2, h3, h4, h5, h6, h7⟩ := h
  unfold encS
  simp only [pS]
  rw [if_pos ⟨h1.1, h1.2, by omega⟩, Int.toNat_natCast, pSpecs_enc]
  simp only [pTwo_enc]
  rw [if_pos (by omega), Int.toNat_natCast, pCalls_enc _ _ _ h6 hw]
  simp only
  have hne : s.picks.head? ≠ some (-1) ∨ (true = true) := .inr rfl
  rw [pPicks_enc s.picks.length s.picks (-1) true [] (Nat.le_refl _) (by simpa using h4) hne]
  rfl

theorem pTwo_back {l r : List Int} {v : Int} (hb : ∀ b ∈ l, byteOk b) (h : pTwo l = some (v, r)) : l = encTwo v ++ r ∧ wordOk v ∧ ∀ b ∈ r, byteOk b := by
  match l, hb, h with
  | x :: y :: l, hb, h =>
    simp only [pTwo, Option.some.injEq, Prod.mk.injEq] at h
    obtain ⟨rfl, rfl⟩ := h
    have b1 := hb x (by simp)
    have b2 := hb y (by simp)
    unfold byteOk at b1 b2
    refine ⟨?_, by unfold wordOk; omega, fun b hm => hb b (by simp [hm])⟩
    unfold encTwo
    have e1 : (256 * x + y) / 256 = x := by omega
    have e2 : (256 * x + y) % 256 = y := by omega
    rw [e1, e2]; rfl

theorem pSpec_back {l r : List Int} {s : Spc} (hb : ∀ b ∈ l, byteOk b) (h : pSpec l = some (s, r)) : l = encSpec s ++ r ∧ s.ok ∧ ∀ b ∈ r, byteOk b := by
  cases l with
  | nil => simp [pSpec] at h
  | cons k l =>
    simp only [pSpec] at h
    have hk := hb k (by simp)
    have hb1 : ∀ b ∈ l, byteOk b := fun b hm => hb b (by simp [hm])
    cases h1 : pTwo l with
    | none => rw [h1] at h; cases h
    | some x =>
      obtain ⟨p, l1⟩ := x
      rw [h1] at h
      simp only at h
      obtain ⟨e1, w1, hb2⟩ := pTwo_back hb1 h1
      cases h2 : pTwo l1 with
      | none => rw [h2] at h; cases h
      | some x =>
        obtain ⟨q, l2⟩ := x
        rw [h2] at h
        simp only [Option.some.injEq, Prod.mk.injEq] at h
        obtain ⟨rfl, rfl⟩ := h
        obtain ⟨e2, w2, hb3⟩ := pTwo_back hb2 h2
        exact ⟨by rw [e1, e2]; simp [encSpec], ⟨hk, w1, w2⟩, hb3⟩

theorem pSpecs_back (k : Nat) : ∀ {l r : List Int} {ss : List Spc}, (∀ b ∈ l, byteOk b) → pSpecs k l = some (ss, r) → l = ss.flatMap encSpec ++ r ∧ ss.length = k ∧ (∀ s ∈ ss, s.ok) ∧ ∀ b ∈ r, byteOk b := by
  induction k with
  | zero =>
    intro l r ss hb h
    simp only [pSpecs, Option.some.injEq, Prod.mk.injEq] at h
    obtain ⟨rfl, rfl⟩ := h
    exact ⟨rfl, rfl, (by intro s hs; cases hs), hb⟩
  | succ k ih =>
    intro l r ss hb h
    simp only [pSpecs] at h
    cases h1 : pSpec l with
    | none => rw [h1] at h; cases h
    | some x =>
      obtain ⟨s, l1⟩ := x
      rw [h1] at h
      simp only at h
      obtain ⟨e1, w1, hb2⟩ := pSpec_back hb h1
      cases h2 : pSpecs k l1 with
      | none => rw [h2] at h; cases h
      | some x =>
        obtain ⟨ss', l2⟩ := x
        rw [h2] at h
        simp only [Option.some.injEq, Prod.mk.injEq] at h
        obtain ⟨rfl, rfl⟩ := h
        obtain ⟨e2, hl, w2, hb3⟩ := ih hb2 h2
        refine ⟨by rw [e1, e2]; simp, by simp [hl], ?_, hb3⟩
        intro s' hs
        rcases List.mem_cons.1 hs with rfl | hs
        · exact w1
        · exact w2 s' hs

theorem pNum_first {l r : List Int} {v : Int} (hb : ∀ b ∈ l, byteOk b) (h : pNum 0 1 0 l = some (v, r)) : l = numB 10 v ++ r ∧ u64Ok v ∧ ∀ b ∈ r, byteOk b := by
  obtain ⟨x, h1, h2, h3, _, h5⟩ := pNum_back l 0 0 v r (by omega) hb h
  rw [weight_zero] at h2 h5
  have : v = x := by omega
  subst this
  refine ⟨h1, ⟨h3, by omega⟩, fun b hm => hb b (by rw [h1]; exact List.mem_append_right _ hm)⟩

theorem pCall_back {n : Int} {l r : List Int} {c : Cll} (hb : ∀ b ∈ l, byteOk b) (h : pCall n l = some (c, r)) : l = encCall c ++ r ∧ c.ok n ∧ c.wide ∧ ∀ b ∈ r, byteOk b := by
  match l, hb, h with
  | [], _, h => simp [pCall] at h
  | [_], _, h => simp [pCall] at h
  | [_, _], _, h => simp [pCall] at h
  | t :: o :: k :: l, hb, h =>
    simp only [pCall] at h
    have bt := hb t (by simp)
    have bo := hb o (by simp)
    have bk := hb k (by simp)
    have hb1 : ∀ b ∈ l, byteOk b := fun b hm => hb b (by simp [hm])
    by_cases ht : t < n
    · rw [if_pos ht] at h
      cases h1 : pNum 0 1 0 l with
      | none => rw [h1] at h; cases h
      | some x =>
        obtain ⟨a, l1⟩ := x
        rw [h1] at h; simp only at h
        obtain ⟨e1, w1, hb2⟩ := pNum_first hb1 h1
        cases h2 : pNum 0 1 0 l1 with
        | none => rw [h2] at h; cases h
        | some x =>
          obtain ⟨b, l2⟩ := x
          rw [h2] at h; simp only at h
          obtain ⟨e2, w2, hb3⟩ := pNum_first hb2 h2
          cases h3 : pNum 0 1 0 l2 with
          | none => rw [h3] at h; cases h
          | some x =>
            obtain ⟨c', l3⟩ := x
            rw [h3] at h
            simp only [Option.some.injEq, Prod.mk.injEq] at h
            obtain ⟨rfl, rfl⟩ := h
            obtain ⟨e3, w3, hb4⟩ := pNum_first hb3 h3
            refine ⟨by rw [e1, e2, e3]; simp [encCall], ⟨⟨bt.1, ht⟩, bo, bk⟩, ⟨w1, w2, w3⟩, hb4⟩
    · rw [if_neg ht] at h; cases h

theorem pCalls_back {n : Int} (k : Nat) : ∀ {l r : List Int} {cs : List Cll}, (∀ b ∈ l, byteOk b) → pCalls n k l = some (cs, r) → l = cs.flatMap encCall ++ r ∧ cs.length = k ∧ (∀ c ∈ cs, c.ok n) ∧ (∀ c ∈ cs, c.wide) ∧ ∀ b ∈ r, byteOk b := by
  induction k with
  | zero =>
    intro l r cs hb h
    simp only [pCalls, Option.some.injEq, Prod.mk.injEq] at h
    obtain ⟨rfl, rfl⟩ := h
    exact ⟨rfl, rfl, (by intro s hs; cases hs), (by intro s hs; cases hs), hb⟩
  | succ k ih =>
    intro l r cs hb h
    simp only [pCalls] at h
    cases h1 : pCall n l with
    | none => rw [h1] at h; cases h
    | some x =>
      obtain ⟨c, l1⟩ := x
      rw [h1] at h
      simp only at h
      obtain ⟨e1, w1, v1, hb2⟩ := pCall_back hb h1
      cases h2 : pCalls n k l1 with
      | none => rw [h2] at h; cases h
      | some x =>
        obtain ⟨cs', l2⟩ := x
        rw [h2] at h
        simp only [Option.some.injEq, Prod.mk.injEq] at h
        obtain ⟨rfl, rfl⟩ := h
        obtain ⟨e2, hl, w2, v2, hb3⟩ := ih hb2 h2
        refine ⟨by rw [e1, e2]; simp, by simp [hl], ?_, ?_, hb3⟩
        · intro c' hc
          rcases List.mem_cons.1 hc with rfl | hc
          · exact w1
          · exact w2 c' hc
        · intro c' hc
          rcases List.mem_cons.1 hc with rfl | hc
          · exact v1
          · exact v2 c' hc

/-- WHAT IS READ IS WRITTEN IN THE SAME BYTES. -/
theorem pS_back {l : List Int} {s : Scr} (hb : ∀ b ∈ l, byteOk b) (h : pS l = some s) : encS s = l ∧ s.ok ∧ s.wide := by
  match l, hb, h with
  | [], _, h => simp [pS] at h
  | [_], _, h => simp [pS] at h
  | n :: m :: l, hb, h =>
    simp only [pS] at h
    have bm := hb m (by simp)
    unfold byteOk at bm
    have hb1 : ∀ b ∈ l, byteOk b := fun b hm => hb b (by simp [hm])
    by_cases hn : 1 ≤ n ∧ n ≤ 16 ∧ m ≤ 8
    · rw [if_pos hn] at h
      cases h1 : pSpecs m.toNat l with
      | none => rw [h1] at h; cases h
      | some x =>
        obtain ⟨ss, l1⟩ := x
        rw [h1] at h; simp only at h
        obtain ⟨e1, hl1, w1, hb2⟩ := pSpecs_back _ hb1 h1
        cases h2 : pTwo l1 with
        | none => rw [h2] at h; cases h
        | some x =>
          obtain ⟨many, l2⟩ := x
          rw [h2] at h; simp only at h
          obtain ⟨e2, w2, hb3⟩ := pTwo_back hb2 h2
          unfold wordOk at w2
          by_cases hm : many ≤ 1000
          · rw [if_pos hm] at h
            cases h3 : pCalls n many.toNat l2 with
            | none => rw [h3] at h; cases h
            | some x =>
              obtain ⟨cs, l3⟩ := x
              rw [h3] at h; simp only at h
              obtain ⟨e3, hl3, w3, v3, hb4⟩ := pCalls_back _ hb3 h3
              cases h4 : pPicks (-1) true [] l3 with
              | none => rw [h4] at h; cases h
              | some ps =>
                rw [h4] at h
                simp only [Option.some.injEq] at h
                subst h
                obtain ⟨ps', q1, q2, _, q4, q5⟩ := pPicks_back l3.length l3 (-1) true [] ps (Nat.le_refl _) hb4 (by simp) h4
                have : ps = ps' := by simpa using q1
                subst this
                refine ⟨?_, ⟨⟨hn.1, hn.2.1⟩, ?_, ?_, ?_, w1, w3, q4⟩, v3⟩
                · unfold encS
                  simp only
                  have em : ((ss.length : Nat) : Int) = m := by rw [hl1]; omega
                  have ec : ((cs.length : Nat) : Int) = many := by rw [hl3]; omega
                  rw [em, ec, q2, ← e3, ← e2, ← e1]
                · show ss.length ≤ 8
                  omega
                · show cs.length ≤ 1000
                  omega
                · simpa using q5
          · rw [if_neg hm] at h; cases h
    · rw [if_neg hn] at h; cases h

end Go.Proofs.YtcfbcffmlinlaaaDoor
