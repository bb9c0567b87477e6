/-
  Bytes that are gathered in a slice of the call's own.
-/
import Derived.Test.YtcfbcffmlinlaaaDoorScrTwo
namespace Go.Proofs.YtcfbcffmlinlaaaDoor
open Go.RowKit

/-- v gathers the bytes cur, in blocks from B on; what was in w0 below B is as it was. -/
structure Enc (w0 : World) (B : Nat) (w : World) (v : Value) (cur : List Int) : Prop where
  own : w.ownsRow B 5 1 v cur.length (cur.map (Value.int .u8))
  below : Below B w0 w
  room : B ≤ w.heap.size

theorem own_ext {w w' : World} {B : Nat} {E : TypeId} {size n : Nat} {v : Value} {xs : List Value} (h : w.ownsRow B E size v n xs) (he : Ext w w') : w'.ownsRow B E size v n xs := by
  refine ⟨h.1, ?_⟩
  rcases h.2 with h2 | ⟨g, cap, cur, hv, hg, hh, r⟩
  · exact .inl h2
  · refine .inr ⟨g, cap, cur, hv, hg, ?_, r⟩
    rw [he.block g (Array.getElem?_eq_some_iff.1 hh).1]; exact hh

theorem Enc.ext {w0 : World} {B : Nat} {w w' : World} {v : Value} {cur : List Int} (h : Enc w0 B w v cur) (he : Ext w w') : Enc w0 B w' v cur :=
  ⟨own_ext h.own he, h.below.trans (Below.mono he h.room), Nat.le_trans h.room he.size⟩
theorem Enc.alloc {w0 : World} {B : Nat} {w : World} {v : Value} {cur : List Int} (h : Enc w0 B w v cur) (o : Obj) : Enc w0 B (w.alloc o) v cur := h.ext ((Ext.refl w).alloc o)
theorem Enc.drewN {w0 : World} {B : Nat} {w : World} {v : Value} {cur : List Int} (h : Enc w0 B w v cur) (n : Nat) : Enc w0 B (w.drewN n) v cur := h.ext ((Ext.refl w).drewN n)

theorem Enc.lit {w0 w : World} {B : Nat} (hb : Below B w0 w) (hB : B ≤ w.heap.size) (cur : List Int) (cs : Array Value) (hcs : cs = (cur.map (Value.int .u8)).toArray) (hl : cur.length ≤ maxLen) :
    Enc w0 B (w.alloc (.cells cs 5)) (.slice (some ⟨w.heap.size, 0, none⟩) cur.length cur.length) cur := by
  refine ⟨⟨by simp, .inr ⟨w.heap.size, cur.length, cs, rfl, hB, heap_alloc_new w _, Nat.le_refl _, hl, by rw [hcs]; simp, by rw [hcs]; simp [List.take_of_length_le]⟩⟩, hb.alloc hB _, by simp; omega⟩

/-- Each block that holds no bytes is as it was. -/
def Kept (w w' : World) : Prop := ∀ (k : Nat) (cs : Array Value) (E : TypeId) (f : Nat × Nat), E ≠ 5 → w.heap[k]? = some (.cells cs E f) → w'.heap[k]? = some (.cells cs E f)

theorem Enc.kept {w0 : World} {B : Nat} {w w' : World} {v : Value} {cur : List Int} (h : Enc w0 B w v cur) (hg : w.grownBy w' v.ownBlock) : Kept w w' := by
  intro k cs E f hE hk
  rw [hg.block k (Array.getElem?_eq_some_iff.1 hk).1 ?_]
  · exact hk
  · intro he
    rcases h.own.2 with ⟨h2, _⟩ | ⟨g, cap, cur', hv, hg', hh, r⟩
    · rw [h2] at he; simp [Value.ownBlock] at he
    · rw [hv] at he
      simp [Value.ownBlock] at he
      subst he
      rw [hk] at hh
      simp at hh
      exact hE hh.2.1

theorem block_new (w : World) (o : Obj) : (w.alloc o).heap[w.heap.size]? = some o := heap_alloc_new w o
theorem block_old {w : World} {k : Nat} {x : Obj} (o : Obj) (h : w.heap[k]? = some x) : (w.alloc o).heap[k]? = some x := by
  rw [Below.heap_alloc w o k (Array.getElem?_eq_some_iff.1 h).1]; exact h
theorem block_ext {w w' : World} {k : Nat} {x : Obj} (he : Ext w w') (h : w.heap[k]? = some x) : w'.heap[k]? = some x := by
  rw [he.block k (Array.getElem?_eq_some_iff.1 h).1]; exact h
theorem block_lt {w : World} {k : Nat} {x : Obj} (h : w.heap[k]? = some x) : k < w.heap.size := (Array.getElem?_eq_some_iff.1 h).1
theorem block_cell {w : World} {k : Nat} {cs : Array Value} {E : TypeId} {f : Nat × Nat} (h : w.heap[k]? = some (.cells cs E f)) (i : Nat) {v : Value} (hv : cs[i]? = some v) : w.cell? ⟨k, i, none⟩ = some v := by
  simp [World.cell?, h, hv]

theorem wpList_enc {ops : Array Oper} {rest : List Oper} {o : Oper} {a : Act} {Q : Exit → Act → World → Prop} {w : World} (hgd : o.guard = none) (s x : Operand)
    (ho : o.op = .call { callee := .builtin .append, args := #[s, x], argTypes := #[43, 43] }) (w0 : World) (B : Nat) (v : Value) (cur : List Int)
    (ys : List Int) (src : Option Addr) (m c : Nat) (hm : m = ys.length) (hs : a.eval s = v) (henc : Enc w0 B w v cur) (hx : a.eval x = .slice src m c)
    (hnil : src = none → c = 0) (hsrc : IsInts .u8 w src ys) (hn : cur.length + m ≤ 100000000)
    (h : ∀ v' w', Enc w0 B w' v' (cur ++ ys) → Kept w w' → wpList Tryd.prog ops Q rest (a.put o.dst v') w') : wpList Tryd.prog ops Q (o :: rest) a w := by
  have hnil' : src = none → ys.map (Value.int .u8) = [] ∧ c = 0 := by
    intro h0
    refine ⟨?_, hnil h0⟩
    rcases hsrc with rfl | ⟨b, off, hab, _⟩
    · rfl
    · rw [h0] at hab; cases hab
  refine wpList_appN hgd s x 43 ho B 5 (.int .u8 0) 1 Tryd.underlying43 Tryd.info5 rfl v cur.length (cur.map (Value.int .u8)) (ys.map (Value.int .u8)) src m c (by simpa using hm) hs henc.own hx hnil' hsrc.vals (oneCell_ints .u8 ys)
    (by unfold maxLen; omega) (by omega) henc.room ?_
  intro v' w' h1 h2 h3
  refine h v' w' ⟨?_, henc.below.trans h3, Nat.le_trans henc.room h3.size⟩ (henc.kept h2)
  rw [← List.map_append] at h1
  rw [List.length_append, ← hm]
  exact h1

theorem encTwo_fresh (w : World) (n : Int) (E : TypeId) : IsInts .u8 (w.alloc (.cells #[.int .u8 (n / 256), .int .u8 (n % 256)] E)) (some ⟨w.heap.size, 0, none⟩) (encTwo n) :=
  ints_fresh .u8 w (encTwo n) _ rfl E _ rfl

/-- the bytes ahead of the specs, and of the first j of them. -/
def preS (s : Scr) (j : Nat) : List Int := s.n :: (s.specs.length : Int) :: (s.specs.take j).flatMap encSpec
def preC (s : Scr) (j : Nat) : List Int := preS s s.specs.length ++ (encTwo s.calls.length ++ (s.calls.take j).flatMap encCall)

theorem preS_succ (s : Scr) (j : Nat) (h : j < s.specs.length) : preS s (j + 1) = preS s j ++ encSpec (nthD spc0 s.specs j) := by
  unfold preS; rw [takeD_snoc spc0 s.specs j h, List.flatMap_append]; simp
theorem preC_succ (s : Scr) (j : Nat) (h : j < s.calls.length) : preC s (j + 1) = preC s j ++ encCall (nthD cll0 s.calls j) := by
  unfold preC; rw [takeD_snoc cll0 s.calls j h, List.flatMap_append]; simp
theorem preC_zero (s : Scr) : preC s 0 = preS s s.specs.length ++ encTwo s.calls.length := by unfold preC; simp
theorem enc_pre (s : Scr) : encS s = preC s s.calls.length ++ encRuns s.picks.length s.picks := by
  unfold encS preC preS; rw [List.take_length, List.take_length]; simp

theorem encTwo_len (n : Int) : (encTwo n).length = 2 := rfl
theorem encSpec_len (s : Spc) : (encSpec s).length = 5 := rfl
theorem encCall_len (c : Cll) : (encCall c).length ≤ 36 := by
  have a := (numB_len 10 c.a).2
  have b := (numB_len 10 c.b).2
  have d := (numB_len 10 c.c).2
  unfold encCall; simp; omega

end Go.Proofs.YtcfbcffmlinlaaaDoor
