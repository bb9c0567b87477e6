/-
  Single blocks, followed through a walk; what the reader's calls should read, part by part.
-/
import Derived.Test.YtcfbcffmlinlaaaDoorScrNum2
namespace Go.Proofs.YtcfbcffmlinlaaaDoor
open Go.RowKit

/-- The block k holds these cells. -/
def Blk (w : World) (k : Nat) (cs : Array Value) (E : TypeId) : Prop := w.heap[k]? = some (.cells cs E (0, 0))
theorem Blk.new (w : World) (cs : Array Value) (E : TypeId) : Blk (w.alloc (.cells cs E)) w.heap.size cs E := heap_alloc_new w _
theorem Blk.lt {w : World} {k : Nat} {cs : Array Value} {E : TypeId} (h : Blk w k cs E) : k < w.heap.size := block_lt h
theorem Blk.cell {w : World} {k : Nat} {cs : Array Value} {E : TypeId} (h : Blk w k cs E) (i : Nat) {v : Value} (hv : cs[i]? = some v) : w.cell? ⟨k, i, none⟩ = some v := block_cell h i hv
theorem Blk.fz {w : World} {k : Nat} {cs : Array Value} {E : TypeId} (h : Blk w k cs E) (i : Nat) : w.frozen? ⟨k, i, none⟩ = false := by
  unfold Blk at h; simp [World.frozen?, h]
theorem Blk.keep {w w' : World} {R k : Nat} {cs : Array Value} {E : TypeId} (h : Blk w k cs E) (hk : Keep R w w') (hne : k ≠ R) : Blk w' k cs E := hk.block hne h
theorem Blk.ext {w w' : World} {k : Nat} {cs : Array Value} {E : TypeId} (h : Blk w k cs E) (he : Ext w w') : Blk w' k cs E := block_ext he h
theorem Blk.alloc {w : World} {k : Nat} {cs : Array Value} {E : TypeId} (h : Blk w k cs E) (o : Obj) : Blk (w.alloc o) k cs E := h.ext ((Ext.refl w).alloc o)
theorem Blk.set {w : World} {k : Nat} {cs : Array Value} {E : TypeId} (h : Blk w k cs E) (i : Nat) (v : Value) : Blk (w.setCell ⟨k, i, none⟩ v) k (cs.setIfInBounds i v) E := heap_setCell_same w k i cs E v h
theorem Blk.set_ne {w : World} {k : Nat} {cs : Array Value} {E : TypeId} (h : Blk w k cs E) {b i : Nat} (hne : k ≠ b) (v : Value) : Blk (w.setCell ⟨b, i, none⟩ v) k cs E := by
  unfold Blk; rw [heap_setCell_other w _ k v hne]; exact h
theorem Blk.grown {w w' : World} {row : Option Nat} {k : Nat} {cs : Array Value} {E : TypeId} (h : Blk w k cs E) (hg : w.grownBy w' row) (hne : row ≠ some k) : Blk w' k cs E := by
  unfold Blk; rw [hg.block k h.lt (fun h => hne h.symm)]; exact h

theorem Keep.then_below {R : Nat} {w a b : World} (h : Keep R w a) (k : Below w.heap.size a b) : Keep R w b :=
  ⟨k.os.trans h.os, k.tape.trans h.tape, k.output.trans h.output, Nat.le_trans h.size k.size, fun i hi hne => (k.block i hi).trans (World.grownBy.block h i hi hne)⟩
theorem below_set (B : Nat) (w : World) {b i : Nat} (h : B ≤ b) (v : Value) : Below B w (w.setCell ⟨b, i, none⟩ v) :=
  ⟨rfl, rfl, rfl, by simp, fun k hk => heap_setCell_other w _ k v (by intro he; have : k = b := he; omega)⟩
theorem Keep.set {R : Nat} {w a : World} (h : Keep R w a) {b i : Nat} (hb : w.heap.size ≤ b) (v : Value) : Keep R w (a.setCell ⟨b, i, none⟩ v) := h.then_below (below_set _ _ hb v)
theorem Rd.set_ne {w : World} {R : Nat} {l : List Int} {ba : Option Addr} {bc j : Nat} (h : Rd w R l ba bc j) {b i : Nat} (hb : ∀ x, ba = some x → x.block ≠ b) (hne : R ≠ b) (v : Value) : Rd (w.setCell ⟨b, i, none⟩ v) R l ba bc j := by
  refine ⟨?_, ?_, h.le⟩
  · rw [heap_setCell_other w _ R v hne]; exact h.here
  · rcases h.bytes with h1 | ⟨b', off, h1, h2, h3⟩
    · exact .inl h1
    · refine .inr ⟨b', off, h1, h2, fun i' hi => ?_⟩
      rw [World.cell?_of_block (heap_setCell_other w _ b' v (hb _ h1))]; exact h3 i' hi
theorem Rd.below {w w' : World} {R : Nat} {l : List Int} {ba : Option Addr} {bc j B : Nat} (h : Rd w R l ba bc j) (k : Below B w w') (hR : R < B) (hb : ∀ x, ba = some x → x.block < B) : Rd w' R l ba bc j := by
  refine ⟨(k.block R hR).trans h.here, ?_, h.le⟩
  rcases h.bytes with h1 | ⟨b', off, h1, h2, h3⟩
  · exact .inl h1
  · exact .inr ⟨b', off, h1, h2, fun i' hi => (k.cell (show b' < B from hb _ h1)).trans (h3 i' hi)⟩

theorem IsSeq.keep {α : Type} {d : α} {sz R : Nat} {f : α → List Value} {w w' : World} {a : Option Addr} {xs : List α} (h : IsSeq d sz f w a xs) (hk : Keep R w w') (hne : ∀ x, a = some x → x.block ≠ R) : IsSeq d sz f w' a xs := by
  rcases h with h | ⟨b, off, ha, hc⟩
  · exact .inl h
  · exact .inr ⟨b, off, ha, fun i hi j hj => hk.cell (show b ≠ R from hne _ ha) (hc i hi j hj)⟩
theorem IsInts.keep {k : IntKind} {R : Nat} {w w' : World} {a : Option Addr} {xs : List Int} (h : IsInts k w a xs) (hk : Keep R w w') (hne : ∀ x, a = some x → x.block ≠ R) : IsInts k w' a xs := by
  rcases h with h | ⟨b, off, ha, hc⟩
  · exact .inl h
  · exact .inr ⟨b, off, ha, fun i hi => hk.cell (show b ≠ R from hne _ ha) (hc i hi)⟩

theorem own_below {w w' : World} {B B' : Nat} {E : TypeId} {size n : Nat} {v : Value} {xs : List Value} (h : w.ownsRow B E size v n xs) (hg : ∀ k, v.ownBlock = some k → w'.heap[k]? = w.heap[k]?) : w'.ownsRow B E size v n xs := by
  refine ⟨h.1, ?_⟩
  rcases h.2 with h2 | ⟨g, cap, cur, hv, hge, hh, r⟩
  · exact .inl h2
  · exact .inr ⟨g, cap, cur, hv, hge, by rw [hg g (by rw [hv]; rfl)]; exact hh, r⟩
theorem own_set {w : World} {B : Nat} {E : TypeId} {size n : Nat} {v : Value} {xs : List Value} (h : w.ownsRow B E size v n xs) {b i : Nat} (hb : b < B) (u : Value) : (w.setCell ⟨b, i, none⟩ u).ownsRow B E size v n xs := by
  refine own_below (B' := B) h (fun k hk => heap_setCell_other w _ k u ?_)
  have := (h.lt k hk).1
  intro he; rw [he] at this; simp at this; omega

theorem own_set_ne {w : World} {B : Nat} {E : TypeId} {size n : Nat} {v : Value} {xs : List Value} (h : w.ownsRow B E size v n xs) {b i : Nat} (hb : v.ownBlock ≠ some b) (u : Value) : (w.setCell ⟨b, i, none⟩ u).ownsRow B E size v n xs := by
  refine own_below (B' := B) h (fun k hk => heap_setCell_other w _ k u ?_)
  intro he; have : k = b := he; rw [this] at hk; exact hb hk
theorem Blk.below {w w' : World} {B k : Nat} {cs : Array Value} {E : TypeId} (h : Blk w k cs E) (hb : Below B w w') (hk : k < B) : Blk w' k cs E := (hb.block k hk).trans h

theorem own_slice {w : World} {B : Nat} {E : TypeId} {size n : Nat} {v : Value} {xs : List Value} (h : w.ownsRow B E size v n xs) : ∃ a cap, v = .slice a n cap ∧ n ≤ cap := by
  rcases h.2 with ⟨rfl, rfl⟩ | ⟨g, cap, cur, rfl, hg, hh, hn, hm, hs, ht⟩
  · exact ⟨none, 0, rfl, Nat.le_refl _⟩
  · exact ⟨_, cap, rfl, hn⟩

/-! ### What the calls should read -/

def pre {α : Type} (ss : List α) (p : Option (List α × List Int)) : Option (List α × List Int) := p.map fun x => (ss ++ x.1, x.2)
theorem pre_nil {α : Type} (p : Option (List α × List Int)) : pre [] p = p := by cases p <;> simp [pre]
theorem pre_pre {α : Type} (a b : List α) (p : Option (List α × List Int)) : pre a (pre b p) = pre (a ++ b) p := by cases p <;> simp [pre]
theorem pSpecs_step (k : Nat) (l : List Int) : pSpecs (k + 1) l = match pSpec l with
    | none => none
    | some (s, r) => pre [s] (pSpecs k r) := by
  simp only [pSpecs]
  cases pSpec l with
  | none => rfl
  | some x =>
    obtain ⟨s, r⟩ := x
    simp only
    cases pSpecs k r <;> rfl
theorem pCalls_step (n : Int) (k : Nat) (l : List Int) : pCalls n (k + 1) l = match pCall n l with
    | none => none
    | some (s, r) => pre [s] (pCalls n k r) := by
  simp only [pCalls]
  cases pCall n l with
  | none => rfl
  | some x =>
    obtain ⟨s, r⟩ := x
    simp only
    cases pCalls n k r <;> rfl
theorem pSpec_byte (l : List Int) : pSpec l = match pByte l with
    | none => none
    | some (k, l) => match pTwo l with
      | none => none
      | some (p, l) => match pTwo l with
        | none => none
        | some (q, l) => some (⟨k, p, q⟩, l) := by
  cases l <;> rfl

def thn {α β : Type} (p : Option (α × List Int)) (f : α → List Int → Option β) : Option β := match p with
  | none => none
  | some (a, r) => f a r
theorem thn_none {α β : Type} (f : α → List Int → Option β) : thn none f = none := rfl
theorem thn_some {α β : Type} (a : α) (r : List Int) (f : α → List Int → Option β) : thn (some (a, r)) f = f a r := rfl

def pHead3 (n : Int) : Option (List Spc × List Int) → Option ((Int × List Spc) × List Int)
  | none => none
  | some (ss, l) => some ((n, ss), l)
def pHead2 (n : Int) : Option (Int × List Int) → Option ((Int × List Spc) × List Int)
  | none => none
  | some (m, l) => if m ≤ 8 then pHead3 n (pSpecs m.toNat l) else none
def pHead1 : Option (Int × List Int) → Option ((Int × List Spc) × List Int)
  | none => none
  | some (n, l) => if 1 ≤ n ∧ n ≤ 16 then pHead2 n (pByte l) else none
def pHead (l : List Int) : Option ((Int × List Spc) × List Int) := pHead1 (pByte l)
def pAllCalls (n : Int) (l : List Int) : Option (List Cll × List Int) := match pTwo l with
  | none => none
  | some (m, l) => if m ≤ 1000 then pCalls n m.toNat l else none

theorem pS_parts (l : List Int) : pS l = match pHead l with
    | none => none
    | some ((n, ss), l) => match pAllCalls n l with
      | none => none
      | some (cs, l) => match pPicks (-1) true [] l with
        | none => none
        | some ps => some ⟨n, ss, cs, ps⟩ := by
  match l with
  | [] => rfl
  | [n] => simp only [pS, pHead, pHead1, pHead2, pByte]; by_cases h1 : 1 ≤ n ∧ n ≤ 16 <;> simp only [h1, if_true, if_false] <;> simp
  | n :: m :: l =>
    simp only [pS, pHead, pHead1, pHead2, pByte]
    by_cases h1 : 1 ≤ n ∧ n ≤ 16
    · by_cases h2 : m ≤ 8
      · rw [if_pos ⟨h1.1, h1.2, h2⟩, if_pos h1, if_pos h2]
        cases pSpecs m.toNat l with
        | none => rfl
        | some x =>
          obtain ⟨ss, l⟩ := x
          simp only [pHead3, pAllCalls]
          cases pTwo l with
          | none => rfl
          | some x =>
            obtain ⟨many, l⟩ := x
            simp only
            split
            · cases pCalls n many.toNat l with
              | none => rfl
              | some x => rfl
            · rfl
      · rw [if_neg (by omega), if_pos h1, if_neg h2]
    · rw [if_neg (by omega), if_neg h1]

theorem pAllCalls_thn (n : Int) (l : List Int) : pAllCalls n l = thn (pTwo l) fun m l => if m ≤ 1000 then pCalls n m.toNat l else none := by
  unfold pAllCalls; cases pTwo l <;> rfl
theorem pCalls_thn (n : Int) (k : Nat) (l : List Int) : pCalls n (k + 1) l = thn (pCall n l) fun s r => pre [s] (pCalls n k r) := by
  rw [pCalls_step]; cases pCall n l <;> rfl
theorem pCall_thn (n : Int) (l : List Int) : pCall n l = thn (pByte l) fun t l => if t < n then thn (pByte l) fun o l => thn (pByte l) fun k l => thn (pNum 0 1 0 l) fun a l => thn (pNum 0 1 0 l) fun b l => thn (pNum 0 1 0 l) fun c l => some (⟨t, o, k, a, b, c⟩, l) else none := by
  match l with
  | [] => rfl
  | [t] => simp only [pCall, pByte, thn]; split <;> rfl
  | [t, o] => simp only [pCall, pByte, thn]; split <;> rfl
  | t :: o :: k :: l =>
    simp only [pCall, pByte, thn]
    split
    · cases pNum 0 1 0 l with
      | none => rfl
      | some x =>
        obtain ⟨a, l⟩ := x
        simp only
        cases pNum 0 1 0 l with
        | none => rfl
        | some x =>
          obtain ⟨b, l⟩ := x
          simp only
          cases pNum 0 1 0 l with
          | none => rfl
          | some x => rfl
    · rfl

theorem two_bounds {l r : List Int} {j : Nat} {x : Int} (h : pTwo (l.drop j) = some (x, r)) (hb : ∀ b ∈ l, byteOk b) : 0 ≤ x ∧ x ≤ 65535 :=
  (pTwo_back (fun b hm => hb b (List.mem_of_mem_drop hm)) h).2.1

end Go.Proofs.YtcfbcffmlinlaaaDoor
