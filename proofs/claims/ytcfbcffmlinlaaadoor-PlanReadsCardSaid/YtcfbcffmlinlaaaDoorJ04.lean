/-
  strings.Split at a blank and strings.Cut at a byte 10, in the words of PlPure.
  A row that lists variables, its contract handed the world's shape besides; and what the shape gives: the library's own MaxLen holds a number.
  The built-in append of one element onto a slice of the call's own.
  The built-in append of a whole slice onto a slice of the call's own.
  A slice of things of several cells that reads as a list; the built-in append of one of them.
  A script as it lies in memory; why it may not be written, as one number.
  script.right: why a script may not be written.
  Bits of words of 64 bits: the low seven, and one above them.
  script.two and script.number: numbers in bytes.
  Bytes that are gathered in a slice of the call's own.
-/
import Derived.Test.YtcfbcffmlinlaaaDoorJ01
import Derived.Test.YtcfbcffmlinlaaaDoorJ02
import Derived.Test.YtcfbcffmlinlaaaDoorJ03
import Derived.Test.YtcfbcffmlinlaaaDoorRows
import Derived.HandedShaped
import Derived.SizedLaws
import Derived.Shelf.Vars
import Derived.Deep.Draws
import Derived.Laws.AppendOwnNone
import Derived.Test.YtcfbcffmlinlaaaDoorChecked
import Derived.WalkKit
set_option linter.unusedVariables false
namespace Go.Proofs.YtcfbcffmlinlaaaDoor
open Go.RowKit

namespace Pl
theorem index_no : ∀ {l : List UInt8} {c : UInt8}, c ∉ l → Lib.index l [c] = -1
  | [], c, _ => rfl
  | b :: l, c, h => by
    have h1 : ¬ b = c := fun e => h (by rw [e]; exact List.mem_cons_self ..)
    have ih := index_no (l := l) (c := c) (fun hm => h (List.mem_cons_of_mem _ hm))
    unfold Lib.index
    rw [if_neg (by simp [List.isPrefixOf]; exact fun e => h1 e.symm), ih]
    rfl
theorem index_yes : ∀ {w : List UInt8} {c : UInt8} (t : List UInt8), c ∉ w → Lib.index (w ++ c :: t) [c] = w.length
  | [], c, t, _ => by
    unfold Lib.index
    simp [List.isPrefixOf]
  | b :: w, c, t, h => by
    have h1 : ¬ b = c := fun e => h (by rw [e]; exact List.mem_cons_self ..)
    have ih := index_yes (w := w) (c := c) t (fun hm => h (List.mem_cons_of_mem _ hm))
    rw [List.cons_append]
    unfold Lib.index
    rw [if_neg (by simp [List.isPrefixOf]; exact fun e => h1 e.symm), ih, if_neg (by simp only [beq_iff_eq]; omega)]
    simp
theorem part_at (c : UInt8) : ∀ l : List UInt8, c ∉ l ∨ ∃ w t, l = w ++ c :: t ∧ c ∉ w
  | [] => .inl (by simp)
  | b :: l => by
    by_cases h : b = c
    · exact .inr ⟨[], l, by rw [h]; rfl, by simp⟩
    · rcases part_at c l with h1 | ⟨w, t, rfl, h2⟩
      · exact .inl (by simp only [List.mem_cons, not_or]; exact ⟨fun e => h e.symm, h1⟩)
      · exact .inr ⟨b :: w, t, rfl, by simp only [List.mem_cons, not_or]; exact ⟨fun e => h e.symm, h2⟩⟩

theorem cut_none {l : List UInt8} (h : cutL l = none) : Lib.cut l [10] = (l, [], false) := by
  unfold Lib.cut
  rw [index_no (cutL_none l h)]; rfl
theorem cut_some {l a b : List UInt8} (h : cutL l = some (a, b)) : Lib.cut l [10] = (a, b, true) := by
  obtain ⟨rfl, h2⟩ := cutL_back l a b h
  unfold Lib.cut
  rw [index_yes b h2, if_pos (by omega)]
  simp

theorem words_split (n : Nat) : ∀ l : List UInt8, l.length ≤ n → Lib.splitK [32] 0 (Lib.count l [32]) l = words l := by
  induction n with
  | zero =>
    intro l hl
    obtain rfl : l = [] := List.length_eq_zero_iff.1 (by omega)
    rw [Lib.count_miss (index_no (by simp))]; rfl
  | succ n ih =>
    intro l hl
    rcases part_at 32 l with h | ⟨w, t, rfl, h⟩
    · rw [Lib.count_miss (index_no h), words_none h]; rfl
    · have hi := index_yes t h
      rw [Lib.count_hit (by simp) hi, words_app t h]
      simp only [List.length_append, List.length_cons] at hl
      have hd : (w ++ 32 :: t).drop (w.length + [(32 : UInt8)].length) = t := by simp
      rw [hd, Nat.add_comm 1, Lib.splitK, hi, if_neg (by simp only [beq_iff_eq]; omega)]
      simp only [Int.toNat_natCast, Nat.add_zero]
      rw [hd, List.take_left, ih t (by omega)]
theorem words_size (l : List UInt8) : (words l).length ≤ l.length + 1 ∧ ∀ x ∈ words l, x.length ≤ l.length := by
  have h (n : Nat) : ∀ l : List UInt8, l.length ≤ n → (words l).length ≤ l.length + 1 ∧ ∀ x ∈ words l, x.length ≤ l.length := by
    induction n with
    | zero =>
      intro l hl
      obtain rfl : l = [] := List.length_eq_zero_iff.1 (by omega)
      exact ⟨by decide, by simp [words]⟩
    | succ n ih =>
      intro l hl
      rcases part_at 32 l with h | ⟨w, t, rfl, h⟩
      · rw [words_none h]; exact ⟨by simp, by simp⟩
      · rw [words_app t h]
        simp only [List.length_append, List.length_cons] at hl
        obtain ⟨i1, i2⟩ := ih t (by omega)
        refine ⟨by simp; omega, fun x hx => ?_⟩
        simp only [List.length_append, List.length_cons]
        rcases List.mem_cons.1 hx with rfl | hx
        · omega
        · have := i2 x hx; omega
  exact h l.length l (Nat.le_refl _)
end Pl
theorem plwords_split (l : List UInt8) : (Lib.splitB (St [32]) 0 (Lib.countB (St l) (St [32])) (St l)).map Value.string = (Pl.words l).map (fun x => Value.string (St x)) := by
  have h := Lib.splitB_data (St [32]) 0 (Lib.countB (St l) (St [32])) (St l)
  unfold Lib.countB at *
  rw [St_list, St_list, Pl.words_split l.length l (Nat.le_refl _)] at h
  rw [← h, List.map_map]
  apply List.map_congr_left
  intro x _
  obtain ⟨y, rfl⟩ := St_of x
  simp [Function.comp, St_list]
theorem plwords_len (l : List UInt8) : (Pl.words l).length = Lib.countB (St l) (St [32]) + 1 := by
  have h (n : Nat) : ∀ l : List UInt8, l.length ≤ n → (Pl.words l).length = Lib.count l [32] + 1 := by
    induction n with
    | zero =>
      intro l hl
      obtain rfl : l = [] := List.length_eq_zero_iff.1 (by omega)
      rw [Lib.count_miss (Pl.index_no (by simp))]; rfl
    | succ n ih =>
      intro l hl
      rcases Pl.part_at 32 l with h | ⟨w, t, rfl, h⟩
      · rw [Lib.count_miss (Pl.index_no h), Pl.words_none h]; rfl
      · have hi := Pl.index_yes t h
        rw [Lib.count_hit (by simp) hi, Pl.words_app t h]
        simp only [List.length_append, List.length_cons] at hl
        have hd : (w ++ 32 :: t).drop (w.length + [(32 : UInt8)].length) = t := by simp
        rw [hd, List.length_cons, ih t (by omega), Nat.add_comm 1]
  unfold Lib.countB
  rw [St_list, St_list]
  exact h l.length l (Nat.le_refl _)
theorem plwords_ne (l : List UInt8) : Pl.words l ≠ [] := fun h => by
  have := plwords_len l
  rw [h] at this; simp at this

/-- The library's own number, that Index reads, is a number. -/
def MaxAt (w : World) : Prop := ∃ m, w.cell? ⟨0, 0, none⟩ = some (.int .i64 m)
theorem MaxAt.ext {w w' : World} (h : MaxAt w) (e : Ext w w') : MaxAt w' := by
  obtain ⟨m, hm⟩ := h
  exact ⟨m, e.cell hm⟩

theorem split_any (l : List UInt8) (w : World) (hl : l.length ≤ 1000000) (hm : MaxAt w) :
    Calls Tryd.prog 54 #[.string (St l), .string (St [32])] w fun e w' =>
      e = .returned (.slice (some ⟨w.heap.size, 0, none⟩) (Pl.words l).length (Pl.words l).length) ∧ w' = w.alloc (.cells ((Pl.words l).map (fun x => Value.string (St x))).toArray 9) := by
  obtain ⟨m, hm⟩ := hm
  have h := Tryd.strings_Split (St l) (St [32]) m w (by rw [St_size]; omega) hm (by rw [St_size]; decide)
  rw [plwords_split, ← plwords_len] at h
  exact h

/-- What Cut hands back. -/
def cutV (l : List UInt8) : Option (List UInt8 × List UInt8) → Value
  | some (a, b) => .tuple #[.string (St a), .string (St b), .bool true]
  | none => .tuple #[.string (St l), .string (St []), .bool false]

theorem cut_any (l : List UInt8) (w : World) (hl : l.length ≤ 1000000) (hm : MaxAt w) :
    Calls Tryd.prog 22 #[.string (St l), .string (St [10])] w fun e w' => e = .returned (cutV l (Pl.cutL l)) ∧ ∃ n, w' = w.drewN n := by
  obtain ⟨m, hm⟩ := hm
  have h := Tryd.strings_Cut (St l) (St [10]) m w (by rw [St_size]; omega) hm
  rw [St_list, St_list] at h
  cases hc : Pl.cutL l with
  | none => rw [Pl.cut_none hc] at h; exact h
  | some p =>
    obtain ⟨a, b⟩ := p
    rw [Pl.cut_some hc] at h; exact h

end Go.Proofs.YtcfbcffmlinlaaaDoor

namespace Go.Proofs.YtcfbcffmlinlaaaDoor
open Go

theorem handed_and_shaped {H : Type} {enc : TypeId × Value → H} {a : Assume} {C : Checked} {os : Os} {f : FuncId} {fn : Func} {s : ChangeSpec} {conds : List PathCond} {apart fresh handsOn again : Bool} {X : World → Array Value → Prop}
    (hX : ∀ (w w' : World) (args : Array Value), w.heap = w'.heap → X w args → X w' args)
    (own : ownKnob C.prog.godebug = none) (started : os.Started) (noInit : C.prog.inits.idxOf? f = none) (hfn : C.prog.funcs[f]? = some fn)
    (witness : ∃ (w : World) (tape : Tape) (i : Input), w.os = os ∧ (w.forCall tape i).Shaped C.prog ∧ i.vars = [] ∧ Input.okWide C.prog (w.forCall tape i) .any w.heap.size f i ∧
      ((s.pre enc C.prog fn conds apart (w.forCall tape i).memory i.args ∧ X (w.forCall tape i).memory i.args) ∧ sizedMet enc C.prog fn (OpenSpec.ofChange s) apart (w.forCall tape i).memory i.args) ∧ a.holds C.prog (lone (Frame.enter C.prog f i.args .normal) [] (w.forCall tape i)))
    (contract : ∀ (W : World) (base : Nat) (args : Array Value) (ds gs : List (DataW H)) (before : List MemPlace),
      (∀ (j : Nat) t v, fn.params[j]? = some t → args[j]? = some v → Value.okWide C.prog W .any base t v) →
      DataW.Whole enc C.prog fn.params.toList s.vars apart W args.toList ds gs before → X W args → W.ShapedOpen C.prog →
      Calls C.prog f args W fun e W' => ∃ v, e = .returned v ∧ s.post enc C.prog fn apart fresh handsOn again W args v W') :
    ReturnsInHanded a C os f .any (fun w args => (s.pre enc C.prog fn conds apart w args ∧ X w args) ∧ sizedMet enc C.prog fn (OpenSpec.ofChange s) apart w args) (s.post enc C.prog fn apart fresh handsOn again) := by
  refine returnsInHanded_of_calls own started noInit witness ?_
  intro w tape i _ hsh _ hok hpre _
  obtain ⟨_, _, _, fn', hfn', _, _, _, _, hval⟩ := hok
  have e : fn' = fn := Option.some.inj (hfn'.symm.trans hfn)
  subst e
  obtain ⟨⟨⟨ds, gs, before, hw, _⟩, hx⟩, _⟩ := hpre
  have hw' := DataW.Whole.of_heap (w' := w.forCall tape i) (by rfl) hw
  refine (contract (w.forCall tape i) w.heap.size i.args ds gs before hval hw' (hX _ _ _ (by rfl) hx) hsh).mono fun e W' ⟨v, he, hp⟩ => ?_
  subst he
  exact ChangeSpec.post_blind hp

theorem maxAt {W : World} (h : W.ShapedOpen Tryd.prog) : MaxAt W :=
  cell_of_shapedOpen_int (zero := #[.int .i64 0]) (t := 3) h (of_decide_eq_true (by kernel_rfl)) (by kernel_rfl) rfl (by kernel_rfl) (by kernel_rfl) Tryd.underlying3

end Go.Proofs.YtcfbcffmlinlaaaDoor

namespace Go.Proofs.YtcfbcffmlinlaaaDoor
open Go.RowKit

theorem below_of_grown {w w' : World} {B : Nat} {E : TypeId} {size n : Nat} {v : Value} {xs : List Value} (hown : w.ownsRow B E size v n xs) (hg : w.grownBy w' v.ownBlock) (hB : B ≤ w.heap.size) : Below B w w' :=
  (Below.refl B w).grown hg hB (fun k hk => (hown.lt k hk).1)

theorem own_drewN {w : World} {B : Nat} {E : TypeId} {size n : Nat} {v : Value} {xs : List Value} (h : w.ownsRow B E size v n xs) (m : Nat) : (w.drewN m).ownsRow B E size v n xs := h

theorem wpList_app1 {P : Program} {ops : Array Oper} {rest : List Oper} {o : Oper} {a : Act} {Q : Exit → Act → World → Prop} {w : World} (hgd : o.guard = none) (s x : Operand) (T : TypeId)
    (ho : o.op = .call { callee := .builtin .append, args := #[s, x], argTypes := #[T, T] }) (B : Nat) (E : TypeId) (z : Value) (bytes : Nat) (hT : P.underlying T = some (.slice E))
    (hE : (P.info? E).map (fun i => (i.zero, i.size, i.bytes)) = some (some z, 1, bytes)) (hz : z.cells.size = 1)
    (v : Value) (n : Nat) (xs : List Value) (y : Value) (g : Nat) (hs : a.eval s = v) (hown : w.ownsRow B E 1 v n xs) (hx : a.eval x = .slice (some ⟨g, 0, none⟩) 1 1)
    (hg : w.cell? ⟨g, 0, none⟩ = some y) (hy : y.oneCell' = true) (hn : n + 1 ≤ maxLen) (hb : (n + 1) * bytes ≤ 140737488355328) (hB : B ≤ w.heap.size)
    (h : ∀ v' w', w'.ownsRow B E 1 v' (n + 1) (xs ++ [y]) → w.grownBy w' v.ownBlock → Below B w w' → wpList P ops Q rest (a.put o.dst v') w') : wpList P ops Q (o :: rest) a w := by
  obtain ⟨i0, hi, hz0, hz1, hz2⟩ := info_parts hE
  refine wpList_append_own w hgd s x T ho B E i0 z 1 bytes hT hi hz0 hz1 hz2 hz (by decide) v n xs hs hown ⟨g, 0, none⟩ 1 1 [y] hx rfl ?_ (by intro u hu; simp at hu; subst hu; exact hy) hn hb hB ?_
  · intro j u hj
    match j, hj with
    | 0, hj => simp at hj; subst hj; simpa [Addr.add] using hg
  · intro v' w' h1 h2 _
    exact h v' w' h1 h2 (below_of_grown hown h2 hB)

end Go.Proofs.YtcfbcffmlinlaaaDoor

namespace Go.Proofs.YtcfbcffmlinlaaaDoor
open Go.RowKit

/-- The slice at a reads as these values, one cell each. -/
def IsVals (w : World) (a : Option Addr) (vs : List Value) : Prop :=
  vs = [] ∨ ∃ b off, a = some ⟨b, off, none⟩ ∧ ∀ i, i < vs.length → w.cell? ⟨b, off + i, none⟩ = vs[i]?

theorem wpList_appN {P : Program} {ops : Array Oper} {rest : List Oper} {o : Oper} {a : Act} {Q : Exit → Act → World → Prop} {w : World} (hgd : o.guard = none) (s x : Operand) (T : TypeId)
    (ho : o.op = .call { callee := .builtin .append, args := #[s, x], argTypes := #[T, T] }) (B : Nat) (E : TypeId) (z : Value) (bytes : Nat) (hT : P.underlying T = some (.slice E))
    (hE : (P.info? E).map (fun i => (i.zero, i.size, i.bytes)) = some (some z, 1, bytes)) (hz : z.cells.size = 1)
    (v : Value) (n : Nat) (xs : List Value) (ys : List Value) (src : Option Addr) (m c : Nat) (hm : m = ys.length) (hs : a.eval s = v) (hown : w.ownsRow B E 1 v n xs) (hx : a.eval x = .slice src m c)
    (hnil : src = none → ys = [] ∧ c = 0) (hsrc : IsVals w src ys) (hy : ∀ u ∈ ys, u.oneCell' = true) (hn : n + m ≤ maxLen) (hb : (n + m) * bytes ≤ 140737488355328) (hB : B ≤ w.heap.size)
    (h : ∀ v' w', w'.ownsRow B E 1 v' (n + m) (xs ++ ys) → w.grownBy w' v.ownBlock → Below B w w' → wpList P ops Q rest (a.put o.dst v') w') : wpList P ops Q (o :: rest) a w := by
  subst hm
  obtain ⟨i0, hi, hz0, hz1, hz2⟩ := info_parts hE
  cases src with
  | none =>
    obtain ⟨rfl, rfl⟩ := hnil rfl
    refine wpList_append_own_none hgd s x T ho B E i0 1 hT hi v n xs hs hown hx ?_
    refine h v w (by simpa using hown) ⟨rfl, rfl, rfl, Nat.le_refl _, fun _ _ _ => rfl⟩ (Below.refl _ _)
  | some ad =>
    refine wpList_append_own w hgd s x T ho B E i0 z 1 bytes hT hi hz0 hz1 hz2 hz (by decide) v n xs hs hown ad ys.length c ys hx (by simp) ?_ hy hn hb hB ?_
    · intro j u hj
      have hjl : j < ys.length := by
        by_cases hc : j < ys.length
        · exact hc
        · rw [List.getElem?_eq_none (by omega)] at hj; cases hj
      rcases hsrc with rfl | ⟨b, off, hab, hc⟩
      · simp at hjl
      · simp only [Option.some.injEq] at hab
        subst hab
        rw [addr_add, hc j hjl, hj]
    · intro v' w' h1 h2 _
      exact h v' w' h1 h2 (below_of_grown hown h2 hB)

end Go.Proofs.YtcfbcffmlinlaaaDoor

namespace Go.Proofs.YtcfbcffmlinlaaaDoor
open Go.RowKit

section
variable {α : Type}

/-- The slice at a reads as xs: sz cells each, as f says. -/
def IsSeq (d : α) (sz : Nat) (f : α → List Value) (w : World) (a : Option Addr) (xs : List α) : Prop :=
  xs = [] ∨ ∃ b off, a = some ⟨b, off, none⟩ ∧ ∀ i, i < xs.length → ∀ j, j < sz → w.cell? ⟨b, off + i * sz + j, none⟩ = some ((f (nthD d xs i)).getD j undef)

theorem IsSeq.ext {d : α} {sz : Nat} {f : α → List Value} {w w' : World} {a : Option Addr} {xs : List α} (h : IsSeq d sz f w a xs) (he : Ext w w') : IsSeq d sz f w' a xs := by
  rcases h with h | ⟨b, off, ha, hc⟩
  · exact .inl h
  · exact .inr ⟨b, off, ha, fun i hi j hj => he.cell (hc i hi j hj)⟩

theorem IsSeq.at {d : α} {sz : Nat} {f : α → List Value} {w : World} {a : Option Addr} {xs : List α} (h : IsSeq d sz f w a xs) {i : Nat} (hi : i < xs.length) :
    ∃ b off, a = some ⟨b, off, none⟩ ∧ ∀ j, j < sz → w.cell? ⟨b, off + i * sz + j, none⟩ = some ((f (nthD d xs i)).getD j undef) := by
  rcases h with rfl | ⟨b, off, ha, hc⟩
  · simp at hi
  · exact ⟨b, off, ha, hc i hi⟩

theorem flatMap_get {f : α → List Value} {sz : Nat} (hf : ∀ x, (f x).length = sz) (d : α) (xs : List α) : ∀ i, i < xs.length → ∀ j, j < sz → (xs.flatMap f)[i * sz + j]? = some ((f (nthD d xs i)).getD j undef) := by
  induction xs with
  | nil => intro i hi; simp at hi
  | cons x r ih =>
    intro i hi j hj
    rw [List.flatMap_cons]
    cases i with
    | zero =>
      rw [Nat.zero_mul, Nat.zero_add, List.getElem?_append_left (by rw [hf]; exact hj), nthD_cons_zero]
      rw [List.getD_eq_getElem?_getD, List.getElem?_eq_getElem (by rw [hf]; exact hj)]; rfl
    | succ i =>
      have e : (i + 1) * sz + j = (f x).length + (i * sz + j) := by rw [hf, Nat.succ_mul]; omega
      rw [e, List.getElem?_append_right (by omega), Nat.add_sub_cancel_left, nthD_cons_succ]
      exact ih i (by simpa using hi) j hj

theorem flatMap_len {f : α → List Value} {sz : Nat} (hf : ∀ x, (f x).length = sz) (xs : List α) : (xs.flatMap f).length = xs.length * sz := by
  induction xs with
  | nil => simp
  | cons x r ih => rw [List.flatMap_cons, List.length_append, hf, ih, List.length_cons, Nat.succ_mul]; omega

theorem IsSeq.own {d : α} {sz : Nat} {f : α → List Value} {w : World} {B : Nat} {E : TypeId} {v : Value} {n : Nat} {xs : List α} (hf : ∀ x, (f x).length = sz) (hsz : 0 < sz)
    (h : w.ownsRow B E sz v n (xs.flatMap f)) : ∃ a cap, v = .slice a n cap ∧ n = xs.length ∧ n ≤ cap ∧ IsSeq d sz f w a xs ∧ (∀ x, a = some x → B ≤ x.block) ∧ (a = none → cap = 0) := by
  have h0 := h
  obtain ⟨hl, h2⟩ := h
  have hln : n = xs.length := by
    rw [flatMap_len hf] at hl
    exact (Nat.eq_of_mul_eq_mul_right hsz hl).symm
  rcases h2 with ⟨rfl, rfl⟩ | ⟨g, cap, cur, rfl, hg, hh, hn, hm, hs, ht⟩
  · exact ⟨none, 0, rfl, hln, Nat.le_refl _, .inl (List.length_eq_zero_iff.1 hln.symm), (fun x h => by cases h), fun _ => rfl⟩
  · refine ⟨_, cap, rfl, hln, hn, .inr ⟨g, 0, rfl, fun i hi j hj => ?_⟩, (fun x h => by cases h; exact hg), fun h => by cases h⟩
    have := h0.cells (g := g) rfl (i * sz + j) _ (flatMap_get hf d xs i hi j hj)
    rw [addr_add] at this
    rw [← this, Nat.zero_add, Nat.zero_add]
end

/-- append of one thing of several cells onto a slice of the call's own. -/
theorem wpList_appS {P : Program} {ops : Array Oper} {rest : List Oper} {o : Oper} {a : Act} {Q : Exit → Act → World → Prop} {w : World} (hgd : o.guard = none) (s x : Operand) (T : TypeId)
    (ho : o.op = .call { callee := .builtin .append, args := #[s, x], argTypes := #[T, T] }) (B : Nat) (E : TypeId) (z : Value) (size bytes : Nat) (hT : P.underlying T = some (.slice E))
    (hE : (P.info? E).map (fun i => (i.zero, i.size, i.bytes)) = some (some z, size, bytes)) (hz : z.cells.size = size) (hsz : 0 < size)
    (v : Value) (n : Nat) (xs : List Value) (ys : List Value) (g : Nat) (hs : a.eval s = v) (hown : w.ownsRow B E size v n xs) (hx : a.eval x = .slice (some ⟨g, 0, none⟩) 1 1)
    (hyl : ys.length = size) (hg : ∀ j, j < size → w.cell? ⟨g, j, none⟩ = ys[j]?) (hy : ∀ u ∈ ys, u.oneCell' = true) (hn : n + 1 ≤ maxLen) (hb : (n + 1) * bytes ≤ 140737488355328) (hB : B ≤ w.heap.size)
    (h : ∀ v' w', w'.ownsRow B E size v' (n + 1) (xs ++ ys) → w.grownBy w' v.ownBlock → Below B w w' → wpList P ops Q rest (a.put o.dst v') w') : wpList P ops Q (o :: rest) a w := by
  obtain ⟨i0, hi, hz0, hz1, hz2⟩ := info_parts hE
  refine wpList_append_own w hgd s x T ho B E i0 z size bytes hT hi hz0 hz1 hz2 hz hsz v n xs hs hown ⟨g, 0, none⟩ 1 1 ys hx (by rw [Nat.one_mul]; exact hyl) ?_ hy hn hb hB ?_
  · intro j u hj
    have hjl : j < ys.length := by
      by_cases hc : j < ys.length
      · exact hc
      · rw [List.getElem?_eq_none (by omega)] at hj; cases hj
    rw [addr_add, Nat.zero_add, hg j (by omega), hj]
  · intro v' w' h1 h2 _
    exact h v' w' h1 h2 (below_of_grown hown h2 hB)

end Go.Proofs.YtcfbcffmlinlaaaDoor

namespace Go.Proofs.YtcfbcffmlinlaaaDoor
open Go.RowKit

theorem ret_int {k : IntKind} {a b : Int} (h : a = b) : Ending.returned (.int k a) = .returned (.int k b) := by rw [h]
theorem ret_bool {a b : Bool} (h : a = b) : Ending.returned (.bool a) = .returned (.bool b) := by rw [h]
theorem vi {k : IntKind} {a b : Int} (h : a = b) : Value.int k a = Value.int k b := by rw [h]
theorem vb {a b : Bool} (h : a = b) : Value.bool a = Value.bool b := by rw [h]

def spc0 : Spc := ⟨0, 0, 0⟩
def cll0 : Cll := ⟨0, 0, 0, 0, 0, 0⟩
def spcCells (s : Spc) : List Value := [.int .i64 s.kind, .int .i64 s.p, .int .i64 s.q]
def cllCells (c : Cll) : List Value := [.int .i64 c.thread, .int .i64 c.obj, .int .i64 c.kind, .int .u64 c.a, .int .u64 c.b, .int .u64 c.c]
theorem spcCells_len (s : Spc) : (spcCells s).length = 3 := rfl
theorem cllCells_len (c : Cll) : (cllCells c).length = 6 := rfl

def IsSpecs (w : World) (a : Option Addr) (l : List Spc) : Prop := IsSeq spc0 3 spcCells w a l
def IsCalls (w : World) (a : Option Addr) (l : List Cll) : Prop := IsSeq cll0 6 cllCells w a l
theorem IsSpecs.ext {w w' : World} {a : Option Addr} {l : List Spc} (h : IsSpecs w a l) (he : Ext w w') : IsSpecs w' a l := IsSeq.ext h he
theorem IsCalls.ext {w w' : World} {a : Option Addr} {l : List Cll} (h : IsCalls w a l) (he : Ext w w') : IsCalls w' a l := IsSeq.ext h he

theorem IsSpecs.at {w : World} {a : Option Addr} {l : List Spc} (h : IsSpecs w a l) {i : Nat} (hi : i < l.length) :
    ∃ b off, a = some ⟨b, off, none⟩ ∧ w.cell? ⟨b, off + i * 3, none⟩ = some (.int .i64 (nthD spc0 l i).kind) ∧ w.cell? ⟨b, off + i * 3 + 1, none⟩ = some (.int .i64 (nthD spc0 l i).p) ∧
      w.cell? ⟨b, off + i * 3 + 2, none⟩ = some (.int .i64 (nthD spc0 l i).q) := by
  obtain ⟨b, off, ha, hc⟩ := IsSeq.at h hi
  exact ⟨b, off, ha, hc 0 (by decide), hc 1 (by decide), hc 2 (by decide)⟩

theorem IsCalls.at {w : World} {a : Option Addr} {l : List Cll} (h : IsCalls w a l) {i : Nat} (hi : i < l.length) :
    ∃ b off, a = some ⟨b, off, none⟩ ∧ w.cell? ⟨b, off + i * 6, none⟩ = some (.int .i64 (nthD cll0 l i).thread) ∧ w.cell? ⟨b, off + i * 6 + 1, none⟩ = some (.int .i64 (nthD cll0 l i).obj) ∧
      w.cell? ⟨b, off + i * 6 + 2, none⟩ = some (.int .i64 (nthD cll0 l i).kind) ∧ w.cell? ⟨b, off + i * 6 + 3, none⟩ = some (.int .u64 (nthD cll0 l i).a) ∧
      w.cell? ⟨b, off + i * 6 + 4, none⟩ = some (.int .u64 (nthD cll0 l i).b) ∧ w.cell? ⟨b, off + i * 6 + 5, none⟩ = some (.int .u64 (nthD cll0 l i).c) := by
  obtain ⟨b, off, ha, hc⟩ := IsSeq.at h hi
  exact ⟨b, off, ha, hc 0 (by decide), hc 1 (by decide), hc 2 (by decide), hc 3 (by decide), hc 4 (by decide), hc 5 (by decide)⟩

/-- Where a script's three lists lie. -/
structure Lies where
  sa : Option Addr
  sc : Nat
  ca : Option Addr
  cc : Nat
  pa : Option Addr
  pc : Nat

def scrCells (s : Scr) (m : Lies) : Array Value := #[.int .i64 s.n, .slice m.sa s.specs.length m.sc, .slice m.ca s.calls.length m.cc, .slice m.pa s.picks.length m.pc]
def scrVal (s : Scr) (m : Lies) : Value := .agg (scrCells s m)

/-- The script's lists lie there. -/
structure LiesAt (s : Scr) (m : Lies) (w : World) : Prop where
  specs : IsSpecs w m.sa s.specs
  calls : IsCalls w m.ca s.calls
  picks : IsInts .i64 w m.pa s.picks

theorem LiesAt.ext {s : Scr} {m : Lies} {w w' : World} (h : LiesAt s m w) (he : Ext w w') : LiesAt s m w' := ⟨h.specs.ext he, h.calls.ext he, h.picks.ext he⟩

/-- Its numbers fit Go's ints, its lists are not longer than a slice may be. -/
structure Fits (s : Scr) : Prop where
  n : -9223372036854775808 ≤ s.n ∧ s.n ≤ 9223372036854775807
  sl : s.specs.length ≤ 9223372036854775807
  cl : s.calls.length ≤ 9223372036854775807
  pl : s.picks.length ≤ 9223372036854775807

def upTo (lim x : Int) : Bool := decide (0 ≤ x) && decide (x ≤ lim)
theorem upTo_iff (lim x : Int) : upTo lim x = true ↔ 0 ≤ x ∧ x ≤ lim := by simp [upTo]
def specB (s : Spc) : Bool := upTo 255 s.kind && (upTo 65535 s.p && upTo 65535 s.q)
def callB (n : Int) (c : Cll) : Bool := upTo (n - 1) c.thread && (upTo 255 c.obj && upTo 255 c.kind)
def okB (s : Scr) : Bool := s.picks.all (upTo 255) && (s.specs.all specB && s.calls.all (callB s.n))

/-- Why a script may not be written; 0: it may. -/
def errF (s : Scr) : Int := if s.n < 1 ∨ 16 < s.n then 1 else if 8 < s.specs.length ∨ 1000 < s.calls.length ∨ 65536 < s.picks.length then 3 else if okB s then 0 else 10

theorem errF_zero (s : Scr) : errF s = 0 ↔ s.ok := by
  unfold errF Scr.ok
  have hp : s.picks.all (upTo 255) = true ↔ ∀ p ∈ s.picks, byteOk p := by
    rw [List.all_eq_true]; simp only [upTo_iff, byteOk]
  have hs : s.specs.all specB = true ↔ ∀ x ∈ s.specs, x.ok := by
    rw [List.all_eq_true]; simp only [specB, Bool.and_eq_true, upTo_iff, Spc.ok, byteOk, wordOk]
  have hc : s.calls.all (callB s.n) = true ↔ ∀ c ∈ s.calls, c.ok s.n := by
    rw [List.all_eq_true]; simp only [callB, Bool.and_eq_true, upTo_iff, Cll.ok, byteOk]
    constructor
    · intro h c hm; have := h c hm; exact ⟨⟨this.1.1, by omega⟩, this.2⟩
    · intro h c hm; have := h c hm; exact ⟨⟨this.1.1, by omega⟩, this.2⟩
  by_cases h1 : s.n < 1 ∨ 16 < s.n
  · rw [if_pos h1]; constructor
    · intro h; omega
    · intro h; omega
  · rw [if_neg h1]
    by_cases h2 : 8 < s.specs.length ∨ 1000 < s.calls.length ∨ 65536 < s.picks.length
    · rw [if_pos h2]; constructor
      · intro h; omega
      · intro h; omega
    · rw [if_neg h2]
      by_cases h3 : okB s = true
      · rw [if_pos h3]
        unfold okB at h3
        simp only [Bool.and_eq_true] at h3
        exact ⟨fun _ => ⟨by omega, by omega, by omega, by omega, hs.1 h3.2.1, hc.1 h3.2.2, hp.1 h3.1⟩, fun _ => rfl⟩
      · rw [if_neg h3]
        constructor
        · intro h; omega
        · intro h
          refine absurd ?_ h3
          unfold okB
          rw [hp.2 h.2.2.2.2.2.2, hs.2 h.2.2.2.2.1, hc.2 h.2.2.2.2.2.1]; rfl

theorem all_take_succ {α : Type} (d : α) (p : α → Bool) (l : List α) (j : Nat) (h : j < l.length) : (l.take (j + 1)).all p = ((l.take j).all p && p (nthD d l j)) := by
  rw [takeD_snoc d l j h, List.all_append]; simp

theorem all_no {α : Type} (d : α) (p : α → Bool) (l : List α) (j : Nat) (h : j < l.length) (hp : p (nthD d l j) = false) : l.all p = false := by
  rw [List.all_eq_false]; exact ⟨nthD d l j, nthD_mem d l j h, by rw [hp]; decide⟩

theorem nth_nthD (l : List Int) (i : Nat) : nthD 0 l i = nth l i := rfl

set_option maxHeartbeats 400000 in
theorem within_any (lim : Int) (a : Option Addr) (n cap : Nat) (l : List Int) (w : World) (hn : n = l.length) (hs : IsInts .i64 w a l) (hlen : l.length ≤ 9223372036854775807) :
    Calls Tryd.prog 47 #[.int .i64 lim, .slice a n cap] w fun e w' => e = .returned (.bool (l.all (upTo lim))) ∧ w' = w := by
  subst hn
  have HS := Lib.hid hs; clear hs
  go_enter Tryd.func47, Tryd.ntmps47
  go_wp2
  go_loop [9] (fun k => ∃ j : Nat, j ≤ l.length ∧ k = .int .i64 j ∧ Hid ((l.take j).all (upTo lim) = true)) (fun k => l.length - (intOf k).toNat)
  case atStart => exact ⟨0, Nat.zero_le _, rfl, Lib.hid (by simp)⟩
  case round =>
    obtain ⟨j, hj, rfl, HJ⟩ := hrel
    by_cases hlt : j < l.length
    · have H1 := Lib.hid (all_take_succ 0 (upTo lim) l j hlt)
      have H2 := Lib.hid (fun hp => all_no 0 (upTo lim) l j hlt hp)
      rw [nth_nthD] at H1 H2
      obtain ⟨b, off, rfl, hc⟩ := HS.out.at hlt
      generalize nth l j = x at *
      by_cases h1 : x < 0
      · have HF : Hid (l.all (upTo lim) = false) := Lib.hid (H2.out (by unfold upTo; rw [decide_eq_false (by omega)]; rfl))
        go_wp2
        go_ret
        exact ⟨by rw [HF.out]; rfl, rfl⟩
      · by_cases h2 : lim < x
        · have HF : Hid (l.all (upTo lim) = false) := Lib.hid (H2.out (by unfold upTo; rw [decide_eq_false (by omega : ¬ x ≤ lim), Bool.and_false]))
          go_wp2
          go_ret
          exact ⟨by rw [HF.out]; rfl, rfl⟩
        · have HT : Hid ((l.take (j + 1)).all (upTo lim) = true) := Lib.hid (by rw [H1.out, HJ.out]; unfold upTo; rw [decide_eq_true (by omega), decide_eq_true (by omega)]; rfl)
          go_wp2
          go_round
          case rel => exact ⟨j + 1, by omega, by go_num, HT⟩
          case measure => simp [intOf]; omega
    · go_wp2
      go_ret
      have hje : j = l.length := by omega
      subst hje
      have := HJ.out
      rw [List.take_length] at this
      exact ⟨by rw [this]; rfl, rfl⟩

end Go.Proofs.YtcfbcffmlinlaaaDoor

namespace Go.Proofs.YtcfbcffmlinlaaaDoor
open Go.RowKit

theorem errF_n (s : Scr) (h : s.n < 1 ∨ 16 < s.n) : errF s = 1 := by unfold errF; rw [if_pos h]
theorem errF_long (s : Scr) (h : ¬ (s.n < 1 ∨ 16 < s.n)) (h2 : 8 < s.specs.length ∨ 1000 < s.calls.length ∨ 65536 < s.picks.length) : errF s = 3 := by unfold errF; rw [if_neg h, if_pos h2]
theorem errF_range (s : Scr) (h : ¬ (s.n < 1 ∨ 16 < s.n)) (h2 : ¬ (8 < s.specs.length ∨ 1000 < s.calls.length ∨ 65536 < s.picks.length)) (h3 : okB s = false) : errF s = 10 := by
  unfold errF; rw [if_neg h, if_neg h2, h3]; rfl
theorem errF_ok (s : Scr) (h : ¬ (s.n < 1 ∨ 16 < s.n)) (h2 : ¬ (8 < s.specs.length ∨ 1000 < s.calls.length ∨ 65536 < s.picks.length)) (h3 : okB s = true) : errF s = 0 := by
  unfold errF; rw [if_neg h, if_neg h2, h3]; rfl

set_option maxRecDepth 100000 in
set_option maxHeartbeats 1000000 in
theorem right_any (s : Scr) (m : Lies) (w : World) (hf : Fits s) (hm : LiesAt s m w) :
    Calls Tryd.prog 31 #[.agg #[.int .i64 s.n, .slice m.sa s.specs.length m.sc, .slice m.ca s.calls.length m.cc, .slice m.pa s.picks.length m.pc]] w fun e w' => e = .returned (.int .i64 (errF s)) ∧ Ext w w' := by
  obtain ⟨sa, sc, ca, cc, pa, pc⟩ := m
  simp only
  have HM1 := Lib.hid hm.specs
  have HM2 := Lib.hid hm.calls
  have HM3 := Lib.hid hm.picks
  clear hm
  simp only at HM1 HM2 HM3
  obtain ⟨⟨f1, f2⟩, f3, f4, f5⟩ := hf
  by_cases hn : s.n < 1 ∨ 16 < s.n
  · have HE := Lib.hid (errF_n s hn)
    rcases hn with hn | hn
    · go_enter Tryd.func31, Tryd.ntmps31
      go_wp2
      go_ret
      exact ⟨by rw [HE.out]; rfl, (Ext.refl _).alloc _⟩
    · have hn1 : ¬ s.n < 1 := by omega
      go_enter Tryd.func31, Tryd.ntmps31
      go_wp2
      go_ret
      exact ⟨by rw [HE.out]; rfl, (Ext.refl _).alloc _⟩
  · have hn1 : 1 ≤ s.n := by omega
    have hn2 : s.n ≤ 16 := by omega
    by_cases hl : 8 < s.specs.length ∨ 1000 < s.calls.length ∨ 65536 < s.picks.length
    · have HE := Lib.hid (errF_long s hn hl)
      clear hn
      by_cases l1 : 8 < s.specs.length
      · go_enter Tryd.func31, Tryd.ntmps31
        go_wp2
        go_ret
        exact ⟨by rw [HE.out]; rfl, (Ext.refl _).alloc _⟩
      · by_cases l2 : 1000 < s.calls.length
        · clear hl
          go_enter Tryd.func31, Tryd.ntmps31
          go_wp2
          go_ret
          exact ⟨by rw [HE.out]; rfl, (Ext.refl _).alloc _⟩
        · have l3 : 65536 < s.picks.length := by omega
          clear hl
          go_enter Tryd.func31, Tryd.ntmps31
          go_wp2
          go_ret
          exact ⟨by rw [HE.out]; rfl, (Ext.refl _).alloc _⟩
    · have HR := Lib.hid (errF_range s hn hl)
      have HK := Lib.hid (errF_ok s hn hl)
      have l1 : s.specs.length ≤ 8 := by omega
      have l2 : s.calls.length ≤ 1000 := by omega
      have l3 : s.picks.length ≤ 65536 := by omega
      clear hn hl
      go_enter Tryd.func31, Tryd.ntmps31
      go_wp2_with fail
      refine (within_any 255 _ _ _ s.picks _ rfl (HM3.out.ext ((Ext.refl _).alloc _)) (by omega)).mono ?_
      rintro e w1 ⟨rfl, rfl⟩
      cases hp : s.picks.all (upTo 255)
      · have HE : Hid (errF s = 10) := Lib.hid (HR.out (by unfold okB; rw [hp]; rfl))
        clear hp
        go_wp2
        go_ret
        exact ⟨by rw [HE.out]; rfl, (Ext.refl _).alloc _⟩
      · have HP := Lib.hid hp; clear hp
        go_wp2_with fail
        go_loopw [41] (fun k wr => ∃ j : Nat, j ≤ s.specs.length ∧ k = .int .i64 j ∧ Hid ((s.specs.take j).all specB = true) ∧
          Ext (w.alloc (.cells #[.int .i64 s.n, .slice sa s.specs.length sc, .slice ca s.calls.length cc, .slice pa s.picks.length pc] 26)) wr) (fun k _ => s.specs.length - (intOf k).toNat)
        case atStart => exact ⟨0, Nat.zero_le _, rfl, Lib.hid (by simp), Ext.refl _⟩
        case round =>
          obtain ⟨j, hj, rfl, HJ, hx⟩ := hrel
          have cN : wr.cell? ⟨w.heap.size, 0, none⟩ = some (.int .i64 s.n) := hx.cell (by simp)
          have cC : wr.cell? ⟨w.heap.size, 2, none⟩ = some (.slice ca s.calls.length cc) := hx.cell (by simp)
          have hw : Ext w wr := ((Ext.refl w).alloc _).trans hx
          by_cases hlt : j < s.specs.length
          · have H1 := Lib.hid (all_take_succ spc0 specB s.specs j hlt)
            have H2 := Lib.hid (fun hp => all_no spc0 specB s.specs j hlt hp)
            have hsp := HM1.out.ext hw
            obtain ⟨b, off, rfl, c0, c1, c2⟩ := hsp.at hlt
            clear hsp cC
            generalize nthD spc0 s.specs j = x at *
            have HX := Lib.hid hx; clear hx
            clear hw
            cases hk : upTo 255 x.kind
            · have HF : Hid (errF s = 10) := Lib.hid (HR.out (by unfold okB; rw [H2.out (by unfold specB; rw [hk]; rfl)]; simp))
              have hk1 : [x.kind].all (upTo 255) = false := by simp [hk]
              have HK1 := Lib.hid hk1; clear hk1 hk
              go_wp2_with fail
              refine (within_any 255 _ 1 _ [x.kind] _ rfl (ints_fresh _ _ _ _ rfl _ _ (by simp)) (by simp)).mono ?_
              rintro e w' ⟨rfl, rfl⟩
              rw [HK1.out]
              go_wp2
              go_ret
              exact ⟨by rw [HF.out]; rfl, ((Ext.refl _).alloc _).trans ((HX.out.alloc _).alloc _)⟩
            · have hk1 : [x.kind].all (upTo 255) = true := by simp [hk]
              have HK1 := Lib.hid hk1; clear hk1
              have hal : [x.p, x.q].all (upTo 65535) = (upTo 65535 x.p && upTo 65535 x.q) := by simp
              cases hpq : (upTo 65535 x.p && upTo 65535 x.q)
              · have HF : Hid (errF s = 10) := Lib.hid (HR.out (by unfold okB; rw [H2.out (by unfold specB; rw [hpq, Bool.and_false])]; simp))
                have HK2 := Lib.hid (hal.trans hpq); clear hal hpq hk
                go_wp2_with fail
                refine (within_any 255 _ 1 _ [x.kind] _ rfl (ints_fresh _ _ _ _ rfl _ _ (by simp)) (by simp)).mono ?_
                rintro e w' ⟨rfl, rfl⟩
                rw [HK1.out]
                go_wp2_with fail
                refine (within_any 65535 _ 2 _ [x.p, x.q] _ rfl (ints_fresh _ _ _ _ rfl _ _ (by simp)) (by simp)).mono ?_
                rintro e w' ⟨rfl, rfl⟩
                rw [HK2.out]
                go_wp2
                go_ret
                exact ⟨by rw [HF.out]; rfl, ((Ext.refl _).alloc _).trans (((HX.out.alloc _).alloc _).alloc _)⟩
              · have HT : Hid ((s.specs.take (j + 1)).all specB = true) := Lib.hid (by rw [H1.out, HJ.out]; unfold specB; rw [hk, hpq]; rfl)
                have HK2 := Lib.hid (hal.trans hpq); clear hal hpq hk
                go_wp2_with fail
                refine (within_any 255 _ 1 _ [x.kind] _ rfl (ints_fresh _ _ _ _ rfl _ _ (by simp)) (by simp)).mono ?_
                rintro e w' ⟨rfl, rfl⟩
                rw [HK1.out]
                go_wp2_with fail
                refine (within_any 65535 _ 2 _ [x.p, x.q] _ rfl (ints_fresh _ _ _ _ rfl _ _ (by simp)) (by simp)).mono ?_
                rintro e w' ⟨rfl, rfl⟩
                rw [HK2.out]
                go_wp2
                go_roundw
                case rel => exact ⟨j + 1, by omega, by go_num, HT, ((HX.out.alloc _).alloc _).alloc _⟩
                case measure => simp [intOf]; omega
          · have hje : j = s.specs.length := by omega
            have HSP : Hid (s.specs.all specB = true) := Lib.hid (by have := HJ.out; rw [hje, List.take_length] at this; exact this)
            clear HJ
            go_wp2_with fail
            go_loopw [63] (fun k wr => ∃ j : Nat, j ≤ s.calls.length ∧ k = .int .i64 j ∧ Hid ((s.calls.take j).all (callB s.n) = true) ∧
              Ext (w.alloc (.cells #[.int .i64 s.n, .slice sa s.specs.length sc, .slice ca s.calls.length cc, .slice pa s.picks.length pc] 26)) wr) (fun k _ => s.calls.length - (intOf k).toNat)
            case atStart => exact ⟨0, Nat.zero_le _, rfl, Lib.hid (by simp), hx⟩
            case round =>
              clear hj hlt hje cN hw hx
              obtain ⟨j, hj, rfl, HJ, hx⟩ := hrel
              have cN : wr.cell? ⟨w.heap.size, 0, none⟩ = some (.int .i64 s.n) := hx.cell (by simp)
              have hw : Ext w wr := ((Ext.refl w).alloc _).trans hx
              by_cases hlt : j < s.calls.length
              · have H1 := Lib.hid (all_take_succ cll0 (callB s.n) s.calls j hlt)
                have H2 := Lib.hid (fun hp => all_no cll0 (callB s.n) s.calls j hlt hp)
                obtain ⟨b, off, rfl, c0, c1, c2, c3, c4, c5⟩ := (HM2.out.ext hw).at hlt
                have hbs : w.heap.size < wr.heap.size := World.block_lt_of_cell? _ _ cN
                generalize nthD cll0 s.calls j = x at *
                have HX := Lib.hid hx; clear hx
                clear hw
                cases hk : upTo (s.n - 1) x.thread
                · have HF : Hid (errF s = 10) := Lib.hid (HR.out (by unfold okB; rw [H2.out (by unfold callB; rw [hk]; rfl)]; simp))
                  have hk1 : [x.thread].all (upTo (s.n - 1)) = false := by simp [hk]
                  have HK1 := Lib.hid hk1; clear hk1 hk
                  go_wp2_with fail
                  refine (within_any (s.n - 1) _ 1 _ [x.thread] _ rfl (ints_fresh _ _ _ _ rfl _ _ (by simp)) (by simp)).mono ?_
                  rintro e w' ⟨rfl, rfl⟩
                  rw [HK1.out]
                  go_wp2
                  go_ret
                  exact ⟨by rw [HF.out]; rfl, ((Ext.refl _).alloc _).trans ((HX.out.alloc _).alloc _)⟩
                · have hk1 : [x.thread].all (upTo (s.n - 1)) = true := by simp [hk]
                  have HK1 := Lib.hid hk1; clear hk1
                  have hal : [x.obj, x.kind].all (upTo 255) = (upTo 255 x.obj && upTo 255 x.kind) := by simp
                  cases hpq : (upTo 255 x.obj && upTo 255 x.kind)
                  · have HF : Hid (errF s = 10) := Lib.hid (HR.out (by unfold okB; rw [H2.out (by unfold callB; rw [hpq, Bool.and_false])]; simp))
                    have HK2 := Lib.hid (hal.trans hpq); clear hal hpq hk
                    go_wp2_with fail
                    refine (within_any (s.n - 1) _ 1 _ [x.thread] _ rfl (ints_fresh _ _ _ _ rfl _ _ (by simp)) (by simp)).mono ?_
                    rintro e w' ⟨rfl, rfl⟩
                    rw [HK1.out]
                    go_wp2_with fail
                    refine (within_any 255 _ 2 _ [x.obj, x.kind] _ rfl (ints_fresh _ _ _ _ rfl _ _ (by simp)) (by simp)).mono ?_
                    rintro e w' ⟨rfl, rfl⟩
                    rw [HK2.out]
                    go_wp2
                    go_ret
                    exact ⟨by rw [HF.out]; rfl, ((Ext.refl _).alloc _).trans (((HX.out.alloc _).alloc _).alloc _)⟩
                  · have HT : Hid ((s.calls.take (j + 1)).all (callB s.n) = true) := Lib.hid (by rw [H1.out, HJ.out]; unfold callB; rw [hk, hpq]; rfl)
                    have HK2 := Lib.hid (hal.trans hpq); clear hal hpq hk
                    go_wp2_with fail
                    refine (within_any (s.n - 1) _ 1 _ [x.thread] _ rfl (ints_fresh _ _ _ _ rfl _ _ (by simp)) (by simp)).mono ?_
                    rintro e w' ⟨rfl, rfl⟩
                    rw [HK1.out]
                    go_wp2_with fail
                    refine (within_any 255 _ 2 _ [x.obj, x.kind] _ rfl (ints_fresh _ _ _ _ rfl _ _ (by simp)) (by simp)).mono ?_
                    rintro e w' ⟨rfl, rfl⟩
                    rw [HK2.out]
                    go_wp2
                    go_roundw
                    case rel => exact ⟨j + 1, by omega, by go_num, HT, ((HX.out.alloc _).alloc _).alloc _⟩
                    case measure => simp [intOf]; omega
              · have hje : j = s.calls.length := by omega
                have HCP : Hid (s.calls.all (callB s.n) = true) := Lib.hid (by have := HJ.out; rw [hje, List.take_length] at this; exact this)
                have HF : Hid (errF s = 0) := Lib.hid (HK.out (by unfold okB; rw [HP.out, HSP.out, HCP.out]; rfl))
                go_wp2
                go_ret
                exact ⟨by rw [HF.out]; rfl, hw⟩

end Go.Proofs.YtcfbcffmlinlaaaDoor

namespace Go.Proofs.YtcfbcffmlinlaaaDoor

theorem wraps_u64 (n : Int) (h0 : 0 ≤ n) (h1 : n < 2 ^ 64) : IntKind.u64.wrap n = n := by rw [IntKind.wrap_u64]; omega

theorem u64_and127 (y : Int) (h0 : 0 ≤ y) (h1 : y < 18446744073709551616) : bits .and .u64 y 127 = y % 128 :=
  bits_mask .u64 64 (by decide) wraps_u64 7 (by decide) y h0 h1

theorem nat_or128 (a : Nat) (h : a < 128) : a ||| 128 = a + 128 := by
  have := Nat.two_pow_add_eq_or_of_lt (i := 7) (b := a) h 1
  have e : (2 : Nat) ^ 7 * 1 = 128 := by decide
  rw [e] at this
  rw [Nat.or_comm, ← this, Nat.add_comm]

theorem u64_or128 (m : Int) (h0 : 0 ≤ m) (h1 : m < 128) : bits .or .u64 m 128 = 128 + m := by
  obtain ⟨a, rfl⟩ := Int.eq_ofNat_of_zero_le h0
  have := bits_or_u64_nat a 128 (by omega) (by decide)
  have e : ((128 : Nat) : Int) = 128 := rfl
  rw [e] at this
  rw [this, nat_or128 a (by omega)]; omega

end Go.Proofs.YtcfbcffmlinlaaaDoor

namespace Go.Proofs.YtcfbcffmlinlaaaDoor
open Go.RowKit

set_option maxHeartbeats 400000 in
theorem two_any (n : Int) (w : World) (h0 : 0 ≤ n) (h1 : n ≤ 65535) :
    Calls Tryd.prog 32 #[.int .i64 n] w fun e w' => e = .returned (.slice (some ⟨w.heap.size, 0, none⟩) 2 2) ∧ w' = w.alloc (.cells #[.int .u8 (n / 256), .int .u8 (n % 256)] 5) := by
  go_enter Tryd.func32, Tryd.ntmps32
  go_wp2
  go_ret
  exact ⟨rfl, rfl⟩

theorem Tryd.info5 : (Tryd.prog.info? 5).map (fun i => (i.zero, i.size, i.bytes)) = some (some (.int .u8 0), 1, 1) := by kernel_rfl

theorem IsInts.ownK {k : IntKind} {w : World} {B : Nat} {E : TypeId} {v : Value} {n : Nat} {xs : List Int} (h : w.ownsRow B E 1 v n (xs.map (Value.int k))) :
    ∃ a cap, v = .slice a n cap ∧ n = xs.length ∧ n ≤ cap ∧ IsInts k w a xs ∧ (a = none → cap = 0) := by
  have h0 := h
  obtain ⟨hl, h2⟩ := h
  have hln : n = xs.length := by simpa using hl.symm
  rcases h2 with ⟨rfl, rfl⟩ | ⟨g, cap, cur, rfl, hg, hh, hn, hm, hs, ht⟩
  · exact ⟨none, 0, rfl, hln, Nat.le_refl _, .inl (by simpa using hl), fun _ => rfl⟩
  · refine ⟨_, cap, rfl, hln, hn, .inr ⟨g, 0, rfl, fun i hi => ?_⟩, fun h => by cases h⟩
    have := h0.cells (g := g) rfl i (.int k (nth xs i)) (by rw [List.getElem?_map, getElem?_nth xs i hi]; rfl)
    rw [addr_add] at this; simpa using this

theorem IsInts.vals {k : IntKind} {w : World} {a : Option Addr} {xs : List Int} (h : IsInts k w a xs) : IsVals w a (xs.map (Value.int k)) := by
  rcases h with rfl | ⟨b, off, ha, hc⟩
  · exact .inl rfl
  · refine .inr ⟨b, off, ha, fun i hi => ?_⟩
    rw [List.length_map] at hi
    rw [hc i hi, List.getElem?_map, getElem?_nth xs i hi]; rfl

theorem oneCell_ints (k : IntKind) (l : List Int) : ∀ u ∈ l.map (Value.int k), u.oneCell' = true := by
  intro u hu
  obtain ⟨b, _, rfl⟩ := List.mem_map.1 hu
  rfl

/-- What script.number answers. -/
def NumPost (x : Int) (w : World) (e : Ending) (w' : World) : Prop :=
  ∃ a cap, e = .returned (.slice a (numB 10 x).length cap) ∧ (a = none → cap = 0) ∧ IsInts .u8 w' a (numB 10 x) ∧ Ext w w'

theorem numB_step (f : Nat) (y : Int) (h : 127 < y) : numB (f + 1) y = (128 + y % 128) :: numB f (y / 128) := by
  show (if y ≤ 127 then _ else _) = _
  rw [if_neg (by omega)]
theorem numB_end (f : Nat) (y : Int) (h : y ≤ 127) : numB f y = [y] := by
  cases f with
  | zero => rfl
  | succ f => show (if y ≤ 127 then _ else _) = _; rw [if_pos h]

theorem num_k (x y : Int) (k : Nat) (hx : x < 18446744073709551616) (h : y * weight k ≤ x) (hy : 127 < y) : k ≤ 8 := by
  by_cases hk : k ≤ 8
  · exact hk
  · have h9 := weight_mono (show 9 ≤ k by omega)
    rw [weight_nine] at h9
    have := Int.mul_le_mul_of_nonneg_right (show 128 ≤ y by omega) (Int.le_of_lt (weight_pos k))
    omega

theorem num_next (x y : Int) (k : Nat) (h : y * weight k ≤ x) (h0 : 0 ≤ y) : y / 128 * weight (k + 1) ≤ x := by
  rw [weight_succ, Int.mul_comm (weight k) 128, ← Int.mul_assoc]
  have hp := weight_pos k
  have : y / 128 * 128 * weight k ≤ y * weight k := Int.mul_le_mul_of_nonneg_right (by omega) (Int.le_of_lt hp)
  omega

set_option maxHeartbeats 1000000 in
theorem number_any (x : Int) (w : World) (h : u64Ok x) :
    Calls Tryd.prog 33 #[.int .u64 x] w (NumPost x w) := by
  obtain ⟨h0, h1⟩ := h
  have HX1 := Lib.hid h1
  go_enter Tryd.func33, Tryd.ntmps33
  go_wp2
  go_loopw [0, 3] (fun v o wr => ∃ (y : Int) (k : Nat) (done : List Int), v = .int .u64 y ∧ 0 ≤ y ∧ y < 18446744073709551616 ∧ k ≤ 9 ∧ Hid (done.length = k) ∧ Hid (y * weight k ≤ x) ∧ Hid (numB 10 x = done ++ numB (10 - k) y) ∧
      wr.ownsRow w.heap.size 5 1 o k (done.map (Value.int .u8)) ∧ Below w.heap.size w wr) (fun v _ _ => (intOf v).toNat)
  case atStart => exact ⟨x, 0, [], rfl, h0, h1, by omega, Lib.hid rfl, Lib.hid (by rw [weight_zero]; omega), Lib.hid rfl, World.ownsRow_nil _ _ _ _, Below.refl _ _⟩
  case round =>
    obtain ⟨y, k, done, rfl, y0, y1, hk, HL, HY, HE, hown, hb⟩ := hrel
    have HO := Lib.hid hown; clear hown
    have HB := Lib.hid hb; clear hb
    by_cases hy : 127 < y
    · have hk8 := num_k x y k HX1.out HY.out hy
      have b1 := u64_and127 y y0 y1
      have b2 := u64_or128 (y % 128) (by omega) (by omega)
      go_wp2_with (at_builtin; refine wpList_app1 rfl (.tmp 8) (.tmp 13) 43 rfl w.heap.size 5 _ 1 Tryd.underlying43 Tryd.info5 rfl _ _ _ (.int .u8 (128 + y % 128)) _ rfl (HO.out.alloc _) rfl ?_ rfl ?_ ?_ ?_ ?_; rotate_right; intro v' w1 ho hg hbb)
      any_goals (first | (rw [World.cell?_alloc_at _ _ _ _ (by simp)]; rfl) | (simp; done) | (unfold maxLen; omega) | omega | (have := HB.out.size; simp; omega))
      have HO2 := Lib.hid ho; clear ho
      have HB2 := Lib.hid ((HB.out.alloc HB.out.size _).trans hbb)
      clear hbb hg
      go_wp2
      go_roundw
      case rel =>
        refine ⟨y / 128, k + 1, done ++ [128 + y % 128], by go_num, by omega, by omega, by omega, Lib.hid (by rw [List.length_append, HL.out]; rfl), Lib.hid (num_next x y k HY.out y0), Lib.hid ?_, by rw [List.map_append]; exact HO2.out, HB2.out⟩
        have e : 10 - k = (10 - (k + 1)) + 1 := by omega
        rw [HE.out, e, numB_step _ y hy, List.append_assoc]; rfl
      case measure => simp [intOf]; omega
    · have hfin : numB 10 x = done ++ [y] := by rw [HE.out, numB_end _ y (by omega)]
      have HF := Lib.hid hfin; clear hfin
      go_wp2_with (at_builtin; refine wpList_app1 rfl (.tmp 15) (.tmp 18) 43 rfl w.heap.size 5 _ 1 Tryd.underlying43 Tryd.info5 rfl _ _ _ (.int .u8 y) _ rfl (HO.out.alloc _) rfl ?_ rfl ?_ ?_ ?_ ?_; rotate_right; intro v' w1 ho hg hbb)
      any_goals (first | (rw [World.cell?_alloc_at _ _ _ _ (by simp)]; rfl) | (simp; done) | (unfold maxLen; omega) | omega | (have := HB.out.size; simp; omega))
      go_wp2
      go_ret
      have hown : w1.ownsRow w.heap.size 5 1 v' (k + 1) ((numB 10 x).map (Value.int .u8)) := by rw [HF.out, List.map_append]; exact ho
      obtain ⟨a, cap, rfl, hn, _, hi, hnil⟩ := IsInts.ownK hown
      exact ⟨a, cap, by rw [← hn]; rfl, hnil, hi, (HB.out.alloc HB.out.size _).trans hbb⟩

end Go.Proofs.YtcfbcffmlinlaaaDoor

namespace Go.Proofs.YtcfbcffmlinlaaaDoor
open Go.RowKit

/-- v gathers the bytes cur, in blocks from B on; what was in w0 below B is as it was. -/
structure Enc (w0 : World) (B : Nat) (w : World) (v : Value) (cur : List Int) : Prop where
  own : w.ownsRow B 5 1 v cur.length (cur.map (Value.int .u8))
  below : Below B w0 w
  room : B ≤ w.heap.size

theorem own_ext {w w' : World} {B : Nat} {E : TypeId} {size n : Nat} {v : Value} {xs : List Value} (h : w.ownsRow B E size v n xs) (he : Ext w w') : w'.ownsRow B E size v n xs := by
  refine ⟨h.1, ?_⟩
  rcases h.2 with h2 | ⟨g, cap, cur, hv, hg, hh, r⟩
  · exact .inl h2
  · refine .inr ⟨g, cap, cur, hv, hg, ?_, r⟩
    rw [he.block g (Array.getElem?_eq_some_iff.1 hh).1]; exact hh

theorem Enc.ext {w0 : World} {B : Nat} {w w' : World} {v : Value} {cur : List Int} (h : Enc w0 B w v cur) (he : Ext w w') : Enc w0 B w' v cur :=
  ⟨own_ext h.own he, h.below.trans (Below.mono he h.room), Nat.le_trans h.room he.size⟩
theorem Enc.alloc {w0 : World} {B : Nat} {w : World} {v : Value} {cur : List Int} (h : Enc w0 B w v cur) (o : Obj) : Enc w0 B (w.alloc o) v cur := h.ext ((Ext.refl w).alloc o)
theorem Enc.drewN {w0 : World} {B : Nat} {w : World} {v : Value} {cur : List Int} (h : Enc w0 B w v cur) (n : Nat) : Enc w0 B (w.drewN n) v cur := h.ext ((Ext.refl w).drewN n)

theorem Enc.lit {w0 w : World} {B : Nat} (hb : Below B w0 w) (hB : B ≤ w.heap.size) (cur : List Int) (cs : Array Value) (hcs : cs = (cur.map (Value.int .u8)).toArray) (hl : cur.length ≤ maxLen) :
    Enc w0 B (w.alloc (.cells cs 5)) (.slice (some ⟨w.heap.size, 0, none⟩) cur.length cur.length) cur := by
  refine ⟨⟨by simp, .inr ⟨w.heap.size, cur.length, cs, rfl, hB, heap_alloc_new w _, Nat.le_refl _, hl, by rw [hcs]; simp, by rw [hcs]; simp [List.take_of_length_le]⟩⟩, hb.alloc hB _, by simp; omega⟩

/-- Each block that holds no bytes is as it was. -/
def Kept (w w' : World) : Prop := ∀ (k : Nat) (cs : Array Value) (E : TypeId) (f : Nat × Nat), E ≠ 5 → w.heap[k]? = some (.cells cs E f) → w'.heap[k]? = some (.cells cs E f)

theorem Enc.kept {w0 : World} {B : Nat} {w w' : World} {v : Value} {cur : List Int} (h : Enc w0 B w v cur) (hg : w.grownBy w' v.ownBlock) : Kept w w' := by
  intro k cs E f hE hk
  rw [hg.block k (Array.getElem?_eq_some_iff.1 hk).1 ?_]
  · exact hk
  · intro he
    rcases h.own.2 with ⟨h2, _⟩ | ⟨g, cap, cur', hv, hg', hh, r⟩
    · rw [h2] at he; simp [Value.ownBlock] at he
    · rw [hv] at he
      simp [Value.ownBlock] at he
      subst he
      rw [hk] at hh
      simp at hh
      exact hE hh.2.1

theorem block_new (w : World) (o : Obj) : (w.alloc o).heap[w.heap.size]? = some o := heap_alloc_new w o
theorem block_old {w : World} {k : Nat} {x : Obj} (o : Obj) (h : w.heap[k]? = some x) : (w.alloc o).heap[k]? = some x := by
  rw [Below.heap_alloc w o k (Array.getElem?_eq_some_iff.1 h).1]; exact h
theorem block_ext {w w' : World} {k : Nat} {x : Obj} (he : Ext w w') (h : w.heap[k]? = some x) : w'.heap[k]? = some x := by
  rw [he.block k (Array.getElem?_eq_some_iff.1 h).1]; exact h
theorem block_lt {w : World} {k : Nat} {x : Obj} (h : w.heap[k]? = some x) : k < w.heap.size := (Array.getElem?_eq_some_iff.1 h).1
theorem block_cell {w : World} {k : Nat} {cs : Array Value} {E : TypeId} {f : Nat × Nat} (h : w.heap[k]? = some (.cells cs E f)) (i : Nat) {v : Value} (hv : cs[i]? = some v) : w.cell? ⟨k, i, none⟩ = some v := by
  simp [World.cell?, h, hv]

theorem wpList_enc {ops : Array Oper} {rest : List Oper} {o : Oper} {a : Act} {Q : Exit → Act → World → Prop} {w : World} (hgd : o.guard = none) (s x : Operand)
    (ho : o.op = .call { callee := .builtin .append, args := #[s, x], argTypes := #[43, 43] }) (w0 : World) (B : Nat) (v : Value) (cur : List Int)
    (ys : List Int) (src : Option Addr) (m c : Nat) (hm : m = ys.length) (hs : a.eval s = v) (henc : Enc w0 B w v cur) (hx : a.eval x = .slice src m c)
    (hnil : src = none → c = 0) (hsrc : IsInts .u8 w src ys) (hn : cur.length + m ≤ 100000000)
    (h : ∀ v' w', Enc w0 B w' v' (cur ++ ys) → Kept w w' → wpList Tryd.prog ops Q rest (a.put o.dst v') w') : wpList Tryd.prog ops Q (o :: rest) a w := by
  have hnil' : src = none → ys.map (Value.int .u8) = [] ∧ c = 0 := by
    intro h0
    refine ⟨?_, hnil h0⟩
    rcases hsrc with rfl | ⟨b, off, hab, _⟩
    · rfl
    · rw [h0] at hab; cases hab
  refine wpList_appN hgd s x 43 ho B 5 (.int .u8 0) 1 Tryd.underlying43 Tryd.info5 rfl v cur.length (cur.map (Value.int .u8)) (ys.map (Value.int .u8)) src m c (by simpa using hm) hs henc.own hx hnil' hsrc.vals (oneCell_ints .u8 ys)
    (by unfold maxLen; omega) (by omega) henc.room ?_
  intro v' w' h1 h2 h3
  refine h v' w' ⟨?_, henc.below.trans h3, Nat.le_trans henc.room h3.size⟩ (henc.kept h2)
  rw [← List.map_append] at h1
  rw [List.length_append, ← hm]
  exact h1

theorem encTwo_fresh (w : World) (n : Int) (E : TypeId) : IsInts .u8 (w.alloc (.cells #[.int .u8 (n / 256), .int .u8 (n % 256)] E)) (some ⟨w.heap.size, 0, none⟩) (encTwo n) :=
  ints_fresh .u8 w (encTwo n) _ rfl E _ rfl

/-- the bytes ahead of the specs, and of the first j of them. -/
def preS (s : Scr) (j : Nat) : List Int := s.n :: (s.specs.length : Int) :: (s.specs.take j).flatMap encSpec
def preC (s : Scr) (j : Nat) : List Int := preS s s.specs.length ++ (encTwo s.calls.length ++ (s.calls.take j).flatMap encCall)

theorem preS_succ (s : Scr) (j : Nat) (h : j < s.specs.length) : preS s (j + 1) = preS s j ++ encSpec (nthD spc0 s.specs j) := by
  unfold preS; rw [takeD_snoc spc0 s.specs j h, List.flatMap_append]; simp
theorem preC_succ (s : Scr) (j : Nat) (h : j < s.calls.length) : preC s (j + 1) = preC s j ++ encCall (nthD cll0 s.calls j) := by
  unfold preC; rw [takeD_snoc cll0 s.calls j h, List.flatMap_append]; simp
theorem preC_zero (s : Scr) : preC s 0 = preS s s.specs.length ++ encTwo s.calls.length := by unfold preC; simp
theorem enc_pre (s : Scr) : encS s = preC s s.calls.length ++ encRuns s.picks.length s.picks := by
  unfold encS preC preS; rw [List.take_length, List.take_length]; simp

theorem encTwo_len (n : Int) : (encTwo n).length = 2 := rfl
theorem encSpec_len (s : Spc) : (encSpec s).length = 5 := rfl
theorem encCall_len (c : Cll) : (encCall c).length ≤ 36 := by
  have a := (numB_len 10 c.a).2
  have b := (numB_len 10 c.b).2
  have d := (numB_len 10 c.c).2
  unfold encCall; simp; omega

end Go.Proofs.YtcfbcffmlinlaaaDoor
