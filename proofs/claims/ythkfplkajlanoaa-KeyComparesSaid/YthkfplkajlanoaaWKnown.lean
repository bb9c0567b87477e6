/-
  The law's known keys, walked.
-/
import Derived.Test.YthkfplkajlanoaaWOrder
import Derived.Test.YthkfplkajlanoaaWWithin
import Derived.Test.YthkfplkajlanoaaWBefore
import Derived.Test.YthkfplkajlanoaaReg
namespace Go.Proofs.Ythkfplkajlanoaa
open Go.RowKit

/-- Merging does what it should, whatever is compared. -/
def SymAll : Prop := ∀ (cf : Int → Int → Int) (n L c : Nat) (w0 : World), Srt.Cmp cf → CmpAt cf n L w0 → n ≤ 1000000 → SymAt cf n L c n w0

theorem sorted_nth {cf : Int → Int → Int} (C : Srt.Cmp cf) {o : List Int} {n : Nat} (hs : Srt.Sorted cf o) (hp : o.Perm (Srt.ids n)) (p : Int → Int → Bool) (hpp : ∀ x y, p x y = true ↔ Srt.Lt cf x y) (i : Nat) (hi : i < n) :
    (Srt.ids n).countP (fun k => p k i) < o.length ∧ nth o ((Srt.ids n).countP (fun k => p k i)) = i :=
  Srt.Sorted.perm_pos hs C hp p hpp (Srt.ids_mem.2 ⟨by omega, by omega⟩)

def knownK : List (List Int) := [[5], [4, 0], [4], [5]]

theorem comes_pos {ks : List (List Int)} {o : List Int} {n : Nat} (hs : Srt.Sorted (cfK ks) o) (hp : o.Perm (Srt.ids n)) (i : Nat) (hi : i < n) : comesN ks i n < o.length ∧ nth o (comesN ks i n) = i :=
  sorted_nth (cfK_cmp ks) hs hp (comesB ks) (comesB_lt ks) i hi

theorem known_order {o : List Int} (hs : Srt.Sorted (cfK knownK) o) (hp : o.Perm (Srt.ids 4)) : nth o 0 = 2 ∧ nth o 1 = 1 ∧ nth o 2 = 0 ∧ nth o 3 = 3 := by
  have h0 := (comes_pos hs hp 2 (by decide)).2
  have h1 := (comes_pos hs hp 1 (by decide)).2
  have h2 := (comes_pos hs hp 0 (by decide)).2
  have h3 := (comes_pos hs hp 3 (by decide)).2
  rw [show comesN knownK (2 : Nat) 4 = 0 by decide] at h0
  rw [show comesN knownK (1 : Nat) 4 = 1 by decide] at h1
  rw [show comesN knownK (0 : Nat) 4 = 2 by decide] at h2
  rw [show comesN knownK (3 : Nat) 4 = 3 by decide] at h3
  exact ⟨h0, h1, h2, h3⟩

def knownM (H : Nat) : List KM := [⟨[5], some ⟨H, 0, none⟩, 1⟩, ⟨[4, 0], some ⟨H + 1, 0, none⟩, 2⟩, ⟨[4], some ⟨H + 1 + 1, 0, none⟩, 1⟩, ⟨[5], some ⟨H + 1 + 1 + 1, 0, none⟩, 1⟩]

theorem known_keys (w : World) (H : Nat) (hH : H = w.heap.size) :
    KeysAt (knownM H) (some ⟨H + 1 + 1 + 1 + 1, 0, none⟩) (((((w.alloc (.cells #[.int .i64 5] 3)).alloc (.cells #[.int .i64 4, .int .i64 0] 3)).alloc (.cells #[.int .i64 4] 3)).alloc (.cells #[.int .i64 5] 3)).alloc
      (.cells #[.slice (some ⟨H, 0, none⟩) 1 1, .slice (some ⟨H + 1, 0, none⟩) 2 2, .slice (some ⟨H + 1 + 1, 0, none⟩) 1 1, .slice (some ⟨H + 1 + 1 + 1, 0, none⟩) 1 1] 22)) := by
  have i1 := ints_fresh .i64 w [5] #[.int .i64 5] rfl 3 H hH
  have i2 := ints_fresh .i64 (w.alloc (.cells #[.int .i64 5] 3)) [4, 0] #[.int .i64 4, .int .i64 0] rfl 3 (H + 1) (by simp [hH])
  have i3 := ints_fresh .i64 ((w.alloc (.cells #[.int .i64 5] 3)).alloc (.cells #[.int .i64 4, .int .i64 0] 3)) [4] #[.int .i64 4] rfl 3 (H + 1 + 1) (by simp [hH])
  have i4 := ints_fresh .i64 (((w.alloc (.cells #[.int .i64 5] 3)).alloc (.cells #[.int .i64 4, .int .i64 0] 3)).alloc (.cells #[.int .i64 4] 3)) [5] #[.int .i64 5] rfl 3 (H + 1 + 1 + 1) (by simp [hH])
  have ex : ∀ (w : World) (o : Obj), Ext w (w.alloc o) := fun w o => (Ext.refl w).alloc o
  refine ⟨.inr ⟨H + 1 + 1 + 1 + 1, 0, rfl, fun i hi j hj => ?_⟩, fun m hm => ?_, fun m hm => ?_⟩
  · have hj0 : j = 0 := by omega
    subst hj0
    rw [World.cell?_alloc_at _ _ _ _ (by simp [hH])]
    have hi : i < 4 := hi
    match i, hi with
    | 0, _ => rfl
    | 1, _ => rfl
    | 2, _ => rfl
    | 3, _ => rfl
  · unfold knownM at hm
    simp only [List.mem_cons, List.not_mem_nil, or_false] at hm
    rcases hm with rfl | rfl | rfl | rfl
    · exact (((i1.ext (ex _ _)).ext (ex _ _)).ext (ex _ _)).ext (ex _ _)
    · exact ((i2.ext (ex _ _)).ext (ex _ _)).ext (ex _ _)
    · exact (i3.ext (ex _ _)).ext (ex _ _)
    · exact i4.ext (ex _ _)
  · unfold knownM at hm
    simp only [List.mem_cons, List.not_mem_nil, or_false] at hm
    rcases hm with rfl | rfl | rfl | rfl <;> simp

set_option maxRecDepth 100000 in
set_option maxHeartbeats 4000000 in
theorem known_any (hS : SymAll) (w : World) : Calls Try.prog 6 #[] w fun e w' => e = .returned (.bool true) ∧ Ext w w' := by
  have ex : ∀ (w : World) (o : Obj), Ext w (w.alloc o) := fun w o => (Ext.refl w).alloc o
  have hk := known_keys w w.heap.size rfl
  have hx := ((((ex w (.cells #[.int .i64 5] 3)).alloc (.cells #[.int .i64 4, .int .i64 0] 3)).alloc (.cells #[.int .i64 4] 3)).alloc (.cells #[.int .i64 5] 3)).alloc
      (.cells #[.slice (some ⟨w.heap.size, 0, none⟩) 1 1, .slice (some ⟨w.heap.size + 1, 0, none⟩) 2 2, .slice (some ⟨w.heap.size + 1 + 1, 0, none⟩) 1 1, .slice (some ⟨w.heap.size + 1 + 1 + 1, 0, none⟩) 1 1] 22)
  have HK := Lib.hid hk
  have HX := Lib.hid hx
  have HSA := Lib.hid hS
  have EX := Lib.hid ex
  clear hk hx hS ex
  go_enter Try.func6, Try.ntmps6
  go_wp2_with fail
  generalize ((((w.alloc (.cells #[.int .i64 5] 3)).alloc (.cells #[.int .i64 4, .int .i64 0] 3)).alloc (.cells #[.int .i64 4] 3)).alloc (.cells #[.int .i64 5] 3)).alloc
      (.cells #[.slice (some ⟨w.heap.size, 0, none⟩) 1 1, .slice (some ⟨w.heap.size + 1, 0, none⟩) 2 2, .slice (some ⟨w.heap.size + 1 + 1, 0, none⟩) 1 1, .slice (some ⟨w.heap.size + 1 + 1 + 1, 0, none⟩) 1 1] 22) = W5 at *
  refine (order_any HSA.out (knownM w.heap.size) (some ⟨w.heap.size + 1 + 1 + 1 + 1, 0, none⟩) 4 W5 HK.out (by show 4 ≤ 1000; decide)).mono ?_
  rintro e w6 ⟨rfl, o, hs, hp, hx, hi⟩
  have hko : keysOf (knownM w.heap.size) = knownK := rfl
  rw [hko] at hs
  obtain ⟨o0, o1, o2, o3⟩ := known_order hs hp
  have hol : o.length = 4 := by rw [hp.length_eq]; rfl
  have hx8 := ((EX.out w6 (.cells #[.int .i64 4] 3)).alloc (.cells #[.int .i64 4, .int .i64 0] 3))
  have i8 := (ints_fresh .i64 w6 [4] #[.int .i64 4] rfl 3 w6.heap.size rfl).ext (EX.out _ (.cells #[.int .i64 4, .int .i64 0] 3))
  have i9 := ints_fresh .i64 (w6.alloc (.cells #[.int .i64 4] 3)) [4, 0] #[.int .i64 4, .int .i64 0] rfl 3 (w6.heap.size + 1) (by simp)
  have hi8 := hi.ext hx8
  obtain ⟨b0, f0, hb0, c0⟩ := hi8.at (i := 0) (by omega)
  obtain ⟨b1, f1, hb1, c1⟩ := hi8.at (i := 1) (by omega)
  obtain ⟨b2, f2, hb2, c2⟩ := hi8.at (i := 2) (by omega)
  obtain ⟨b3, f3, hb3, c3⟩ := hi8.at (i := 3) (by omega)
  simp only [Option.some.injEq, Addr.mk.injEq, and_true] at hb0 hb1 hb2 hb3
  obtain ⟨rfl, rfl⟩ := hb0
  obtain ⟨rfl, rfl⟩ := hb1
  obtain ⟨rfl, rfl⟩ := hb2
  obtain ⟨rfl, rfl⟩ := hb3
  rw [o0] at c0
  rw [o1] at c1
  rw [o2] at c2
  rw [o3] at c3
  have HX8 := Lib.hid (HX.out.trans (hx.trans hx8))
  have hcmp := kcmp_any [4] [4, 0] (some ⟨w6.heap.size, 0, none⟩) 1 (some ⟨w6.heap.size + 1, 0, none⟩) 2 _ i8 i9 (by decide) (by decide)
  rw [show cmpK [4] [4, 0] = -1 by decide] at hcmp
  have HCMP := Lib.hid hcmp
  clear hs hp hx hi hko o0 o1 o2 o3 hol hx8 i8 i9 hi8 hcmp
  simp only [Nat.zero_add] at c0 c1 c2 c3
  have hlen : (knownM w.heap.size).length = 4 := rfl
  rw [hlen]
  clear hlen
  go_wp2_with fail
  refine HCMP.out.mono ?_
  rintro e w9 ⟨rfl, rfl⟩
  generalize (w6.alloc (.cells #[.int .i64 4] 3)).alloc (.cells #[.int .i64 4, .int .i64 0] 3) = W8 at *
  have i10 := ints_fresh .i64 W8 [7] #[.int .i64 7] rfl 3 W8.heap.size rfl
  have hw1 := kwithin_any [7] (some ⟨W8.heap.size, 0, none⟩) 1 3 4 _ i10 (by simp) (by decide)
  rw [show withinB [7] 3 4 = true by decide] at hw1
  have HW1 := Lib.hid hw1
  have HX9 := Lib.hid (HX8.out.alloc (.cells #[.int .i64 7] 3))
  clear i10 hw1
  go_wp2_with fail
  refine HW1.out.mono ?_
  rintro e w10 ⟨rfl, q, rfl⟩
  clear c0 c1 c2 c3
  have HX10 := Lib.hid (HX9.out.drewN q)
  generalize (W8.alloc (.cells #[.int .i64 7] 3)).drewN q = W10 at *
  have i11 := ints_fresh .i64 W10 [7] #[.int .i64 7] rfl 3 W10.heap.size rfl
  have hw2 := kwithin_any [7] (some ⟨W10.heap.size, 0, none⟩) 1 4 4 _ i11 (by simp) (by decide)
  rw [show withinB [7] 4 4 = false by decide] at hw2
  have HW2 := Lib.hid hw2
  have HX11 := Lib.hid (HX10.out.alloc (.cells #[.int .i64 7] 3))
  clear i11 hw2
  go_wp2_with fail
  refine HW2.out.mono ?_
  rintro e w11 ⟨rfl, q2, rfl⟩
  have HX12 := Lib.hid (HX11.out.drewN q2)
  go_wp2_with fail
  go_ret
  exact ⟨rfl, HX12.out⟩

end Go.Proofs.Ythkfplkajlanoaa
