/-
  Keys that lie in memory; the closure by which Order compares them.
-/
import Derived.Test.YthkfplkajlanoaaWAhead
namespace Go.Proofs.Ythkfplkajlanoaa
open Go.RowKit

/-- A key, and where it lies. -/
structure KM where
  l : List Int
  a : Option Addr
  c : Nat
def km0 : KM := ⟨[], none, 0⟩
def kmCells (m : KM) : List Value := [.slice m.a m.l.length m.c]
theorem kmCells_len (m : KM) : (kmCells m).length = 1 := rfl

/-- The slice at a has these keys. -/
structure KeysAt (ms : List KM) (a : Option Addr) (w : World) : Prop where
  row : IsSeq km0 1 kmCells w a ms
  each : ∀ m ∈ ms, IsInts .i64 w m.a m.l
  lens : ∀ m ∈ ms, m.l.length ≤ 9223372036854775807
theorem KeysAt.ext {ms : List KM} {a : Option Addr} {w w' : World} (h : KeysAt ms a w) (he : Ext w w') : KeysAt ms a w' :=
  ⟨h.row.ext he, fun m hm => (h.each m hm).ext he, h.lens⟩
theorem KeysAt.at {ms : List KM} {a : Option Addr} {w : World} (h : KeysAt ms a w) {i : Nat} (hi : i < ms.length) :
    ∃ b off, a = some ⟨b, off, none⟩ ∧ w.cell? ⟨b, off + i, none⟩ = some (.slice (nthD km0 ms i).a (nthD km0 ms i).l.length (nthD km0 ms i).c) ∧ IsInts .i64 w (nthD km0 ms i).a (nthD km0 ms i).l ∧ (nthD km0 ms i).l.length ≤ 9223372036854775807 := by
  obtain ⟨b, off, ha, hc⟩ := h.row.at hi
  have := hc 0 (by decide)
  rw [Nat.mul_one, Nat.add_zero] at this
  exact ⟨b, off, ha, this, h.each _ (nthD_mem km0 ms i hi), h.lens _ (nthD_mem km0 ms i hi)⟩

/-- The keys themselves. -/
def keysOf (ms : List KM) : List (List Int) := ms.map (·.l)
theorem keyAt_of (ms : List KM) (i : Nat) : keyAt (keysOf ms) (i : Int) = (nthD km0 ms i).l := by
  unfold keyAt keysOf nthD
  rw [Int.toNat_natCast, List.getD_eq_getElem?_getD, List.getD_eq_getElem?_getD, List.getElem?_map]
  cases ms[i]? <;> rfl

theorem kcmp_same (a b : List Int) (pa : Option Addr) (ca : Nat) (pb : Option Addr) (cb : Nat) (w : World) (ha : IsInts .i64 w pa a) (hb : IsInts .i64 w pb b) (la : a.length ≤ 9223372036854775807) (lb : b.length ≤ 9223372036854775807) :
    Calls Try.prog 8 #[.slice pa a.length ca, .slice pb b.length cb] w fun e w' => e = .returned (.int .i64 (cmpK a b)) ∧ w' = w :=
  (kcmp_any a b pa ca pb cb w ha hb la lb).mono fun _ _ h => ⟨h.1, h.2.symm⟩

set_option maxHeartbeats 1000000 in
theorem clos_nat (ms : List KM) (a : Option Addr) (c L x y : Nat) (w : World) (hk : KeysAt ms a w) (hl : ms.length ≤ 9223372036854775807) (hL : w.cell? ⟨L, 0, none⟩ = some (.slice a ms.length c)) (hx : x < ms.length) (hy : y < ms.length) :
    Calls Try.prog 15 #[.int .i64 x, .int .i64 y, .pointer (some ⟨L, 0, none⟩)] w fun e w' => e = .returned (.int .i64 (cfK (keysOf ms) x y)) ∧ ∃ n, w' = w.drewN n := by
  obtain ⟨b, off, rfl, e1, i1, l1⟩ := hk.at hx
  obtain ⟨b', off', hbb, e2, i2, l2⟩ := hk.at hy
  simp only [Option.some.injEq, Addr.mk.injEq, and_true] at hbb
  obtain ⟨rfl, rfl⟩ := hbb
  have HR : Hid (cfK (keysOf ms) x y = cmpK (nthD km0 ms x).l (nthD km0 ms y).l) := Lib.hid (by unfold cfK; rw [keyAt_of, keyAt_of])
  generalize cfK (keysOf ms) x y = r at *
  generalize nthD km0 ms x = m1 at *
  generalize nthD km0 ms y = m2 at *
  obtain ⟨k1, a1, c1⟩ := m1
  obtain ⟨k2, a2, c2⟩ := m2
  simp only at e1 e2 i1 i2 l1 l2 HR
  have I1 := Lib.hid i1
  have I2 := Lib.hid i2
  clear i1 i2 hk
  go_enter Try.func15, Try.ntmps15
  go_wp2_with fail
  go_quiet ((go_at_call 8; exact Calls.quiet_of_same (kcmp_same k1 k2 a1 c1 a2 c2 _ I1.out I2.out l1 l2)))
  go_wp2_with fail
  go_ret
  exact ⟨ret_int (by rw [HR.out]), _, rfl⟩

end Go.Proofs.Ythkfplkajlanoaa
