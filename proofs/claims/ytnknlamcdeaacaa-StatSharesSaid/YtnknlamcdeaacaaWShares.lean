/-
  What parts of their bounds events have used: stat.Shares.
-/
import Derived.Test.YtnknlamcdeaacaaWGreatLaw
namespace Go.Proofs.Ytnknlamcdeaacaa
open Go.RowKit

/-- An event as it lies: its numbers, and where its two lists lie. -/
structure Ev where
  call : Int
  inv : Int
  resp : Int
  steps : Int
  err : Int
  val : Int
  la : Option Addr
  ln : Nat
  lc : Nat
  ka : Option Addr
  kn : Nat
  kc : Nat

def ev0 : Ev := ⟨0, 0, 0, 0, 0, 0, none, 0, 0, none, 0, 0⟩

/-- The slice at a reads as these events. -/
def IsEvs (w : World) (a : Option Addr) (es : List Ev) : Prop :=
  es = [] ∨ ∃ b off, a = some ⟨b, off, none⟩ ∧ ∀ i, i < es.length →
    w.cell? ⟨b, off + i * 8, none⟩ = some (.int .i64 (nthD ev0 es i).call) ∧ w.cell? ⟨b, off + i * 8 + 1, none⟩ = some (.int .i64 (nthD ev0 es i).inv) ∧
    w.cell? ⟨b, off + i * 8 + 2, none⟩ = some (.int .i64 (nthD ev0 es i).resp) ∧ w.cell? ⟨b, off + i * 8 + 3, none⟩ = some (.int .i64 (nthD ev0 es i).steps) ∧
    w.cell? ⟨b, off + i * 8 + 4, none⟩ = some (.int .i64 (nthD ev0 es i).err) ∧ w.cell? ⟨b, off + i * 8 + 5, none⟩ = some (.int .u64 (nthD ev0 es i).val) ∧
    w.cell? ⟨b, off + i * 8 + 6, none⟩ = some (.slice (nthD ev0 es i).la (nthD ev0 es i).ln (nthD ev0 es i).lc) ∧ w.cell? ⟨b, off + i * 8 + 7, none⟩ = some (.slice (nthD ev0 es i).ka (nthD ev0 es i).kn (nthD ev0 es i).kc)

/-- the bound that an event's call has. -/
def mOf (ms : List Int) (c : Int) : Int := if 0 ≤ c ∧ c < ms.length then nth ms c.toNat else 0

/-- each is a quotient of an event's steps by its bound. -/
def Shared (ms : List Int) (es : List Ev) (rs : List Nat) : Prop :=
  ∀ i, i < rs.length → IsQuo (fl (nthD ev0 es i).steps) (fl (mOf ms (nthD ev0 es i).call)) (nthD 0 rs i)

theorem Shared.snoc {ms : List Int} {es : List Ev} {rs : List Nat} {j r : Nat} (h : Shared ms es rs) (hj : rs.length = j) (hq : IsQuo (fl (nthD ev0 es j).steps) (fl (mOf ms (nthD ev0 es j).call)) r) : Shared ms es (rs ++ [r]) := by
  intro i hi
  by_cases hl : i < rs.length
  · rw [nthD_append_left 0 rs [r] i hl]; exact h i hl
  · rw [List.length_append] at hi
    have : i = rs.length := by simp at hi; omega
    subst this
    rw [nthD_append_at 0 rs [] r, hj]; exact hq

def SharesPost (ms : List Int) (es : List Ev) (w : World) (e : Ending) (w' : World) : Prop :=
  ∃ rs a cap, e = .returned (.slice a es.length cap) ∧ rs.length = es.length ∧ IsFl w' a rs ∧ Shared ms es rs ∧ Ext w w'

set_option maxHeartbeats 1000000 in
theorem shares_any (a b : Option Addr) (c d : Nat) (ms : List Int) (es : List Ev) (w : World) (hm : IsInts .i64 w a ms) (he : IsEvs w b es) (hml : ms.length ≤ 9223372036854775807) (hel : es.length ≤ 1000) :
    Calls Try.prog 14 #[.slice a ms.length c, .slice b es.length d] w (SharesPost ms es w) := by
  have HM := Lib.hid hm; clear hm
  have HE := Lib.hid he; clear he
  go_enter Try.func14, Try.ntmps14
  go_wp2_with fail
  go_loopw [5, 11] (fun v k wr => ∃ (j : Nat) (rs : List Nat), j ≤ es.length ∧ k = .int .i64 j ∧ Hid (rs.length = j) ∧ Hid (Shared ms es rs) ∧ wr.ownsRow w.heap.size 27 1 v j (rs.map (Value.float .f64)) ∧ Below w.heap.size w wr) (fun _ k _ => es.length - (intOf k).toNat)
  case atStart => exact ⟨0, [], Nat.zero_le _, rfl, Lib.hid rfl, Lib.hid (fun i hi => by simp at hi), World.ownsRow_nil _ _ _ _, Below.refl _ _⟩
  case round =>
    obtain ⟨j, rs, hj, rfl, HR, HSh, hown, hb⟩ := hrel
    have HB := Lib.hid hb
    have HO := Lib.hid hown; clear hown
    by_cases hlt : j < es.length
    · rcases HE.out with h0 | ⟨bb, off, rfl, hc⟩
      · rw [h0] at hlt; simp at hlt
      obtain ⟨c0, c1, c2, c3, c4, c5, c6, c7⟩ := hc j hlt
      clear hc
      have up : ∀ {o v}, w.cell? ⟨bb, o, none⟩ = some v → wr.cell? ⟨bb, o, none⟩ = some v := fun h => Ext.cell hb h
      have d0 := up c0
      have d1 := up c1
      have d2 := up c2
      have d3 := up c3
      have d4 := up c4
      have d5 := up c5
      have d6 := up c6
      have d7 := up c7
      clear up c0 c1 c2 c3 c4 c5 c6 c7
      have hsn := fun r => Shared.snoc (j := j) (r := r) HSh.out HR.out
      generalize nthD ev0 es j = e at *
      have HSN := Lib.hid hsn; clear hsn
      clear hb
      by_cases hin : 0 ≤ e.call ∧ e.call < ms.length
      all_goals
        first
        | (have HMO : Hid (mOf ms e.call = nth ms e.call.toNat) := Lib.hid (by unfold mOf; rw [if_pos hin])
           obtain ⟨h1, h2⟩ := hin
           obtain ⟨bm, om, rfl, hcm⟩ := (HM.out.ext HB.out).at (i := e.call.toNat) (by omega)
           have hbm : bm < wr.heap.size := World.block_lt_of_cell? _ _ hcm)
        | (have HMO : Hid (mOf ms e.call = 0) := Lib.hid (by unfold mOf; rw [if_neg hin])
           have hin2 : e.call < 0 ∨ (ms.length : Int) ≤ e.call := by omega
           clear hin)
      · go_wp2_with fail
        refine (ratio_any _ _ _).mono ?_
        rintro e' w1 ⟨r, m, rfl, rfl, hq⟩
        rw [← HMO.out] at hq
        have HQ := Lib.hid hq; clear hq
        go_wp2_with (at_builtin; refine wpList_app1 rfl (.tmp 30) (.tmp 35) 32 rfl w.heap.size 27 _ 8 Try.underlying32 Try.info27 rfl _ _ _ (.float .f64 r) _ rfl ((own_drewN (HO.out.alloc _) m).alloc _) rfl ?_ rfl ?_ ?_ ?_ ?_; rotate_right; intro v' w1 ho hg hbb)
        any_goals (first | (rw [World.cell?_alloc_at _ _ _ _ (by simp)]; rfl) | (simp; done) | (unfold maxLen; omega) | omega | (have := HB.out.size; simp; omega))
        have HO2 := Lib.hid ho; clear ho
        have HB2 := Lib.hid (((((HB.out.alloc HB.out.size _).trans (Below.mono ((Ext.refl _).drewN m) (by have := HB.out.size; simp; omega))).alloc (by have := HB.out.size; simp; omega) _)).trans hbb)
        clear hbb hg
        have HS2 := Lib.hid (HSN.out r HQ.out)
        go_wp2
        go_roundw
        case rel => exact ⟨j + 1, rs ++ [r], by omega, by go_num, Lib.hid (by rw [List.length_append, HR.out]; rfl), HS2, by rw [List.map_append]; exact HO2.out, HB2.out⟩
        case measure => simp [intOf]; omega
      · rcases hin2 with hin2 | hin2
        all_goals
          go_wp2_with fail
          refine (ratio_any _ _ _).mono ?_
          rintro e' w1 ⟨r, m, rfl, rfl, hq⟩
          rw [← HMO.out] at hq
          have HQ := Lib.hid hq; clear hq
          go_wp2_with (at_builtin; refine wpList_app1 rfl (.tmp 30) (.tmp 35) 32 rfl w.heap.size 27 _ 8 Try.underlying32 Try.info27 rfl _ _ _ (.float .f64 r) _ rfl ((own_drewN (HO.out.alloc _) m).alloc _) rfl ?_ rfl ?_ ?_ ?_ ?_; rotate_right; intro v' w1 ho hg hbb)
          any_goals (first | (rw [World.cell?_alloc_at _ _ _ _ (by simp)]; rfl) | (simp; done) | (unfold maxLen; omega) | omega | (have := HB.out.size; simp; omega))
          have HO2 := Lib.hid ho; clear ho
          have HB2 := Lib.hid (((((HB.out.alloc HB.out.size _).trans (Below.mono ((Ext.refl _).drewN m) (by have := HB.out.size; simp; omega))).alloc (by have := HB.out.size; simp; omega) _)).trans hbb)
          clear hbb hg
          have HS2 := Lib.hid (HSN.out r HQ.out)
          go_wp2
          go_roundw
          case rel => exact ⟨j + 1, rs ++ [r], by omega, by go_num, Lib.hid (by rw [List.length_append, HR.out]; rfl), HS2, by rw [List.map_append]; exact HO2.out, HB2.out⟩
          case measure => simp [intOf]; omega
    · go_wp2
      go_ret
      have hje : j = es.length := by omega
      subst hje
      obtain ⟨a', cap', rfl, -, hi⟩ := IsFl.own HO.out
      exact ⟨rs, a', cap', rfl, HR.out, hi, HSh.out, HB.out⟩

end Go.Proofs.Ytnknlamcdeaacaa
