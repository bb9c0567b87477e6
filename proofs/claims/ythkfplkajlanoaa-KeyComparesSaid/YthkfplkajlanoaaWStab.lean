/-
  slices.stableCmpFunc, slices.SortStableFunc and keys.Order, walked.
-/
import Derived.Test.YthkfplkajlanoaaWIns
namespace Go.Proofs.Ythkfplkajlanoaa
open Go.RowKit
open Srt (Sorted Lt Before)

/-- What merging is to whoever sorts. -/
def SymAt (cf : Int → Int → Int) (n L c N : Nat) (w0 : World) : Prop :=
  ∀ (P A B S : List Int) (w : World), StS w0 (P ++ (A ++ (B ++ S))) w → Srt.Sorted cf A → Srt.Sorted cf B → Before A B → (∀ x ∈ A ++ B, 0 ≤ x ∧ x < n) → 0 < A.length → 0 < B.length →
    ∀ (a m b : Nat), a = P.length → m = P.length + A.length → b = P.length + A.length + B.length → N = P.length + (A.length + (B.length + S.length)) →
    Calls Try.prog 20 #[.slice (some ⟨w0.heap.size, 0, none⟩) N c, .int .i64 a, .int .i64 m, .int .i64 b, .func (.func 15) #[] #[.pointer (some ⟨L, 0, none⟩)]] w (SortPost cf w0 P (A ++ B) S)

/-- Pieces of one length, each in order. -/
def Runs (cf : Int → Int → Int) (n bs lo : Nat) (d : List Int) : Prop := ∀ t, lo ≤ t * bs → Srt.Ok cf (Srt.ids n) d (t * bs) (t * bs + bs)

theorem seg_mem {d : List Int} {i j : Nat} {x : Int} (h : x ∈ Srt.seg d i j) : x ∈ d := List.drop_subset _ _ (List.take_subset _ _ h)

theorem ok_range {cf : Int → Int → Int} {n : Nat} {d : List Int} {i j : Nat} (h : Srt.Ok cf (Srt.ids n) d i j) : ∀ x ∈ Srt.seg d i j, 0 ≤ x ∧ x < n := by
  intro x hx
  have := Srt.ids_seg_mem (h.2.mem_iff.1 hx)
  omega
theorem ok_before {cf : Int → Int → Int} {n : Nat} {d : List Int} {i k j : Nat} (ha : Srt.Ok cf (Srt.ids n) d i k) (hb : Srt.Ok cf (Srt.ids n) d k j) : Before (Srt.seg d i k) (Srt.seg d k j) :=
  (Srt.ids_before n).perm ha.2 hb.2

/-- What a merge makes of the row: a piece put in place of two. -/
theorem sym_put (cf : Int → Int → Int) (C : Srt.Cmp cf) (n L c N : Nat) (w0 : World) (HS : SymAt cf n L c N w0) (d : List Int) (w : World) (h : StS w0 d w) (hd : d.length = N) (hn : N = n) (i k j : Nat) (h1 : i < k) (h2 : k < j) (h3 : j ≤ N)
    (ha : Srt.Ok cf (Srt.ids n) d i k) (hb : Srt.Ok cf (Srt.ids n) d k j) :
    Calls Try.prog 20 #[.slice (some ⟨w0.heap.size, 0, none⟩) N c, .int .i64 i, .int .i64 k, .int .i64 j, .func (.func 15) #[] #[.pointer (some ⟨L, 0, none⟩)]] w
      fun e w' => e = .returned (.tuple #[]) ∧ ∃ m : List Int, m.length = j - i ∧ Srt.Ok cf (Srt.ids n) (Srt.put d i j m) i j ∧ StS w0 (Srt.put d i j m) w' := by
  have e1 : d = d.take i ++ (Srt.seg d i k ++ (Srt.seg d k j ++ d.drop j)) := by
    rw [← List.append_assoc (Srt.seg d i k), Srt.seg_app d (by omega) (by omega)]
    exact Srt.seg_parts d (by omega)
  have l1 : (Srt.seg d i k).length = k - i := Srt.seg_len d i k (by omega)
  have l2 : (Srt.seg d k j).length = j - k := Srt.seg_len d k j (by omega)
  have l0 : (d.take i).length = i := by rw [List.length_take]; omega
  have l3 : (d.drop j).length = N - j := by rw [List.length_drop, hd]
  refine (HS (d.take i) (Srt.seg d i k) (Srt.seg d k j) (d.drop j) w (by rw [← e1]; exact h) ha.1 hb.1 (ok_before ha hb) (fun x hx => ?_) (by omega) (by omega) i k j (by omega) (by omega) (by omega) (by omega)).mono ?_
  · rcases List.mem_append.1 hx with hx | hx
    · exact ok_range ha x hx
    · exact ok_range hb x hx
  · rintro e w' ⟨rfl, m, hp, hs, hst⟩
    refine ⟨rfl, m, by rw [hp.length_eq, List.length_append, l1, l2]; omega, Srt.Ok.merge (by omega) (by omega) (by omega) (by omega) ha hb hs hp, hst⟩

/-- The same for what is sorted by insertion. -/
theorem ins_put (cf : Int → Int → Int) (C : Srt.Cmp cf) (n L c N : Nat) (w0 : World) (hc : CmpAt cf n L w0) (d : List Int) (w : World) (h : StS w0 d w) (hd : d.length = N) (hn : N = n) (hsz : N ≤ 1000000) (i j : Nat) (h1 : i ≤ j) (h3 : j ≤ N)
    (ha : d.drop i = (Srt.ids n).drop i) :
    Calls Try.prog 19 #[.slice (some ⟨w0.heap.size, 0, none⟩) N c, .int .i64 i, .int .i64 j, .func (.func 15) #[] #[.pointer (some ⟨L, 0, none⟩)]] w
      fun e w' => e = .returned (.tuple #[]) ∧ ∃ m : List Int, m.length = j - i ∧ Srt.Ok cf (Srt.ids n) (Srt.put d i j m) i j ∧ StS w0 (Srt.put d i j m) w' := by
  have e1 := Srt.seg_parts d h1
  have l1 : (Srt.seg d i j).length = j - i := Srt.seg_len d i j (by omega)
  have l0 : (d.take i).length = i := by rw [List.length_take]; omega
  have l3 : (d.drop j).length = N - j := by rw [List.length_drop, hd]
  have es : Srt.seg d i j = Srt.seg (Srt.ids n) i j := by unfold Srt.seg; rw [ha]
  refine (ins_any cf C n L c N w0 w (d.take i) (Srt.seg d i j) (d.drop j) hc (by rw [← e1]; exact h) (fun x hx => ?_) ?_ i j (by omega) (by omega) (by omega) hsz).mono ?_
  · rw [es] at hx
    have := Srt.ids_seg_mem hx
    omega
  · rw [es]
    refine List.Pairwise.sublist ((List.take_sublist _ _).trans (List.drop_sublist _ _)) ?_
    unfold Srt.ids
    rw [List.pairwise_map]
    exact List.Pairwise.imp (fun h => by omega) List.pairwise_lt_range
  · rintro e w' ⟨rfl, m, hp, hs, hst⟩
    refine ⟨rfl, m, by rw [hp.length_eq, l1], ?_, hst⟩
    exact Srt.Ok.put (by omega) (by omega) hs (by rw [← es]; exact hp) (by rw [Srt.ids_len]; omega)

end Go.Proofs.Ythkfplkajlanoaa
