/-
  A script's bytes are bytes, and not many.
-/
import Derived.Test.YtcfbcffmlinlaaaDoorScrRuns
import Derived.Test.YtcfbcffmlinlaaaDoorScrMem
import Derived.Test.YtcfbcffmlinlaaaDoorScrEnc0
import Derived.Test.YtcfbcffmlinlaaaDoorScrTwo
namespace Go.Proofs.YtcfbcffmlinlaaaDoor
open Go.RowKit

theorem encRuns_bytes (f : Nat) : ∀ l : List Int, (∀ p ∈ l, byteOk p) → ∀ b ∈ encRuns f l, byteOk b := by
  induction f with
  | zero => intro l _ b hb; cases l <;> cases hb
  | succ f ih =>
    intro l hl b hb
    cases l with
    | nil => cases hb
    | cons x r =>
      simp only [encRuns, List.mem_cons] at hb
      rcases hb with rfl | rfl | hb
      · exact hl _ List.mem_cons_self
      · have := (lead_le x r 254).1
        unfold byteOk; omega
      · exact ih _ (fun p hp => hl p (List.mem_cons_of_mem _ (List.mem_of_mem_drop hp))) b hb

theorem encTwo_bytes (n : Int) (h : wordOk n) : ∀ b ∈ encTwo n, byteOk b := by
  intro b hb
  unfold wordOk at h
  simp only [encTwo, List.mem_cons, List.not_mem_nil, or_false] at hb
  unfold byteOk
  rcases hb with rfl | rfl <;> omega

theorem numB_ok (x : Int) (h : u64Ok x) : ∀ b ∈ numB 10 x, byteOk b :=
  numB_bytes 10 0 x (by omega) h.1 (by rw [weight_zero]; have := h.2; omega)

theorem encS_bytes (s : Scr) (h : s.ok) (hw : s.wide) : ∀ b ∈ encS s, byteOk b := by
  obtain ⟨h1, h2, h3, h4, h5, h6, h7⟩ := h
  intro b hb
  simp only [encS, List.mem_cons, List.mem_append, List.mem_flatMap] at hb
  rcases hb with rfl | rfl | ⟨x, hx, hb⟩ | hb | ⟨c, hc, hb⟩ | hb
  · unfold byteOk; omega
  · unfold byteOk; omega
  · obtain ⟨k1, k2, k3⟩ := h5 x hx
    simp only [encSpec, List.mem_cons, List.mem_append] at hb
    rcases hb with rfl | hb | hb
    · exact k1
    · exact encTwo_bytes _ k2 b hb
    · exact encTwo_bytes _ k3 b hb
  · exact encTwo_bytes _ (by unfold wordOk; omega) b hb
  · obtain ⟨k1, k2, k3⟩ := h6 c hc
    obtain ⟨w1, w2, w3⟩ := hw c hc
    simp only [encCall, List.mem_cons, List.mem_append] at hb
    rcases hb with rfl | rfl | rfl | hb | hb | hb
    · unfold byteOk; omega
    · exact k2
    · exact k3
    · exact numB_ok _ w1 b hb
    · exact numB_ok _ w2 b hb
    · exact numB_ok _ w3 b hb
  · exact encRuns_bytes _ _ h7 b hb

theorem encRuns_len (f : Nat) : ∀ l : List Int, (encRuns f l).length ≤ 2 * f := by
  induction f with
  | zero => intro l; cases l <;> simp [encRuns]
  | succ f ih =>
    intro l
    cases l with
    | nil => simp [encRuns]
    | cons x r =>
      have := ih (r.drop (lead x r 254))
      simp only [encRuns, List.length_cons]
      omega

theorem flatMap_le {α : Type} (f : α → List Int) (n : Nat) (h : ∀ x, (f x).length ≤ n) : ∀ l : List α, (l.flatMap f).length ≤ l.length * n
  | [] => by simp
  | x :: r => by
    have h1 := flatMap_le f n h r
    have h2 := h x
    rw [List.flatMap_cons, List.length_append, List.length_cons, Nat.succ_mul]
    omega

theorem encS_len (s : Scr) (h : s.ok) : (encS s).length ≤ 200000 := by
  obtain ⟨-, h2, h3, h4, -⟩ := h
  have a := flatMap_le encSpec 5 (fun x => Nat.le_of_eq (encSpec_len x)) s.specs
  have b := flatMap_le encCall 36 encCall_len s.calls
  have c := encRuns_len s.picks.length s.picks
  simp only [encS, List.length_cons, List.length_append, encTwo_len]
  omega

end Go.Proofs.YtcfbcffmlinlaaaDoor
