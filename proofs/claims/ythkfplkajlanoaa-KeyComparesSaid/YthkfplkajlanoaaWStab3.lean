/-
  slices.stableCmpFunc, walked.
-/
import Derived.Test.YthkfplkajlanoaaWStab2
namespace Go.Proofs.Ythkfplkajlanoaa
open Go.RowKit
open Srt (Sorted Lt Before)

/-- What sorting gives. -/
def StabPost (cf : Int → Int → Int) (n : Nat) (w0 : World) (e : Ending) (w' : World) : Prop :=
  e = .returned (.tuple #[]) ∧ ∃ o : List Int, Sorted cf o ∧ o.Perm (Srt.ids n) ∧ StS w0 o w'

set_option maxRecDepth 100000 in
set_option maxHeartbeats 4000000 in
theorem stab_any (cf : Int → Int → Int) (C : Srt.Cmp cf) (n L c : Nat) (w0 w : World) (hc : CmpAt cf n L w0) (hsym : SymAt cf n L c n w0) (hsz : n ≤ 1000000) (h : StS w0 (Srt.ids n) w) :
    Calls Try.prog 17 #[.slice (some ⟨w0.heap.size, 0, none⟩) n c, .int .i64 n, .func (.func 15) #[] #[.pointer (some ⟨L, 0, none⟩)]] w (StabPost cf n w0) := by
  have HC := Lib.hid (And.intro C hc)
  have HSY := Lib.hid hsym
  have HP0 : Hid (Part1 cf n 0 (Srt.ids n)) := Lib.hid ⟨Srt.ids_len n, fun u hu => by omega, rfl⟩
  have HS := Lib.hid h
  clear hc hsym h C
  go_enter Try.func17, Try.ntmps17
  go_wp2_with fail
  go_loopw [7, 8] (fun u v wr => ∃ (t : Nat) (d : List Int), u = .int .i64 ((t * 20 : Nat) : Int) ∧ v = .int .i64 ((t * 20 + 20 : Nat) : Int) ∧ t * 20 ≤ n ∧ Hid (Part1 cf n t d) ∧ Hid (StS w0 d wr)) (fun u _ _ => n - (intOf u).toNat)
  case atStart => exact ⟨0, Srt.ids n, rfl, rfl, Nat.zero_le _, HP0, HS⟩
  case round =>
    clear HS HP0
    obtain ⟨t, d, rfl, rfl, htn, HP, HS⟩ := hrel
    by_cases hlt : t * 20 + 20 ≤ n
    · have hd2 : decide (((t * 20 + 20 : Nat) : Int) ≤ (n : Int)) = true := decide_eq_true (by omega)
      have hcon := ins_put cf HC.out.1 n L c n w0 HC.out.2 d wr HS.out HP.out.len rfl hsz (t * 20) (t * 20 + 20) (by omega) hlt HP.out.rest
      have HCON := Lib.hid hcon; clear hcon
      generalize ha : t * 20 = a at *
      have HA := Lib.hid ha; clear ha
      have r1 : IntKind.i64.wrap ((a : Int) + 20 + 20) = (a : Int) + 20 + 20 := by rw [IntKind.wrap_i64]; omega
      go_wp2_with fail
      refine HCON.out.mono ?_
      rintro e w' ⟨rfl, m, hm, hk, hst⟩
      have HN : Hid (Part1 cf n (t + 1) (Srt.put d a (a + 20) m)) := Lib.hid (by
        have h2 := HP.out
        have ha := HA.out
        subst ha
        exact h2.step hlt hm hk)
      have HST := Lib.hid hst
      clear hm hk hst
      go_wp2_with fail
      go_roundw
      case rel => exact ⟨t + 1, _, vi (by have := HA.out; omega), vi (by have := HA.out; omega), by have := HA.out; omega, HN, HST⟩
      case measure => simp [intOf]; omega
    · have hd2 : decide (((t * 20 + 20 : Nat) : Int) ≤ (n : Int)) = false := decide_eq_false (by omega)
      have hcon := ins_put cf HC.out.1 n L c n w0 HC.out.2 d wr HS.out HP.out.len rfl hsz (t * 20) n htn (Nat.le_refl _) HP.out.rest
      have HCON := Lib.hid hcon; clear hcon
      go_wp2_with fail
      refine HCON.out.mono ?_
      rintro e w' ⟨rfl, m, hm, hk, hst⟩
      obtain ⟨h1, h2⟩ := HP.out.last htn (by omega) hm hk
      have HR := Lib.hid (And.intro h1 h2)
      have HST := Lib.hid hst
      clear hm hk hst h1 h2 HCON hd2
      generalize Srt.put d (t * 20) n m = d1 at *
      go_wp2_with fail
      go_loopw [6] (fun u wr => ∃ (bs : Nat) (d : List Int), u = .int .i64 (bs : Int) ∧ 20 ≤ bs ∧ bs ≤ 3000000 ∧ Hid (d.length = n ∧ Runs cf n bs 0 d) ∧ Hid (StS w0 d wr)) (fun u _ => n - (intOf u).toNat)
      case atStart => exact ⟨20, d1, rfl, Nat.le_refl _, by omega, HR, HST⟩
      case round =>
        clear HST HR HP HS htn hlt
        obtain ⟨bs, d, rfl, hb20, hbm, HR, HS⟩ := hrel
        by_cases hlt : bs < n
        · have HP0 : Hid (Part2 cf n bs 0 0 d) := Lib.hid (Part2.zero HR.out.1 HR.out.2)
          have r1 : IntKind.i64.wrap (2 * (bs : Int)) = 2 * (bs : Int) := by rw [IntKind.wrap_i64]; omega
          go_wp2_with fail
          go_loopw [7, 8] (fun u v wr => ∃ (t a : Nat) (d : List Int), u = .int .i64 (a : Int) ∧ v = .int .i64 ((a : Int) + 2 * (bs : Int)) ∧ a ≤ n ∧ Hid (Part2 cf n bs t a d) ∧ Hid (StS w0 d wr)) (fun u _ _ => n - (intOf u).toNat)
          case atStart => exact ⟨0, 0, d, rfl, vi (by simp), Nat.zero_le _, HP0, HS⟩
          case round =>
            clear HS HP0 HR
            obtain ⟨t, a, d, rfl, rfl, han, HP, HS⟩ := hrel
            have p2 : (0 : Int) ≤ (a : Int) + 2 * (bs : Int) := by omega
            have b2 : (a : Int) + 2 * (bs : Int) ≤ 7000000 := by omega
            by_cases hle : a + 2 * bs ≤ n
            · have hlez : (a : Int) + 2 * (bs : Int) ≤ (n : Int) := by omega
              have hcon := sym_put cf HC.out.1 n L c n w0 HSY.out d wr HS.out HP.out.len rfl a (a + bs) (a + 2 * bs) (by omega) (by omega) hle HP.out.left (by have := HP.out.right; rwa [show a + bs + bs = a + 2 * bs by omega] at this)
              have HCON := Lib.hid hcon; clear hcon
              have r2 : IntKind.i64.wrap ((a : Int) + (bs : Int)) = (a : Int) + (bs : Int) := by rw [IntKind.wrap_i64]; omega
              have r3 : IntKind.i64.wrap ((a : Int) + 2 * (bs : Int) + 2 * (bs : Int)) = (a : Int) + 2 * (bs : Int) + 2 * (bs : Int) := by rw [IntKind.wrap_i64]; omega
              have HE : Hid (((a + bs : Nat) : Int) = (a : Int) + (bs : Int) ∧ ((a + 2 * bs : Nat) : Int) = (a : Int) + 2 * (bs : Int)) := Lib.hid ⟨by omega, by omega⟩
              rw [HE.out.1, HE.out.2] at HCON
              go_wp2_with fail
              refine HCON.out.mono ?_
              rintro e w' ⟨rfl, m, hm, hk, hst⟩
              have HN := Lib.hid (HP.out.step hle hm hk)
              have HST := Lib.hid hst
              clear hm hk hst
              go_wp2_with fail
              go_roundw
              case rel => exact ⟨t + 1, a + 2 * bs, _, vi (by omega), vi (by omega), hle, HN, HST⟩
              case measure => simp [intOf]; omega
            · have hlez : ¬ (a : Int) + 2 * (bs : Int) ≤ (n : Int) := by omega
              have r2 : IntKind.i64.wrap ((a : Int) + (bs : Int)) = (a : Int) + (bs : Int) := by rw [IntKind.wrap_i64]; omega
              have r4 : IntKind.i64.wrap ((bs : Int) * 2) = (bs : Int) * 2 := by rw [IntKind.wrap_i64]; omega
              by_cases hlm : a + bs < n
              · have hlmz : (a : Int) + (bs : Int) < (n : Int) := by omega
                have hcon := sym_put cf HC.out.1 n L c n w0 HSY.out d wr HS.out HP.out.len rfl a (a + bs) n (by omega) (by omega) (Nat.le_refl _) HP.out.left (HP.out.right_cut (by omega))
                have HCON := Lib.hid hcon; clear hcon
                have HE : Hid (((a + bs : Nat) : Int) = (a : Int) + (bs : Int)) := Lib.hid (by omega)
                rw [HE.out] at HCON
                go_wp2_with fail
                refine HCON.out.mono ?_
                rintro e w' ⟨rfl, m, hm, hk, hst⟩
                have HN := Lib.hid (HP.out.last (by omega) (by omega) hm hk)
                have HST := Lib.hid hst
                clear hm hk hst
                go_wp2_with fail
                go_roundw
                case rel => exact ⟨2 * bs, _, vi (by omega), by omega, by omega, HN, HST⟩
                case measure => simp [intOf]; omega
              · have hlmz : ¬ (a : Int) + (bs : Int) < (n : Int) := by omega
                have HN := Lib.hid (And.intro HP.out.len (HP.out.done (by omega) (by omega)))
                go_wp2_with fail
                go_roundw
                case rel => exact ⟨2 * bs, d, vi (by omega), by omega, by omega, HN, HS⟩
                case measure => simp [intOf]; omega
        · have HF := Lib.hid (Runs.all HR.out.1 HR.out.2 (by omega))
          go_wp2_with fail
          go_end0
          unfold StabPost
          exact ⟨rfl, d, HF.out.1, HF.out.2, HS.out⟩

end Go.Proofs.Ythkfplkajlanoaa
