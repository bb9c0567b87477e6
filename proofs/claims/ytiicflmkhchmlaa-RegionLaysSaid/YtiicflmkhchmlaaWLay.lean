/-
  Whether sizes may be laid (the reference), and how they are (region.Lay).
-/
import Derived.Test.YtiicflmkhchmlaaWBegin
import Derived.Test.YtiicflmkhchmlaaOwn
namespace Go.Proofs.Ytiicflmkhchmlaa
open Go.RowKit

set_option maxHeartbeats 400000 in
theorem wrong_any (a : Option Addr) (cap : Nat) (zs : List Int) (n : Nat) (w : World) (hn : n = zs.length) (hs : IsInts .i64 w a zs) (hlen : zs.length ≤ 1000000)
    (hz : ∀ i, i < zs.length → -9223372036854775808 ≤ nth zs i ∧ nth zs i ≤ 9223372036854775807) :
    Calls Try.prog 7 #[.slice a n cap] w fun e w' => e = .returned (.int .i64 (wrong zs 0)) ∧ w' = w := by
  have HN := Lib.hid hn; clear hn
  have HS := Lib.hid hs; clear hs
  have HZ := Lib.hid hz; clear hz
  have HR : Hid (wrong (zs.drop 0) 0 = wrong zs 0) := Lib.hid (by simp)
  go_enter Try.func7, Try.ntmps7
  go_wp2
  go_loop [3, 4] (fun o k => ∃ (j : Nat) (e : Int), j ≤ n ∧ k = .int .i64 j ∧ o = .int .i64 e ∧ 0 ≤ e ∧ e ≤ 65536 ∧ Hid (wrong (zs.drop j) e = wrong zs 0)) (fun _ k => n - (intOf k).toNat)
  case atStart => exact ⟨0, 0, Nat.zero_le _, rfl, rfl, by omega, by omega, HR⟩
  case round =>
    obtain ⟨j, e, hj, rfl, rfl, he0, he1, HW⟩ := hrel
    by_cases hlt : j < n
    · have hjz : j < zs.length := by have := HN.out; omega
      have H1 := Lib.hid (wrong_drop zs j hjz e)
      obtain ⟨b, off, rfl, hc⟩ := HS.out.at hjz
      obtain ⟨z1, z2⟩ := HZ.out j hjz
      by_cases h0 : nth zs j < 0
      · go_wp2
        go_ret
        exact ⟨ret_int (by rw [← HW.out, H1.out, if_pos h0]), rfl⟩
      · by_cases h1 : 65536 - e < nth zs j
        · go_wp2
          go_ret
          exact ⟨ret_int (by rw [← HW.out, H1.out, if_neg (by omega), if_pos h1]), rfl⟩
        · go_wp2
          go_round
          case rel => exact ⟨j + 1, e + nth zs j, by omega, by go_num, rfl, by omega, by omega, Lib.hid (by rw [← HW.out, H1.out, if_neg (by omega), if_neg (by omega)])⟩
          case measure => simp [intOf]; omega
    · go_wp2
      go_ret
      have hj' : j = n := by omega
      subst hj'
      refine ⟨ret_int ?_, rfl⟩
      rw [← HW.out, HN.out]; simp [wrong]

theorem Try.info3 : (Try.prog.info? 3).map (fun i => (i.zero, i.size, i.bytes)) = some (some (.int .i64 0), 1, 8) := by kernel_rfl

/-- What region.Lay answers. -/
def LayPost (zs : List Int) (w : World) (e : Ending) (w' : World) : Prop :=
  Ext w w' ∧
  ((wrong zs 0 ≠ 0 ∧ e = .returned (.tuple #[.slice none 0 0, .int .i64 0, .int .i64 (wrong zs 0)])) ∨
   (wrong zs 0 = 0 ∧ ∃ a cap, e = .returned (.tuple #[.slice a zs.length cap, .int .i64 (sum zs), .int .i64 0]) ∧ IsInts .i64 w' a (begins zs 0)))

theorem IsInts.own {w : World} {B n : Nat} {v : Value} {xs : List Int} (h : w.ownsRow B 3 1 v n (xs.map (Value.int .i64))) :
    ∃ a cap, v = .slice a n cap ∧ IsInts .i64 w a xs := by
  obtain ⟨hl, h2⟩ := h
  rcases h2 with ⟨rfl, rfl⟩ | ⟨g, cap, cur, rfl, hg, hh, hn, hm, hs, ht⟩
  · exact ⟨none, 0, rfl, .inl (by simpa using hl)⟩
  · refine ⟨_, cap, rfl, .inr ⟨g, 0, rfl, fun i hi => ?_⟩⟩
    have hr : w.ownsRow B 3 1 (.slice (some ⟨g, 0, none⟩) n cap) n (xs.map (Value.int .i64)) := ⟨hl, .inr ⟨g, cap, cur, rfl, hg, hh, hn, hm, hs, ht⟩⟩
    have := hr.cells (g := g) rfl i (.int .i64 (nth xs i)) (by rw [List.getElem?_map, getElem?_nth xs i hi]; rfl)
    rw [addr_add] at this; simpa using this

set_option maxHeartbeats 400000 in
theorem lay_any (a : Option Addr) (cap : Nat) (zs : List Int) (n : Nat) (w : World) (hn : n = zs.length) (hs : IsInts .i64 w a zs) (hlen : zs.length ≤ 1000000)
    (hz : ∀ i, i < zs.length → -9223372036854775808 ≤ nth zs i ∧ nth zs i ≤ 9223372036854775807) :
    Calls Try.prog 6 #[.slice a n cap] w (LayPost zs w) := by
  have HN := Lib.hid hn; clear hn
  have HS := Lib.hid hs; clear hs
  have HZ := Lib.hid hz; clear hz
  have HR : Hid (wrong (zs.drop 0) 0 = wrong zs 0) := Lib.hid (by simp)
  go_enter Try.func6, Try.ntmps6
  go_wp2
  go_loopw [5, 6, 11] (fun v o k wr => ∃ (j : Nat) , j ≤ n ∧ k = .int .i64 j ∧ o = .int .i64 (sum (zs.take j)) ∧ 0 ≤ sum (zs.take j) ∧ sum (zs.take j) ≤ 65536 ∧ Hid (wrong (zs.drop j) (sum (zs.take j)) = wrong zs 0) ∧
      wr.ownsRow w.heap.size 3 1 v j ((begins (zs.take j) 0).map (Value.int .i64)) ∧ Below w.heap.size w wr) (fun _ _ k _ => n - (intOf k).toNat)
  case atStart => exact ⟨0, Nat.zero_le _, rfl, rfl, by simp [sum], by simp [sum], HR, World.ownsRow_nil _ _ _ _, Below.refl _ _⟩
  case round =>
    obtain ⟨j, hj, rfl, rfl, he0, he1, HW, hown, hbel⟩ := hrel
    by_cases hlt : j < n
    · have hjz : j < zs.length := by have := HN.out; omega
      have H1 := Lib.hid (wrong_drop zs j hjz (sum (zs.take j)))
      obtain ⟨b, off, rfl, hc0⟩ := (HS.out.ext hbel).at hjz
      obtain ⟨z1, z2⟩ := HZ.out j hjz
      by_cases h0 : nth zs j < 0
      · go_wp2
        go_ret3
        exact ⟨hbel, .inl ⟨by rw [← HW.out, H1.out, if_pos h0]; decide, by rw [← HW.out, H1.out, if_pos h0]; rfl⟩⟩
      · by_cases h1 : 65536 - sum (zs.take j) < nth zs j
        · go_wp2
          go_ret3
          exact ⟨hbel, .inl ⟨by rw [← HW.out, H1.out, if_neg (by omega), if_pos h1]; decide, by rw [← HW.out, H1.out, if_neg (by omega), if_pos h1]; rfl⟩⟩
        · have HB := Lib.hid hbel; clear hbel
          have HO := Lib.hid hown; clear hown
          go_wp2_with (at_builtin; refine wpList_app1 rfl (.tmp 23) (.tmp 25) 22 rfl w.heap.size 3 _ 8 Try.underlying22 Try.info3 rfl _ _ _ (.int .i64 (sum (zs.take j))) _ rfl (HO.out.alloc _) rfl ?c1 rfl ?c2 ?c3 ?c4 ?_)
          case c2 => unfold maxLen; omega
          case c3 => omega
          case c4 => have := HB.out.size; simp; omega
          intro v' w1 ho hg hb
          have HO' := Lib.hid ho; clear ho
          have HB' := Lib.hid ((HB.out.alloc HB.out.size _).trans hb); clear hb hg
          go_wp2
          go_roundw
          case rel =>
            have es := sum_take_succ zs j hjz
            refine ⟨j + 1, by omega, by go_num, by rw [es], by omega, by omega, Lib.hid (by rw [← HW.out, H1.out, if_neg (by omega), if_neg (by omega), es]), ?_, HB'.out⟩
            have := HO'.out
            rw [take_snoc zs j hjz, begins_append]
            simpa [begins] using this
          case measure => simp [intOf]; omega
    · go_wp2
      go_ret3
      have hj' : j = n := by omega
      subst hj'
      have hl : j = zs.length := HN.out
      have hw : wrong zs 0 = 0 := by rw [← HW.out, hl]; simp [wrong]
      have ht : zs.take j = zs := by rw [hl, List.take_length]
      rw [ht] at hown ⊢
      obtain ⟨a', cap', rfl, hi⟩ := IsInts.own hown
      exact ⟨hbel, .inr ⟨hw, a', cap', by rw [hl]; rfl, hi⟩⟩

end Go.Proofs.Ytiicflmkhchmlaa
