/-
  plan's reader: picks.
-/
import Derived.Test.YtcfbcffmlinlaaaDoorPlRd
namespace Go.Proofs.YtcfbcffmlinlaaaDoor
open Go.RowKit

def picksTk (r : Pl.St) (l : List Int) : Int × Pl.St :=
  if l.any (fun x => decide (255 < x)) = true then (10, r)
  else if 65536 < r.s.picks.length + l.length then (3, r)
  else (0, ⟨⟨r.s.n, r.s.specs, r.s.calls, r.s.picks ++ l⟩, 3, decide (l.length < 16)⟩)

theorem picksTk_bad {r : Pl.St} {l : List Int} {x : Int} (h : x ∈ l) (hx : 255 < x) : picksTk r l = (10, r) := by
  unfold picksTk; rw [if_pos]; rw [List.any_eq_true]; exact ⟨x, h, by simpa using hx⟩
theorem picksTk_ok {r : Pl.St} {l : List Int} (h : ∀ x ∈ l, x ≤ 255) : picksTk r l = if 65536 < r.s.picks.length + l.length then (3, r) else (0, ⟨⟨r.s.n, r.s.specs, r.s.calls, r.s.picks ++ l⟩, 3, decide (l.length < 16)⟩) := by
  unfold picksTk; rw [if_neg]; rw [List.any_eq_true]
  rintro ⟨x, hx, h2⟩
  have := h x hx
  simp at h2; omega

set_option maxRecDepth 100000 in
set_option maxHeartbeats 4000000 in
theorem picks_any (w : World) (B R : Nat) (r : Pl.St) (line : Int) (a : Option Addr) (c : Nat) (l : List Int) (h : IsRd w B R r line) (hok : Rok r) (hB : B ≤ w.heap.size) (hl1 : 1 ≤ l.length) (hl : l.length ≤ 16) (hi : IsInts .u64 w a l)
    (hg : ∀ x ∈ l, 0 ≤ x ∧ x ≤ 18446744073709551615) :
    Calls Tryd.prog 44 #[.pointer (some ⟨R, 0, none⟩), .slice a l.length c] w (TakePost w B R line (picksTk r l)) := by
  obtain ⟨sa, ca, pa, h⟩ := h
  have HRw := Lib.hid h.here.lt
  obtain ⟨qa, qc, rfl, -⟩ := own_slice h.picks
  have H := Lib.hid h
  have HBw := Lib.hid hB
  have HG := Lib.hid hg
  have HI := Lib.hid hi
  have hp6 := hok.picks
  clear h hB hg hi hok
  go_enter Tryd.func44, Tryd.ntmps44
  go_wp2_with fail
  go_loopw [4, 9] (fun u v wr => ∃ i : Nat, i ≤ l.length ∧ v = .int .i64 (i : Int) ∧ Hid (∀ x ∈ l.take i, x ≤ 255) ∧ Hid (Ext w wr) ∧ Hid (wr.ownsRow w.heap.size 3 1 u i ((l.take i).map (Value.int .i64)))) (fun _ v _ => l.length - (intOf v).toNat)
  case atStart => exact ⟨0, Nat.zero_le _, rfl, Lib.hid (fun x hx => by cases hx), Lib.hid (Ext.refl _), Lib.hid (World.ownsRow_nil _ _ _ _)⟩
  case round =>
    obtain ⟨i, hil, rfl, HL, HX, HO⟩ := hrel
    obtain ⟨va, vc, rfl, -⟩ := own_slice HO.out
    have htl : (l.take i).length = i := by rw [List.length_take]; omega
    by_cases hlt : i < l.length
    · obtain ⟨b, off, rfl, e1⟩ := (HI.out.ext HX.out).at hlt
      obtain ⟨x0, x1⟩ := HG.out _ (nth_mem l i hlt)
      have HS := Lib.hid (take_snoc l i hlt)
      have HM := Lib.hid (nth_mem l i hlt)
      have HT := Lib.hid htl; clear htl
      generalize nth l i = x at *
      by_cases hx : x ≤ 255
      · have HX255 := Lib.hid hx
        go_wp2_with fail
        refine (fits_ok x 255 _ x0 hx (by decide)).mono ?_
        rintro e w2 ⟨rfl, rfl⟩
        go_wp2_with (at_builtin; refine wpList_app1 rfl (.tmp 13) (.tmp 16) 24 rfl w.heap.size 3 _ 8 Tryd.underlying24 Tryd.infoInt rfl _ _ _ (.int .i64 x) _ rfl (own_ext HO.out ((Ext.refl _).alloc _)) rfl ?_ rfl ?_ ?_ ?_ ?_; rotate_right; intro v' w3 ho3 hg3 hb3)
        any_goals (first | (rw [World.cell?_alloc_at _ _ _ _ (by simp)]; rfl) | (unfold maxLen; omega) | omega | (have := HX.out.size; simp; omega))
        go_roundw
        case rel =>
          refine ⟨i + 1, by omega, by go_num, Lib.hid ?_, Lib.hid (Below.trans (HX.out.alloc _) hb3), Lib.hid ?_⟩
          · rw [HS.out]
            intro y hy
            rcases List.mem_append.1 hy with h | h
            · exact HL.out y h
            · simp only [List.mem_singleton] at h; rw [h]; exact hx
          · rw [HS.out, List.map_append]; exact ho3
        case measure => simp [intOf]; omega
      · have HTK := Lib.hid (picksTk_bad (r := r) HM.out (show 255 < x by omega))
        go_wp2_with fail
        refine (fits_no x 255 _ x0 (by omega) x1 (by decide) (by decide)).mono ?_
        rintro e w2 ⟨hgv, rfl⟩
        unfold Gave at hgv
        subst hgv
        refine ⟨rfl, BB.ext HX.out HBw.out, ?_, ?_⟩
        · rw [HTK.out]; exact ⟨_, _, _, H.out.ext HX.out⟩
        · rw [HTK.out]; exact .inr ⟨(by show (10 : Int) ≠ 0; decide), rfl⟩
    · obtain rfl : i = l.length := by omega
      have hall : l.take l.length = l := List.take_length
      rw [hall] at HL HO
      clear hall htl
      have HTK := Lib.hid (picksTk_ok (r := r) HL.out)
      have H2 := Lib.hid (H.out.ext HX.out)
      have c3 := H2.out.here.cell 3 (v := .slice qa r.s.picks.length qc) rfl
      have cR := H2.out.here.lt
      obtain ⟨a', c', e1, -, -, hin, hnil⟩ := IsInts.ownK HO.out
      simp only [Value.slice.injEq] at e1
      obtain ⟨rfl, -, rfl⟩ := e1
      have HV := Lib.hid hin.vals
      have HNIL := Lib.hid hnil
      clear hin hnil
      have hws := HX.out.size
      by_cases hp : 65536 < r.s.picks.length + l.length
      · have HTK2 := Lib.hid (HTK.out.trans (if_pos hp))
        have d : decide ((l.length : Int) ≤ 65536 - (r.s.picks.length : Int)) = false := decide_eq_false (by omega)
        clear HTK
        go_wp2_with fail
        refine (give_no 3 _).mono ?_
        rintro e w3 ⟨hgv, rfl⟩
        unfold Gave at hgv
        subst hgv
        refine ⟨rfl, BB.ext HX.out HBw.out, ?_, ?_⟩
        · rw [HTK2.out]; exact ⟨_, _, _, H2.out⟩
        · rw [HTK2.out]; exact .inr ⟨(by show (3 : Int) ≠ 0; decide), rfl⟩
      · have HTK2 := Lib.hid (HTK.out.trans (if_neg hp))
        have d : decide ((l.length : Int) ≤ 65536 - (r.s.picks.length : Int)) = true := decide_eq_true (by omega)
        clear HTK
        have hbb : B ≤ wr.heap.size := Nat.le_trans HBw.out HX.out.size
        have hnil2 : va = none → l.map (Value.int .i64) = [] ∧ vc = 0 := fun h => by
          rcases HV.out with h1 | ⟨b, off, h1, -⟩
          · exact ⟨h1, HNIL.out h⟩
          · rw [h] at h1; cases h1
        have HNIL2 := Lib.hid hnil2
        clear hnil2
        go_wp2_with fail
        refine (give_ok 3 _).mono ?_
        rintro e w3 ⟨rfl, rfl⟩
        go_upto_region 8 with (at_builtin; refine wpList_appN rfl (.tmp 35) (.tmp 36) 24 rfl B 3 _ 8 Tryd.underlying24 Tryd.infoInt rfl _ _ _ (l.map (Value.int .i64)) va l.length vc (by simp) rfl H2.out.picks rfl HNIL2.out HV.out (by intro u hu; obtain ⟨y, -, rfl⟩ := List.mem_map.1 hu; rfl) (by unfold maxLen; omega) (by omega) hbb ?_; intro v' w4 ho4 hg4 hb4; obtain ⟨hb4', hp4⟩ := H2.out.app_picks l hg4 ho4; have k1 := hb4'.cell 3 (v := .slice qa r.s.picks.length qc) rfl; have k2 := hb4'.fz 3; have k3 := hb4'.lt; have HP4 := Lib.hid hp4; have HB4 := Lib.hid hb4; obtain ⟨pa', pc', rfl, -⟩ := own_slice ho4; clear hb4' hp4 ho4 hg4 hb4)
        have HB5 : Hid (BB B R w (w4.setCell ⟨R, 3, none⟩ (.slice pa' (r.s.picks.length + l.length) pc'))) := Lib.hid ((BB.ext HX.out HBw.out).trans ((BB.of HB4.out).trans (BB.set _ _)))
        clear k1 k2 k3 c3 cR HB4
        generalize (w4.setCell ⟨R, 3, none⟩ (.slice pa' (r.s.picks.length + l.length) pc')) = W5 at *
        have k1 := HP4.out.here.cell 5 (v := .int .i64 r.part) rfl
        have k2 := HP4.out.here.fz 5
        have k3 := HP4.out.here.lt
        go_upto_region 9 with (fail)
        have HP6 := Lib.hid (HP4.out.set_part 3)
        have HB6 := Lib.hid (HB5.out.trans (BB.set (i := 5) W5 (.int .i64 3)))
        clear k1 k2 k3 HP4 HB5
        generalize W5.setCell ⟨R, 5, none⟩ (.int .i64 3) = W6 at *
        have k1 := HP6.out.here.cell 6 (v := .bool r.last) rfl
        have k2 := HP6.out.here.fz 6
        have k3 := HP6.out.here.lt
        go_wp2_with fail
        go_end0
        refine ⟨HB6.out.trans (BB.set _ _), ?_, ?_⟩
        · rw [HTK2.out, show decide (l.length < 16) = decide ((l.length : Int) < 16) from by rw [decide_eq_decide]; omega]; exact ⟨_, _, _, HP6.out.set_last _⟩
        · rw [HTK2.out]; exact .inl ⟨rfl, rfl⟩

end Go.Proofs.YtcfbcffmlinlaaaDoor
