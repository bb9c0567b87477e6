/-
  The law StatGreatest.
-/
import Derived.Test.YtnknlamcdeaacaaGreatLaw
import Derived.Test.YtnknlamcdeaacaaOwnN
import Derived.Deep.DeepCutAuto
namespace Go.Proofs.Ytnknlamcdeaacaa
open Go.RowKit

theorem Try.info27 : (Try.prog.info? 27).map (fun i => (i.zero, i.size, i.bytes)) = some (some (.float .f64 0), 1, 8) := by kernel_rfl

theorem IsFl.vals {w : World} {a : Option Addr} {bs : List Nat} (h : IsFl w a bs) : IsVals w a (bs.map (Value.float .f64)) := by
  rcases h with rfl | ⟨b, off, ha, hc⟩
  · exact .inl rfl
  · refine .inr ⟨b, off, ha, fun i hi => ?_⟩
    rw [List.length_map] at hi
    rw [hc i hi, List.getElem?_map, getElem?_nthD 0 bs i hi]; rfl

theorem IsFl.own {w : World} {B n : Nat} {v : Value} {xs : List Nat} (h : w.ownsRow B 27 1 v n (xs.map (Value.float .f64))) :
    ∃ a cap, v = .slice a n cap ∧ n = xs.length ∧ IsFl w a xs := by
  obtain ⟨hl, h2⟩ := h
  have hln : n = xs.length := by simpa using hl.symm
  rcases h2 with ⟨rfl, rfl⟩ | ⟨g, cap, cur, rfl, hg, hh, hn, hm, hs, ht⟩
  · exact ⟨none, 0, rfl, hln, .inl (by simpa using hl)⟩
  · refine ⟨_, cap, rfl, hln, .inr ⟨g, 0, rfl, fun i hi => ?_⟩⟩
    have hr : w.ownsRow B 27 1 (.slice (some ⟨g, 0, none⟩) n cap) n (xs.map (Value.float .f64)) := ⟨hl, .inr ⟨g, cap, cur, rfl, hg, hh, hn, hm, hs, ht⟩⟩
    have := hr.cells (g := g) rfl i (.float .f64 (nthD 0 xs i)) (by rw [List.getElem?_map, getElem?_nthD 0 xs i hi]; rfl)
    rw [addr_add] at this; simpa using this

theorem oneCell_fl (l : List Nat) : ∀ u ∈ l.map (Value.float .f64), u.oneCell' = true := by
  intro u hu
  obtain ⟨b, _, rfl⟩ := List.mem_map.1 hu
  rfl

theorem greatest_lt (l : List Nat) (h : ∀ x ∈ l, x < 2 * B63) : greatest l NINF < 2 * B63 := by
  have key : ∀ (l : List Nat) (out : Nat), out < 2 * B63 → (∀ x ∈ l, x < 2 * B63) → greatest l out < 2 * B63 := by
    intro l
    induction l with
    | nil => intro out ho _; exact ho
    | cons x r ih =>
      intro out ho hl
      unfold greatest
      have hx := hl x List.mem_cons_self
      split
      · exact hx
      · refine ih _ ?_ (fun y hy => hl y (List.mem_cons_of_mem _ hy))
        split
        · exact hx
        · exact ho
  exact key l NINF (by decide) h

def inz (e0 : Bool) (l : List Nat) (z : Nat) (j : Nat) : Bool := e0 || inB l z j
theorem inz_no {e0 : Bool} {l : List Nat} {z j : Nat} {x : Nat} (h : ((l.take (j + 1)).any fun x => sameF x z) = (((l.take j).any fun x => sameF x z) || sameF x z)) (hb : inz e0 l z j = false) : inz e0 l z (j + 1) = sameF x z := by
  unfold inz inB at *
  simp only [Bool.or_eq_false_iff] at hb
  rw [h, hb.1, hb.2]; rfl
theorem inz_yes {e0 : Bool} {l : List Nat} {z j : Nat} {x : Nat} (h : ((l.take (j + 1)).any fun x => sameF x z) = (((l.take j).any fun x => sameF x z) || sameF x z)) (hb : inz e0 l z j = true) : inz e0 l z (j + 1) = true := by
  unfold inz inB at *
  rw [h]
  cases e0
  · simp only [Bool.false_or] at hb ⊢; rw [hb]; rfl
  · rfl

/-- What holds of the three greatest ones. -/
def GreatFacts (zs : List Nat) (X Y Z : Nat) : Prop :=
  (∀ i, i < zs.length → NotUp (nthD 0 zs i) Z) ∧
  ((nan Z = true ∧ noneB zs zs.length = true) ∨
   (noneB zs zs.length = false ∧ (zs = [] → Z = NINF) ∧ (zs ≠ [] → inB zs Z zs.length = true) ∧
    ((sameF Z X = true ∧ (FloatKind.f64.format.order Y X == some Ordering.gt) = false) ∨ (sameF Z Y = true ∧ (FloatKind.f64.format.order X Y == some Ordering.gt) = false))))

theorem gt_of_key2 (a b : Nat) (ha : nan a = false) (hb : nan b = false) (h : key2 a ≤ key2 b) : (FloatKind.f64.format.order a b == some Ordering.gt) = false := by
  have hk : key a ≤ key b := by
    by_cases hc : key a ≤ key b
    · exact hc
    · have := key2_lt_of b a (by omega); omega
  by_cases he : key a = key b
  · rw [fo_same a b ha hb he]; rfl
  · rw [fo_lt a b ha hb (by omega)]; rfl

theorem greatest_facts (xs ys : List Nat) (hx : ∀ x ∈ xs, x < 2 * B63) (hy : ∀ x ∈ ys, x < 2 * B63) : GreatFacts (xs ++ ys) (greatest xs NINF) (greatest ys NINF) (greatest (xs ++ ys) NINF) := by
  have hxy : ∀ x ∈ xs ++ ys, x < 2 * B63 := fun x h => by
    rcases List.mem_append.1 h with h | h
    · exact hx x h
    · exact hy x h
  by_cases hn : ∃ x ∈ xs ++ ys, nan x = true
  · have hz := greatest_nan (xs ++ ys) NINF hn
    exact ⟨fun i _ => notUp_nan _ _ hz, .inl ⟨hz, noneB_of _ hn⟩⟩
  · have hn' : ∀ x ∈ xs ++ ys, nan x = false := fun x h => by
      cases h' : nan x
      · rfl
      · exact absurd ⟨x, h, h'⟩ hn
    obtain ⟨z1, z2, z3, z4⟩ := greatest_max (xs ++ ys) NINF hn' (by decide)
    have nx : ∀ x ∈ xs, nan x = false := fun x h => hn' x (List.mem_append_left _ h)
    have ny : ∀ x ∈ ys, nan x = false := fun x h => hn' x (List.mem_append_right _ h)
    obtain ⟨x1, _, _, _⟩ := greatest_max xs NINF nx (by decide)
    obtain ⟨y1, _, _, _⟩ := greatest_max ys NINF ny (by decide)
    refine ⟨fun i hi => ?_, .inr ⟨?_, ?_, ?_, ?_⟩⟩
    · have hm := nthD_mem 0 (xs ++ ys) i hi
      exact notUp_le _ _ (hxy _ hm) (greatest_lt _ hxy) (hn' _ hm) z1 (z4 _ hm)
    · unfold noneB; rw [any_all, List.any_eq_false]; intro x h; rw [hn' x h]; decide
    · intro h; rw [h]; rfl
    · intro h; exact inB_mem _ _ (greatest_mem _ hxy hn' h)
    · rcases greatest_append xs ys nx ny hx hy with ⟨e, h⟩ | ⟨e, h⟩
      · exact .inl ⟨by rw [e]; exact sameF_refl _, gt_of_key2 _ _ y1 x1 h⟩
      · exact .inr ⟨by rw [e]; exact sameF_refl _, gt_of_key2 _ _ x1 y1 h⟩

set_option maxRecDepth 100000 in
set_option maxHeartbeats 1000000 in
theorem greatest_big (a b : Option Addr) (n m c d : Nat) (w : World) (h : 1000 < n ∨ 1000 < m) :
    Calls Try.prog 5 #[.slice a n c, .slice b m d] w fun e w' => e = .returned (.bool true) ∧ Ext w w' := by
  by_cases hn : 1000 < n
  · go_enter Try.func5, Try.ntmps5
    go_wp2_with (go_at_call 7; refine (known_any _).mono ?_; rintro e w' ⟨rfl, hext⟩)
    go_ret
    exact ⟨rfl, hext⟩
  · have hm : 1000 < m := by omega
    clear h
    go_enter Try.func5, Try.ntmps5
    go_wp2_with (go_at_call 7; refine (known_any _).mono ?_; rintro e w' ⟨rfl, hext⟩)
    go_ret
    exact ⟨rfl, hext⟩

set_option maxRecDepth 100000 in
set_option maxHeartbeats 2000000 in
theorem greatest_small (a b : Option Addr) (c d : Nat) (xs ys : List Nat) (w : World) (hx : xs.length ≤ 1000) (hy : ys.length ≤ 1000) (ha : IsFl w a xs) (hb : IsFl w b ys)
    (han : a = none → xs = [] ∧ c = 0) (hbn : b = none → ys = [] ∧ d = 0)
    (hlx : ∀ i, i < xs.length → nthD 0 xs i < 2 * B63) (hly : ∀ i, i < ys.length → nthD 0 ys i < 2 * B63) :
    Calls Try.prog 5 #[.slice a xs.length c, .slice b ys.length d] w fun e w' => e = .returned (.bool true) ∧ Ext w w' := by
  have HA := Lib.hid ha; clear ha
  have HB := Lib.hid hb; clear hb
  have HAN := Lib.hid (fun h => ⟨by rw [(han h).1]; rfl, (han h).2⟩ : a = none → xs.map (Value.float .f64) = [] ∧ c = 0); clear han
  have HBN := Lib.hid (fun h => ⟨by rw [(hbn h).1]; rfl, (hbn h).2⟩ : b = none → ys.map (Value.float .f64) = [] ∧ d = 0); clear hbn
  have hll : (xs ++ ys).length = xs.length + ys.length := List.length_append
  have hlz : ∀ i, i < (xs ++ ys).length → nthD 0 (xs ++ ys) i < 2 * B63 := by
    intro i hi
    by_cases h : i < xs.length
    · rw [nthD_append_left 0 xs ys i h]; exact hlx i h
    · have e : i = xs.length + (i - xs.length) := by omega
      rw [e, nthD_append_right]; exact hly _ (by omega)
  have HLX := Lib.hid hlx; clear hlx
  have HLY := Lib.hid hly; clear hly
  have HLZ := Lib.hid hlz; clear hlz
  have HO := Lib.hid (World.ownsRow_made (e := 27) (size := 1) w #[] 0 (Nat.le_refl w.heap.size) (by decide) rfl)
  have ts0 : True := trivial
  have ts1 : True := trivial
  have HLL := Lib.hid hll; clear hll
  go_enter Try.func5, Try.ntmps5
  go_wp2_with (first | (at_builtin; have _t := ts0; refine wpList_appN rfl (.tmp 21) (.tmp 22) 32 rfl w.heap.size 27 _ 8 Try.underlying32 Try.info27 rfl _ 0 [] (xs.map (Value.float .f64)) a xs.length c (by simp) rfl HO.out rfl HAN.out (HA.out.ext ((Ext.refl w).alloc _)).vals (oneCell_fl xs) ?_ ?_ ?_ ?_; rotate_right; clear ts0; intro v1 w1 ho1 hg1 hb1; rw [Nat.zero_add, List.nil_append] at ho1; have HO1 := Lib.hid ho1; clear ho1; have HB1 := Lib.hid hb1; clear hb1 hg1) | (at_builtin; have _t := ts1; refine wpList_appN rfl (.tmp 23) (.tmp 24) 32 rfl w.heap.size 27 _ 8 Try.underlying32 Try.info27 rfl v1 xs.length (xs.map (Value.float .f64)) (ys.map (Value.float .f64)) b ys.length d (by simp) rfl HO1.out rfl HBN.out (HB.out.ext (ext_of_below ((Below.refl _ _).alloc (Nat.le_refl _) _) HB1.out)).vals (oneCell_fl ys) ?_ ?_ ?_ ?_; rotate_right; clear ts1; intro v2 w2 ho2 hg2 hb2; rw [← List.map_append] at ho2; have HO2 := Lib.hid ho2; clear ho2; have HB2 := Lib.hid hb2; clear hb2 hg2) | fail)
  any_goals (first | (unfold maxLen; omega) | omega | (simp; done))
  case refine_3 => have := HB1.out.size; simp at this; omega
  have E2 : Hid (Ext w w2) := Lib.hid (ext_of_below (ext_of_below ((Below.refl _ _).alloc (Nat.le_refl _) _) HB1.out) HB2.out)
  have hown := IsFl.own HO2.out
  rw [HLL.out] at hown
  obtain ⟨az, cz, rfl, -, hz⟩ := hown
  have HZ := Lib.hid hz; clear hz
  clear HB1 HB2 HO HO1 HO2 HAN HBN
  have hnn : ∀ l : List Nat, (∀ i, i < l.length → nthD 0 l i < 2 * B63) → ∀ x ∈ l, x < 2 * B63 := by
    intro l hl x hx
    obtain ⟨i, hi, rfl⟩ := List.getElem_of_mem hx
    rw [nthD_getElem 0 l i hi]; exact hl i hi
  have HX := hnn xs HLX.out
  have HY := hnn ys HLY.out
  have HXY := hnn (xs ++ ys) HLZ.out
  have glt : ∀ l : List Nat, (∀ x ∈ l, x < 2 * B63) → greatest l NINF < 2 * B63 := fun l hl => greatest_lt l hl
  have gx := glt xs HX
  have gy := glt ys HY
  have gz := glt (xs ++ ys) HXY
  have hfacts := greatest_facts xs ys HX HY
  clear HX HY HXY hnn glt
  have HF := Lib.hid hfacts; clear hfacts
  have GX := Lib.hid gx; clear gx
  have GY := Lib.hid gy; clear gy
  have GZ := Lib.hid gz; clear gz
  refine ((greatest_any a c xs w2 (HA.out.ext E2.out) HLX.out (by omega))).mono ?_
  rintro e w3 ⟨rfl, rfl⟩
  go_wp2_with fail
  refine ((greatest_any b d ys w3 (HB.out.ext E2.out) HLY.out (by omega))).mono ?_
  rintro e w4 ⟨rfl, rfl⟩
  go_wp2_with fail
  have hgz := greatest_any az cz (xs ++ ys) w4 HZ.out HLZ.out (by rw [HLL.out]; omega)
  rw [HLL.out] at hgz
  refine hgz.mono ?_
  rintro e w5 ⟨rfl, rfl⟩
  clear HLX HLY
  generalize greatest xs NINF = X at *
  generalize greatest ys NINF = Y at *
  generalize hz : greatest (xs ++ ys) NINF = Z at *
  clear hz
  generalize hzs : xs ++ ys = zs at *
  clear hzs hgz
  go_wp2_with fail
  generalize he0 : ((xs.length : Int) + (ys.length : Int) == 0) = e0
  have HE0 := Lib.hid he0; clear he0
  go_loopw [9, 10, 37] (fun s9 s10 k wr => ∃ j : Nat, j ≤ xs.length + ys.length ∧ k = .int .i64 j ∧ s9 = .bool (noneB zs j) ∧ s10 = .bool (inz e0 zs Z j) ∧ Ext w5 wr) (fun _ _ k _ => xs.length + ys.length - (intOf k).toNat)
  case atStart => exact ⟨0, Nat.zero_le _, rfl, rfl, by simp [inz, inB], Ext.refl _⟩
  case round =>
    obtain ⟨j, hj, rfl, rfl, rfl, hxr⟩ := hrel
    by_cases hlt : j < xs.length + ys.length
    · have hjz : j < zs.length := by rw [HLL.out]; exact hlt
      have hnu := HF.out.1 j hjz
      have HN1 := Lib.hid (any_take_succ zs nan j hjz)
      have HI1 := Lib.hid (any_take_succ zs (fun x => sameF x Z) j hjz)
      have hxl := HLZ.out j hjz
      obtain ⟨bb, off, rfl, hc0⟩ := (HZ.out.ext hxr).at hjz
      generalize nthD 0 zs j = x at *
      have HNU := Lib.hid hnu; clear hnu
      have HXL := Lib.hid hxl; clear hxl hjz
      clear HA HB
      go_upto_region 9 with (fail)
      go_cut [9] (fun s wx => s = .bool (noneB zs (j + 1)) ∧ ∃ m, wx = wr.drewN m)
      case first =>
        cases hb : noneB zs j
        · cases hn : nan x
          · have f1 := fo_self x hn
            have HB : Hid (noneB zs (j + 1) = false) := Lib.hid (HN1.out.trans (by unfold noneB at hb; rw [hb, hn]; rfl))
            clear hb hn
            go_quiet (fail)
            go_wp2
            go_meet
            exact ⟨by rw [HB.out]; try rfl, _, rfl⟩
          · have f1 := fo_nan x hn
            have HB : Hid (noneB zs (j + 1) = true) := Lib.hid (HN1.out.trans (by rw [hn]; simp))
            clear hb hn
            go_quiet (fail)
            go_wp2
            go_meet
            exact ⟨by rw [HB.out]; try rfl, _, rfl⟩
        · have HB : Hid (noneB zs (j + 1) = true) := Lib.hid (HN1.out.trans (by unfold noneB at hb; rw [hb]; rfl))
          clear hb
          go_quiet (fail)
          go_wp2
          go_meet
          exact ⟨by rw [HB.out]; try rfl, _, rfl⟩
      case rest =>
        obtain ⟨rfl, m, rfl⟩ := hcut
        go_upto_region 10 with (fail)
        go_cut [10] (fun s wx => s = .bool (inz e0 zs Z (j + 1)) ∧ ∃ m, wx = wr.drewN m)
        case first =>
          have hsm := same_any x Z
          cases hb : inz e0 zs Z j
          · have HB : Hid (inz e0 zs Z (j + 1) = sameF x Z) := Lib.hid (inz_no HI1.out hb)
            have HS := Lib.hid hsm
            clear hb hsm
            go_wp2_with (go_at_call 9; refine (HS.out _ HXL.out GZ.out).mono ?_; rintro e w' ⟨rfl, rfl⟩)
            go_meet
            exact ⟨by rw [HB.out]; try rfl, _, rfl⟩
          · have HB : Hid (inz e0 zs Z (j + 1) = true) := Lib.hid (inz_yes HI1.out hb)
            clear hb hsm
            go_wp2
            go_meet
            exact ⟨by rw [HB.out]; try rfl, _, rfl⟩
        case rest =>
          obtain ⟨rfl, m2, rfl⟩ := hcut
          have q1 : ∀ w, (binOp .quo 27 (.float .f64 4607182418800017408) (.float .f64 0)).run Try.prog w = .ok (.float .f64 INF) w := fun w => run_float_arith w .quo 27 .f64 4607182418800017408 0 INF (by decide)
          have q2 : ∀ w, (binOp .quo 27 (.float .f64 4607182418800017408) (.float .f64 B63)).run Try.prog w = .ok (.float .f64 (B63 + INF)) w := fun w => run_float_arith w .quo 27 .f64 4607182418800017408 B63 (B63 + INF) (by decide)
          have o1 : FloatKind.f64.format.order INF 0 = some .gt := by decide
          have o2 : FloatKind.f64.format.order (B63 + INF) 0 = some .lt := by decide
          have o3 : FloatKind.f64.format.order 0 0 = some .eq := by decide
          have o4 : FloatKind.f64.format.order B63 0 = some .eq := by decide
          have o5 : FloatKind.f64.format.order B63 B63 = some .eq := by decide
          rcases HNU.out with ⟨n1, n2⟩ | ⟨n1, n2, n3⟩ | ⟨rfl, rfl⟩ | ⟨rfl, rfl⟩ | ⟨rfl, rfl⟩
          all_goals
            go_wp2
            go_roundw
            case rel => exact ⟨j + 1, by omega, by go_num, rfl, rfl, hxr.drewN _⟩
            case measure => simp [intOf]; omega
    · have hje : j = xs.length + ys.length := by omega
      subst hje
      clear HA HB
      obtain ⟨-, hpost⟩ := HF.out
      have hE : Ext w wr := E2.out.trans hxr
      rw [HLL.out] at hpost
      rcases hpost with ⟨hnz, hb⟩ | ⟨hb, hemp, hnemp, hsm⟩
      · rw [hb]
        have f1 := fo_nan Z hnz
        clear hb hnz hlt
        go_wp2_with (go_at_call 7; refine (known_any _).mono ?_; rintro e w' ⟨rfl, hext⟩)
        go_ret
        exact ⟨rfl, hE.trans hext⟩
      · rw [hb]
        clear hb hlt
        have hin : inz e0 zs Z (xs.length + ys.length) = true := by
          unfold inz
          by_cases h : zs = []
          · have : e0 = true := by
              rw [← HE0.out]
              have hl := HLL.out
              rw [h] at hl
              simp at hl ⊢; omega
            rw [this]; rfl
          · rw [hnemp h]; simp
        rw [hin]; clear hin hnemp
        have hxy := same_any Z X
        have hyx := same_any Z Y
        have HXY := Lib.hid hxy; clear hxy
        have HYX := Lib.hid hyx; clear hyx
        by_cases h0 : zs = []
        · have hz := hemp h0
          have hN : ((xs.length : Int) + (ys.length : Int) == 0) = true := by
            have hl := HLL.out
            rw [h0] at hl
            simp at hl ⊢; omega
          have hnn : nan Z = false := by rw [hz]; decide
          have f0 : FloatKind.f64.format.order Z 18318360957983683996 = some .lt := by rw [hz]; decide
          clear hemp h0 hz hnn
          have HN0 := Lib.hid HE0.out; clear HE0
          rcases hsm with ⟨s1, s2⟩ | ⟨s1, s2⟩
          · have S1 := Lib.hid s1; clear s1
            go_wp2_with fail
            refine (HXY.out _ GZ.out GX.out).mono ?_
            rintro e w' ⟨rfl, rfl⟩
            rw [S1.out]
            go_wp2_with (go_at_call 7; refine (known_any _).mono ?_; rintro e w' ⟨rfl, hext⟩)
            go_ret
            exact ⟨rfl, hE.trans hext⟩
          · have S1 := Lib.hid s1; clear s1
            cases hzx : sameF Z X
            · have S2 := Lib.hid hzx; clear hzx
              go_wp2_with fail
              refine (HXY.out _ GZ.out GX.out).mono ?_
              rintro e w' ⟨rfl, rfl⟩
              rw [S2.out]
              go_wp2_with fail
              refine (HYX.out _ GZ.out GY.out).mono ?_
              rintro e w' ⟨rfl, rfl⟩
              rw [S1.out]
              go_wp2_with (go_at_call 7; refine (known_any _).mono ?_; rintro e w' ⟨rfl, hext⟩)
              go_ret
              exact ⟨rfl, hE.trans hext⟩
            · have S2 := Lib.hid hzx; clear hzx
              cases hg : (FloatKind.f64.format.order Y X == some Ordering.gt)
              · go_wp2_with fail
                refine (HXY.out _ GZ.out GX.out).mono ?_
                rintro e w' ⟨rfl, rfl⟩
                rw [S2.out]
                go_wp2_with (go_at_call 7; refine (known_any _).mono ?_; rintro e w' ⟨rfl, hext⟩)
                go_ret
                exact ⟨rfl, hE.trans hext⟩
              · go_wp2_with fail
                refine (HXY.out _ GZ.out GX.out).mono ?_
                rintro e w' ⟨rfl, rfl⟩
                rw [S2.out]
                go_wp2_with fail
                refine (HYX.out _ GZ.out GY.out).mono ?_
                rintro e w' ⟨rfl, rfl⟩
                rw [S1.out]
                go_wp2_with (go_at_call 7; refine (known_any _).mono ?_; rintro e w' ⟨rfl, hext⟩)
                go_ret
                exact ⟨rfl, hE.trans hext⟩
        · have hN : ((xs.length : Int) + (ys.length : Int) == 0) = false := by
            have hl := HLL.out
            have : zs.length ≠ 0 := fun h => h0 (List.length_eq_zero_iff.1 h)
            simp; omega
          have hpos : 0 < (xs.length : Int) + (ys.length : Int) := by
            have hl := HLL.out
            have : zs.length ≠ 0 := fun h => h0 (List.length_eq_zero_iff.1 h)
            omega
          clear hemp h0
          have HN0 := Lib.hid HE0.out; clear HE0
          rcases hsm with ⟨s1, s2⟩ | ⟨s1, s2⟩
          · have S1 := Lib.hid s1; clear s1
            go_wp2_with fail
            refine (HXY.out _ GZ.out GX.out).mono ?_
            rintro e w' ⟨rfl, rfl⟩
            rw [S1.out]
            go_wp2_with (go_at_call 7; refine (known_any _).mono ?_; rintro e w' ⟨rfl, hext⟩)
            go_ret
            exact ⟨rfl, hE.trans hext⟩
          · have S1 := Lib.hid s1; clear s1
            cases hzx : sameF Z X
            · have S2 := Lib.hid hzx; clear hzx
              go_wp2_with fail
              refine (HXY.out _ GZ.out GX.out).mono ?_
              rintro e w' ⟨rfl, rfl⟩
              rw [S2.out]
              go_wp2_with fail
              refine (HYX.out _ GZ.out GY.out).mono ?_
              rintro e w' ⟨rfl, rfl⟩
              rw [S1.out]
              go_wp2_with (go_at_call 7; refine (known_any _).mono ?_; rintro e w' ⟨rfl, hext⟩)
              go_ret
              exact ⟨rfl, hE.trans hext⟩
            · have S2 := Lib.hid hzx; clear hzx
              cases hg : (FloatKind.f64.format.order Y X == some Ordering.gt)
              · go_wp2_with fail
                refine (HXY.out _ GZ.out GX.out).mono ?_
                rintro e w' ⟨rfl, rfl⟩
                rw [S2.out]
                go_wp2_with (go_at_call 7; refine (known_any _).mono ?_; rintro e w' ⟨rfl, hext⟩)
                go_ret
                exact ⟨rfl, hE.trans hext⟩
              · go_wp2_with fail
                refine (HXY.out _ GZ.out GX.out).mono ?_
                rintro e w' ⟨rfl, rfl⟩
                rw [S2.out]
                go_wp2_with fail
                refine (HYX.out _ GZ.out GY.out).mono ?_
                rintro e w' ⟨rfl, rfl⟩
                rw [S1.out]
                go_wp2_with (go_at_call 7; refine (known_any _).mono ?_; rintro e w' ⟨rfl, hext⟩)
                go_ret
                exact ⟨rfl, hE.trans hext⟩

end Go.Proofs.Ytnknlamcdeaacaa
