/-
  A builder that holds bytes; its WriteString at this program's numbers.
  plan's digits and lines, walked.
  plan.give and plan.fits, walked.
  plan.number, walked.
  script's reader: head reads threads and objects.
  script's reader: calls reads calls of so many threads. (Printed by gen_calls.py.)
-/
import Derived.Test.YtcfbcffmlinlaaaDoorJ01
import Derived.Test.YtcfbcffmlinlaaaDoorJ03
import Derived.Test.YtcfbcffmlinlaaaDoorJ05
import Derived.Test.YtcfbcffmlinlaaaDoorJ02
import Derived.Test.YtcfbcffmlinlaaaDoorProg
import Derived.Deep.DeepCutAuto
import Derived.Deep.CutBlock
import Derived.Lib.ConvBytes
set_option linter.unusedVariables false
namespace Go.Proofs
open Go.Shelf
def Tryd.lays166_ren : Go.Shelf.Ren := ⟨fun | 166 => 17 | 169 => 19 | 240 => 38 | 276 => 52 | n => n, fun | 9 => 9 | 3 => 3 | 4 => 4 | 0 => 0 | 20 => 20 | 72 => 52 | 76 => 55 | 70 => 50 | 37 => 43 | 75 => 54 | 164 => 106 | 5 => 5 | 80 => 61 | n => n, fun | n => n⟩
theorem Tryd.lays166 : Go.Proofs.Lays.n166 Tryd.prog Tryd.lays166_ren := {
  mixed := by kernel_rfl
  f166 := Tryd.func17.trans (congrArg some (by kernel_rfl))
  f240 := Tryd.func38.trans (congrArg some (by kernel_rfl))
  f276 := Tryd.func52.trans (congrArg some (by kernel_rfl))
  t0 := Tryd.underlying0
  a0 := Tryd.isAgg0
  z0 := Tryd.sizeOf0
  v0 := Tryd.zeroValue0
  t3 := Tryd.underlying3
  a3 := Tryd.isAgg3
  z3 := Tryd.sizeOf3
  v3 := Tryd.zeroValue3
  t4 := Tryd.underlying4
  a4 := Tryd.isAgg4
  z4 := Tryd.sizeOf4
  v4 := Tryd.zeroValue4
  t9 := Tryd.underlying9
  a9 := Tryd.isAgg9
  z9 := Tryd.sizeOf9
  v9 := Tryd.zeroValue9
  t20 := Tryd.underlying20
  a20 := Tryd.isAgg20
  z20 := Tryd.sizeOf20
  v20 := Tryd.zeroValue20
  t37 := Tryd.underlying43
  a37 := Tryd.isAgg43
  z37 := Tryd.sizeOf43
  v37 := Tryd.zeroValue43
  t70 := Tryd.underlying50
  a70 := Tryd.isAgg50
  z70 := Tryd.sizeOf50
  v70 := Tryd.zeroValue50
  t72 := Tryd.underlying52
  a72 := Tryd.isAgg52
  z72 := Tryd.sizeOf52
  v72 := Tryd.zeroValue52
  t75 := Tryd.underlying54
  a75 := Tryd.isAgg54
  z75 := Tryd.sizeOf54
  v75 := Tryd.zeroValue54
  t164 := Tryd.underlying106
  a164 := Tryd.isAgg106
  z164 := Tryd.sizeOf106
  v164 := Tryd.zeroValue106 }
theorem Tryd.Builder_Extra_166 : Builder.Extra Tryd.prog Tryd.lays166_ren := {
  sizeBuilder := by kernel_rfl
  liesBuilder := by kernel_rfl
  t5 := Tryd.underlying5
  a5 := Tryd.isAgg5
  z5 := Tryd.sizeOf5
  v5 := Tryd.zeroValue5
  infoByte := by kernel_rfl
  cellsByte := by kernel_rfl
  sizeByte := by kernel_rfl
  neB5 := by decide }
open Go.RowKit in
theorem Tryd.Builder_WriteString_k (B b : Nat) (bs : List Value) (s : ByteArray) (w : World) (h : Lib.IsBuilderF 52 5 B b bs w) (hlen : bs.length + s.size ≤ 140737488355328) (hBw : B ≤ w.heap.size) :
    Calls Tryd.prog 17 #[.pointer (some ⟨b, 0, none⟩), .string s] w fun e w' => e = .returned (.tuple #[.int .i64 s.size, .nilIface]) ∧ (Lib.BuilderAtF 52 5 B b (.pointer (some ⟨b, 0, none⟩)) (bs ++ Lib.strCells s) w' ∧ Below B w w' ∧ Lib.OthersKept 5 (some b) w w') := Any.Builder_WriteString_k Tryd.lays166 Tryd.Builder_Extra_166 B b bs s w h hlen hBw
end Go.Proofs
namespace Go.Proofs.YtcfbcffmlinlaaaDoor
open Go.RowKit

/-- The builder at block b holds these bytes. -/
def Bd (B b : Nat) (l : List UInt8) (w : World) : Prop := Lib.IsBuilderF 52 5 B b (Lib.byteCells l) w

theorem own_kept_ext {w w' : World} {B : Nat} {E : TypeId} {size n : Nat} {v : Value} {xs : List Value} (h : w.ownsRowF B E size v n xs) (he : Ext w w') : w'.ownsRowF B E size v n xs :=
  h.kept (row := none) ⟨he.os, he.tape, he.output, he.size, fun k hk _ => he.block k hk⟩ (Classical.em _)
theorem BdAt.ext {T e : TypeId} {B b : Nat} {p : Value} {bs : List Value} {w w' : World} (h : Lib.BuilderAtF T e B b p bs w) (he : Ext w w') : Lib.BuilderAtF T e B b p bs w' := by
  have hlt := h.lt
  obtain ⟨hB, v, hv, hown, hne⟩ := h
  exact ⟨hB, v, (he.block b hlt).trans hv, own_kept_ext hown he, hne⟩
theorem Bd.ext {B b : Nat} {l : List UInt8} {w w' : World} (h : Bd B b l w) (he : Ext w w') : Bd B b l w' :=
  Or.elim h (fun x => .inl (BdAt.ext x he)) (fun x => .inr (BdAt.ext x he))
theorem Bd.new (B : Nat) (w : World) (hB : B ≤ w.heap.size) : Bd B w.heap.size [] (w.alloc (.cells #[.pointer none, .slice none 0 0] 52)) :=
  .inl ⟨hB, .slice none 0 0, heap_alloc_new w _, ⟨rfl, .inl ⟨rfl, rfl⟩⟩, by simp [Value.ownBlock]⟩

theorem write_any (B b : Nat) (l s : List UInt8) (w : World) (h : Bd B b l w) (hl : l.length ≤ 1000000000) (hs : s.length ≤ 1000000000) (hB : B ≤ w.heap.size) :
    Calls Tryd.prog 17 #[.pointer (some ⟨b, 0, none⟩), .string (St s)] w fun e w' => e = .returned (.tuple #[.int .i64 s.length, .nilIface]) ∧ Bd B b (l ++ s) w' ∧ Below B w w' ∧ Lib.OthersKept 5 (some b) w w' := by
  refine (Tryd.Builder_WriteString_k B b (Lib.byteCells l) (St s) w h (by rw [Lib.byteCells_length, St_size]; omega) hB).mono ?_
  rintro e w' ⟨rfl, h1, h2, h3⟩
  refine ⟨by rw [St_size], .inr ?_, h2, h3⟩
  have : Lib.byteCells (l ++ s) = Lib.byteCells l ++ Lib.strCells (St s) := by
    rw [show Lib.strCells (St s) = Lib.byteCells s from rfl]
    simp [Lib.byteCells]
  rw [this]; exact h1

theorem told_any (B b : Nat) (l : List UInt8) (w : World) (h : Bd B b l w) (hB : B ≤ w.heap.size) :
    Calls Tryd.prog 19 #[.pointer (some ⟨b, 0, none⟩)] w fun e w' => e = .returned (.string (St l)) ∧ Below B w w' := by
  refine (Tryd.Builder_String_any_k B b l w h hB).mono ?_
  rintro e w' ⟨rfl, h1, h2, h3⟩
  exact ⟨rfl, h2⟩

theorem Blk.others {w w' : World} {k b : Nat} {cs : Array Value} {E : TypeId} (h : Blk w k cs E) (ho : Lib.OthersKept 5 (some b) w w') (hb : k ≠ b) (hE : E ≠ 5) : Blk w' k cs E :=
  ho k _ h (fun he => hb (Option.some.inj he)) (fun c fz hc => by cases hc; exact hE rfl)

theorem Bd.lt {B b : Nat} {l : List UInt8} {w : World} (h : Bd B b l w) : b < w.heap.size := Or.elim h Lib.BuilderAtF.lt Lib.BuilderAtF.lt

end Go.Proofs.YtcfbcffmlinlaaaDoor

namespace Go.Proofs.YtcfbcffmlinlaaaDoor
open Go.RowKit

theorem enc_ch (n : Int) (h0 : 0 ≤ n) (h1 : n < 10) : Utf8.encode (48 + n) = St [Tx.ch n.toNat] := by
  rw [enc_small (48 + n) (by omega) (by omega), show (48 + n).toNat = 48 + n.toNat by omega]; rfl

theorem digs_len (f : Nat) : ∀ x, (Tx.digs f x).length ≤ f + 1 := by
  induction f with
  | zero => intro x; simp [Tx.digs]
  | succ f ih =>
    intro x
    unfold Tx.digs
    split
    · simp
    · have := ih (x / 10); simp; omega

set_option maxHeartbeats 1000000 in
theorem pdigits_fuel (f : Nat) : ∀ (x : Int) (w : World), 0 ≤ x → x ≤ 18446744073709551615 → x.toNat ≤ f →
    Calls Tryd.prog 39 #[.int .u64 x] w fun e w' => e = .returned (.string (St (Tx.digs 20 x.toNat))) ∧ w = w' := by
  induction f with
  | zero =>
    intro x w h0 h1 hf
    have hx : x = 0 := by omega
    subst hx
    go_enter Tryd.func39, Tryd.ntmps39
    go_wp2
    go_ret
    exact ⟨by first | rfl | decide, rfl⟩
  | succ f ih =>
    intro x w h0 h1 hf
    by_cases hx : x < 10
    · have HD := Lib.hid (Tx.digs_small (x := x.toNat) (by omega))
      have he := enc_ch x h0 hx
      go_enter Tryd.func39, Tryd.ntmps39
      go_wp2
      go_ret
      exact ⟨ret_str (by rw [HD.out]), rfl⟩
    · have HD : Hid (Tx.digs 20 x.toNat = Tx.digs 20 (x / 10).toNat ++ [Tx.ch (x % 10).toNat]) := Lib.hid (by
        rw [Tx.digs_big (x := x.toNat) (by omega) (Tx.big21 (by omega)), show x.toNat / 10 = (x / 10).toNat by omega, show x.toNat % 10 = (x % 10).toNat by omega])
      have he := enc_ch (x % 10) (by omega) (by omega)
      have hl := digs_len 20 (x / 10).toNat
      have HIH := Lib.hid (ih (x / 10) w (by omega) (by omega) (by omega))
      go_enter Tryd.func39, Tryd.ntmps39
      go_wp2_with fail
      refine HIH.out.mono ?_
      rintro e w' ⟨rfl, rfl⟩
      go_wp2_with fail
      go_ret
      exact ⟨ret_str (by rw [HD.out]), rfl⟩

theorem pdigits_any (x : Int) (w : World) (h0 : 0 ≤ x) (h1 : x ≤ 18446744073709551615) :
    Calls Tryd.prog 39 #[.int .u64 x] w fun e w' => e = .returned (.string (St (Tx.digs 20 x.toNat))) ∧ w = w' := pdigits_fuel x.toNat x w h0 h1 (Nat.le_refl _)

theorem numsT_snoc (l : List Int) (i : Nat) (h : i < l.length) : Pl.numsT (l.take (i + 1)) = Pl.numsT (l.take i) ++ 32 :: Pl.dg (nth l i) := by
  unfold Pl.numsT; rw [take_snoc l i h, List.flatMap_append]; simp

theorem numsT_len (l : List Int) : (Pl.numsT l).length ≤ 22 * l.length := by
  induction l with
  | nil => simp [Pl.numsT]
  | cons x l ih =>
    unfold Pl.numsT at *
    have := digs_len 20 x.toNat
    rw [List.flatMap_cons, List.length_append, List.length_cons (a := (32 : UInt8)), List.length_cons]
    unfold Pl.dg at *
    omega

set_option maxHeartbeats 1000000 in
theorem line_any (wd : List UInt8) (l : List Int) (a : Option Addr) (c : Nat) (w : World) (hi : IsInts .u64 w a l) (hg : ∀ x ∈ l, 0 ≤ x ∧ x ≤ 18446744073709551615) (hl : l.length ≤ 100) (hw : wd.length ≤ 100) :
    Calls Tryd.prog 18 #[.string (St wd), .slice a l.length c] w fun e w' => e = .returned (.string (St (Pl.lineT wd l))) ∧ w = w' := by
  have HI := Lib.hid hi
  have HG := Lib.hid hg
  clear hi hg
  go_enter Tryd.func18, Tryd.ntmps18
  go_wp2_with fail
  simp only [lit_St]
  go_loopw [0, 9] (fun u v wr => ∃ i : Nat, i ≤ l.length ∧ v = .int .i64 (i : Int) ∧ u = .string (St (wd ++ Pl.numsT (l.take i))) ∧ Hid (wr = w)) (fun _ v _ => l.length - (intOf v).toNat)
  case atStart => exact ⟨0, Nat.zero_le _, rfl, vs (by simp [Pl.numsT]), Lib.hid rfl⟩
  case round =>
    obtain ⟨i, hil, rfl, rfl, HW⟩ := hrel
    have hnl := numsT_len (l.take i)
    have htl : (l.take i).length ≤ i := List.length_take_le _ _
    by_cases hlt : i < l.length
    · have hcell : IsInts .u64 wr a l := by rw [HW.out]; exact HI.out
      obtain ⟨b, off, rfl, e1⟩ := hcell.at hlt
      obtain ⟨x0, x1⟩ := HG.out _ (nth_mem l i hlt)
      have HS := Lib.hid (numsT_snoc l i hlt)
      generalize Pl.numsT (l.take i) = T at *
      clear hcell
      unfold Pl.dg at HS
      generalize nth l i = x at *
      have hdl := digs_len 20 x.toNat
      go_wp2_with fail
      refine (pdigits_any x _ x0 x1).mono ?_
      rintro e w' ⟨rfl, rfl⟩
      generalize Tx.digs 20 x.toNat = D at *
      go_wp2_with fail
      go_roundw
      case rel => exact ⟨i + 1, by omega, by go_num, vs (by rw [HS.out]; try simp), HW⟩
      case measure => simp [intOf]; omega
    · obtain rfl : i = l.length := by omega
      have HT := Lib.hid (List.take_length (l := l))
      have hnl2 := numsT_len l
      go_wp2_with fail
      go_ret
      exact ⟨ret_str (by unfold Pl.lineT; first | rfl | simp), HW.out.symm⟩

end Go.Proofs.YtcfbcffmlinlaaaDoor

namespace Go.Proofs.YtcfbcffmlinlaaaDoor
open Go.RowKit

/-- It gives up, and says why. -/
def Gave (e : Int) (x : Ending) : Prop := x = .panicked [{ v := .iface 28 (.int .i64 e), recovered := false }]

theorem give_ok (e : Int) (w : World) : Calls Tryd.prog 23 #[.bool true, .int .i64 e] w fun x w' => x = .returned (.tuple #[]) ∧ w = w' := by
  go_enter Tryd.func23, Tryd.ntmps23
  go_wp2
  go_end0
  exact ⟨rfl, rfl⟩

theorem give_no (e : Int) (w : World) : Calls Tryd.prog 23 #[.bool false, .int .i64 e] w fun x w' => Gave e x ∧ w = w' := by
  go_enter Tryd.func23, Tryd.ntmps23
  go_wp2
  unfold Gave
  exact ⟨rfl, rfl, rfl⟩

theorem fits_ok (x most : Int) (w : World) (h0 : 0 ≤ x) (h1 : x ≤ most) (hm : most ≤ 1000000) :
    Calls Tryd.prog 56 #[.int .u64 x, .int .i64 most] w fun e w' => e = .returned (.int .i64 x) ∧ w = w' := by
  have hd : decide (x ≤ most) = true := decide_eq_true h1
  have hm0 : 0 ≤ most := by omega
  go_enter Tryd.func56, Tryd.ntmps56
  go_wp2_with fail
  refine (give_ok 10 _).mono ?_
  rintro e w' ⟨rfl, rfl⟩
  go_wp2_with fail
  go_ret
  exact ⟨rfl, rfl⟩

theorem fits_no (x most : Int) (w : World) (h0 : 0 ≤ x) (h1 : most < x) (hx : x ≤ 18446744073709551615) (hm0 : 0 ≤ most) (hm : most ≤ 1000000) :
    Calls Tryd.prog 56 #[.int .u64 x, .int .i64 most] w fun e w' => Gave 10 e ∧ w = w' := by
  have hd : decide (x ≤ most) = false := decide_eq_false (by omega)
  go_enter Tryd.func56, Tryd.ntmps56
  go_wp2_with fail
  refine (give_no 10 _).mono ?_
  rintro e w' ⟨hg, rfl⟩
  unfold Gave at hg
  subst hg
  exact ⟨rfl, rfl, rfl⟩

end Go.Proofs.YtcfbcffmlinlaaaDoor

namespace Go.Proofs.YtcfbcffmlinlaaaDoor
open Go.RowKit

theorem bytes_ext (w : World) (e : TypeId) (s : ByteArray) : Ext w (Lib.bytesWorld w e s) :=
  ⟨rfl, rfl, rfl, by rw [Lib.bytesWorld_size]; omega, fun k hk => Lib.bytesWorld_at_old w e s k hk⟩

theorem drop_byte (l : List UInt8) (i : Nat) (h : i < l.length) : l.drop i = l.getD i 0 :: l.drop (i + 1) := by
  rw [List.drop_eq_getElem_cons h, List.getD_eq_getElem?_getD, List.getElem?_eq_getElem h]; rfl

/-- A number that is read, as Go has it. -/
def numV : Option Nat → Value
  | some v => .tuple #[.int .u64 v, .bool true]
  | none => .tuple #[.int .u64 0, .bool false]

set_option maxRecDepth 100000 in
set_option maxHeartbeats 2000000 in
theorem pnumber_any (l : List UInt8) (w : World) (hl : l.length ≤ 1000000) :
    Calls Tryd.prog 55 #[.string (St l)] w fun e w' => e = .returned (numV (Pl.numP l)) ∧ Ext w w' := by
  by_cases h0 : l = []
  · subst h0
    go_enter Tryd.func55, Tryd.ntmps55
    go_wp2_with fail
    go_ret2
    exact ⟨rfl, Ext.refl _⟩
  · obtain ⟨c, t, rfl⟩ : ∃ c t, l = c :: t := by
      cases l with
      | nil => exact absurd rfl h0
      | cons c t => exact ⟨c, t, rfl⟩
    have hl2 : t.length ≤ 1000000 := by simp at hl; omega
    by_cases hz : 0 < t.length ∧ c.toNat = 48
    · obtain ⟨hz1, hz2⟩ := hz
      have HN : Hid (Pl.numP (c :: t) = none) := Lib.hid (by
        unfold Pl.numP
        rw [if_pos (.inr ⟨by simp; omega, by
          show some c = some 48
          rw [show c = 48 from UInt8.toNat_inj.1 hz2]⟩)])
      have hb : ((c.toNat : Int) == 48) = true := beq_iff_eq.2 (by omega)
      have hd : decide ((0 : Int) < (t.length : Int)) = true := decide_eq_true (by omega)
      clear hz2
      go_enter Tryd.func55, Tryd.ntmps55
      go_wp2_with fail
      go_ret2
      exact ⟨by rw [HN.out]; rfl, Ext.refl _⟩
    · have HN : Hid (Pl.numP (c :: t) = Pl.numGo (c :: t) 0) := Lib.hid (by
        unfold Pl.numP
        rw [if_neg]
        rintro (h | ⟨h1, h2⟩)
        · cases h
        · have h2 : some c = some 48 := h2
          simp only [Option.some.injEq] at h2
          exact hz ⟨by simp at h1; omega, by rw [h2]; rfl⟩)
      have hcv := Lib.run_convert_string_bytes (P := Tryd.prog) w 9 43 5 (St (c :: t)) Tryd.underlying9 Tryd.underlying43 Tryd.underlying5
      have hcell := fun j (hj : j < (St (c :: t)).size) => Lib.bytesWorld_cell w 5 (St (c :: t)) j hj
      have hx := bytes_ext w 5 (St (c :: t))
      rw [St_size] at hcv
      have HCELL := Lib.hid hcell
      have HX := Lib.hid hx
      have HCV := Lib.hid hcv
      have hcases : t.length = 0 ∨ (0 < t.length ∧ c.toNat ≠ 48) := by omega
      clear hcell hx hcv hz
      go_enter Tryd.func55, Tryd.ntmps55
      generalize grownCap w (St (c :: t)).size 0 5 = cap at *
      have hcv := HCV.out
      generalize Lib.bytesWorld w 5 (St (c :: t)) = W1 at *
      rcases hcases with h1 | ⟨h1, h2⟩
      rotate_left
      have hb : ((c.toNat : Int) == 48) = false := beq_eq_false_iff_ne.2 (by omega)
      have hd : decide ((0 : Int) < (t.length : Int)) = true := decide_eq_true (by omega)
      have hdn : decide (0 < t.length) = true := decide_eq_true (by omega)
      rotate_left
      have hd : decide ((0 : Int) < (t.length : Int)) = false := decide_eq_false (by omega)
      have hdn : decide (0 < t.length) = false := decide_eq_false (by omega)
      have hnn : ¬ 0 < t.length := by omega
      have hni : ¬ (0 : Int) < (t.length : Int) := by omega
      have H1 := Lib.hid h1
      clear h1
      all_goals
        go_wp2_with fail
        clear hcv hd hdn
        try clear hnn hni
        have hll : (c :: t).length = t.length + 1 := by simp
        have HLL := Lib.hid hll; clear hll
        generalize hlg : c :: t = l at *
        have HLG := Lib.hid hlg; clear hlg
        go_loopw [4, 23] (fun u v wr => ∃ i x : Nat, i ≤ t.length + 1 ∧ v = .int .i64 (i : Int) ∧ u = .int .u64 (x : Int) ∧ (x : Int) ≤ 18446744073709551615 ∧ Hid (Pl.numGo l 0 = Pl.numGo (l.drop i) x) ∧ Hid (wr = W1)) (fun _ v _ => t.length + 1 - (intOf v).toNat)
        case atStart => exact ⟨0, 0, Nat.zero_le _, rfl, rfl, by omega, Lib.hid rfl, Lib.hid rfl⟩
        case round =>
          obtain ⟨i, x, hi, rfl, rfl, hx, HG, HW⟩ := hrel
          by_cases hlt : i < t.length + 1
          · have hc : wr.cell? ⟨w.heap.size, i, none⟩ = some (.int .u8 ((l.getD i 0).toNat : Int)) := by
              have := HCELL.out i (by rw [St_size, HLL.out]; exact hlt)
              rw [St_list] at this
              rw [HW.out]; exact this
            have HS : Hid (Pl.numGo (l.drop i) x = if Tx.isD (l.getD i 0) = true ∧ x * 10 + Tx.dv (l.getD i 0) ≤ 18446744073709551615 then Pl.numGo (l.drop (i + 1)) (x * 10 + Tx.dv (l.getD i 0)) else none) := Lib.hid (by rw [drop_byte l i (by rw [HLL.out]; exact hlt), Pl.numGo_cons])
            generalize l.getD i 0 = d at *
            unfold Tx.isD Tx.dv at HS
            have hdn := UInt8.toNat_lt d
            generalize d.toNat = n at *
            clear d
            by_cases hA : n < 48
            · have HS2 : Hid (Pl.numGo (l.drop i) x = none) := Lib.hid (by rw [HS.out, if_neg]; simp; omega)
              clear HS
              have hd1 : decide ((n : Int) < 48) = true := decide_eq_true (by omega)
              go_wp2_with fail
              go_ret2
              exact ⟨by rw [HLG.out, HN.out, HG.out, HS2.out]; rfl, by rw [HW.out]; exact HX.out⟩
            · by_cases hB : 57 < n
              · have HS2 : Hid (Pl.numGo (l.drop i) x = none) := Lib.hid (by rw [HS.out, if_neg]; simp; omega)
                clear HS
                have hd1 : decide ((n : Int) < 48) = false := decide_eq_false (by omega)
                have hd2 : decide ((57 : Int) < (n : Int)) = true := decide_eq_true (by omega)
                go_wp2_with fail
                go_ret2
                exact ⟨by rw [HLG.out, HN.out, HG.out, HS2.out]; rfl, by rw [HW.out]; exact HX.out⟩
              · have hd1 : decide ((n : Int) < 48) = false := decide_eq_false (by omega)
                have hd2 : decide ((57 : Int) < (n : Int)) = false := decide_eq_false (by omega)
                have hA1 : 48 ≤ n := by omega
                have hA2 : n ≤ 57 := by omega
                clear hA hB hdn
                go_wp2_with fail
                · have hC : (18446744073709551615 - ((n : Int) - 48)) / 10 < (x : Int) := by assumption
                  go_ret2
                  exact ⟨by rw [HLG.out, HN.out, HG.out, HS.out, if_neg (by simp; omega)]; rfl, by rw [HW.out]; exact HX.out⟩
                · have hC : (x : Int) ≤ (18446744073709551615 - ((n : Int) - 48)) / 10 := by assumption
                  go_roundw
                  case rel => exact ⟨i + 1, x * 10 + (n - 48), by omega, by go_num, by go_num, by omega, Lib.hid (by rw [HG.out, HS.out, if_pos (by simp; omega)]), HW⟩
                  case measure => simp [intOf]; omega
          · obtain rfl : i = t.length + 1 := by omega
            have HE : Hid (Pl.numGo (l.drop (t.length + 1)) x = some x) := Lib.hid (by rw [List.drop_of_length_le (by rw [HLL.out]; omega)]; rfl)
            go_wp2_with fail
            go_ret2
            exact ⟨by rw [HLG.out, HN.out, HG.out, HE.out]; rfl, by rw [HW.out]; exact HX.out⟩

end Go.Proofs.YtcfbcffmlinlaaaDoor

namespace Go.Proofs.YtcfbcffmlinlaaaDoor
open Go.RowKit

theorem Rd.then {w a b : World} {R : Nat} {l : List Int} {ba : Option Addr} {bc j0 j : Nat} (h0 : Rd w R l ba bc j0) (h : Rd a R l ba bc j) (k : Below w.heap.size a b) : Rd b R l ba bc j := by
  refine ⟨(k.block R h0.lt).trans h.here, ?_, h.le⟩
  by_cases hl : l = []
  · exact .inl hl
  · have hp : 0 < l.length := List.length_pos_iff.2 hl
    rcases h0.bytes with h1 | ⟨b', off, h1, h2, h3⟩
    · exact .inl h1
    · have hb : b' < w.heap.size := World.block_lt_of_cell? _ _ (h3 0 hp)
      rcases h.bytes with g1 | ⟨b2, off2, g1, g2, g3⟩
      · exact .inl g1
      · have : b' = b2 := by rw [h1] at g1; simp at g1; exact g1.1
        subst this
        exact .inr ⟨b', off2, g1, g2, fun i' hi => (k.cell (show b' < w.heap.size from hb)).trans (g3 i' hi)⟩

theorem Tryd.infoSpec : (Tryd.prog.info? 59).map (fun i => (i.zero, i.size, i.bytes)) = some (some (.agg #[.int .i64 0, .int .i64 0, .int .i64 0]), 3, 24) := by kernel_rfl
theorem spcCells_one (x : Spc) : ∀ u ∈ spcCells x, u.oneCell' = true := by
  intro u hu
  simp [spcCells] at hu
  rcases hu with rfl | rfl | rfl <;> rfl

/-- What head hands back. -/
def retHead (B : Nat) (x : Int × List Spc) (e : Ending) (w' : World) : Prop :=
  ∃ sa sc, e = .returned (.agg #[.int .i64 x.1, .slice sa x.2.length sc, .slice none 0 0, .slice none 0 0]) ∧ IsSpecs w' sa x.2 ∧ (∀ p, sa = some p → B ≤ p.block) ∧ 1 ≤ x.1 ∧ x.1 ≤ 16 ∧ x.2.length ≤ 8

set_option maxRecDepth 100000 in
set_option maxHeartbeats 1000000 in
theorem head_read (w : World) (R : Nat) (l : List Int) (ba : Option Addr) (bc j : Nat) (h : Rd w R l ba bc j) (hb : ∀ b ∈ l, byteOk b) (hl : l.length ≤ 9223372036854775807) :
    Calls Tryd.prog 35 #[.pointer (some ⟨R, 0, none⟩)] w (ReadPost w R l ba bc (pHead (l.drop j)) (retHead w.heap.size)) := by
  have HB := Lib.hid hb
  have H := Lib.hid h
  have hRw := h.lt
  go_enter Tryd.func35, Tryd.ntmps35
  go_wp2_with fail
  refine (byte_any _ R l ba bc j (h.alloc _) hb hl).mono ?_
  clear h hb
  rintro e w1 ⟨hk1, ⟨hn, p, r, rfl, hbad⟩ | ⟨n, j1, hs, rfl, hr1⟩⟩
  · refine ⟨rfl, (Keep.of_ext ((Ext.refl w).alloc _)).trans hk1, .inl ⟨?_, p, r, rfl, hbad⟩⟩
    unfold pHead; rw [hn]; rfl
  · obtain ⟨-, hjl, hnx, n0, n1⟩ := byte_next hs hr1.le HB.out
    have HNX := Lib.hid (And.intro hjl hnx); clear hjl hnx
    have hB0 := (Blk.new w #[Value.int .i64 0, .slice none 0 0, .slice none 0 0, .slice none 0 0] 26).keep hk1 (by omega)
    by_cases hnn : 1 ≤ n ∧ n ≤ 16
    · obtain ⟨n2, n3⟩ := hnn
      have HPH : Hid (pHead (l.drop j) = pHead2 n (pByte (l.drop j1))) := Lib.hid (by unfold pHead; rw [hs]; exact if_pos ⟨n2, n3⟩)
      go_wp2_with fail
      refine (insist_ok _ _ _).mono ?_
      rintro e w2 ⟨rfl, rfl⟩
      have hwz : w.heap.size + 1 ≤ w1.heap.size := by have := hk1.size; simpa using this
      have hBS := Blk.new w1 #[Value.int .i64 n, .slice none 0 0, .slice none 0 0, .slice none 0 0] 26
      have hB1 := hB0.alloc (.cells #[Value.int .i64 n, .slice none 0 0, .slice none 0 0, .slice none 0 0] 26)
      have hr2 := hr1.alloc (.cells #[Value.int .i64 n, .slice none 0 0, .slice none 0 0, .slice none 0 0] 26)
      have hk2 := ((Keep.of_ext (R := R) ((Ext.refl w).alloc (.cells #[Value.int .i64 0, .slice none 0 0, .slice none 0 0, .slice none 0 0] 26))).trans hk1).alloc (.cells #[Value.int .i64 n, .slice none 0 0, .slice none 0 0, .slice none 0 0] 26)
      go_wp2_with fail
      generalize w1.alloc (.cells #[Value.int .i64 n, .slice none 0 0, .slice none 0 0, .slice none 0 0] 26) = wA at *
      generalize w1.heap.size = S at *
      refine (byte_any _ R l ba bc j1 hr2 HB.out hl).mono ?_
      rintro e w3 ⟨hk3, ⟨hn, p, r, rfl, hbad⟩ | ⟨m, j2, hs2, rfl, hr3⟩⟩
      · refine ⟨rfl, hk2.trans hk3, .inl ⟨?_, p, r, rfl, hbad⟩⟩
        rw [HPH.out, hn]; rfl
      · obtain ⟨hj2, hjl2, hmx, m0, m1⟩ := byte_next hs2 hr3.le HB.out
        have HMX := Lib.hid (And.intro hjl2 hmx); clear hjl2 hmx
        have hBS3 := hBS.keep hk3 (by omega)
        have hB3 := hB1.keep hk3 (by omega)
        have hk4 := hk2.trans hk3
        have hle := hr3.le
        have g1 := hr3.c1
        have hlt3 := hr3.lt
        have hj2a : 1 ≤ j2 := by omega
        have HK4 := Lib.hid hk4
        clear hj2 hk1 hk2 hk3 hr1 hr2 hBS hB1 hB0 hs hk4
        by_cases hm : m ≤ 8
        · have HPH2 : Hid (pHead (l.drop j) = pHead3 n (pSpecs m.toNat (l.drop j2))) := Lib.hid (by rw [HPH.out, hs2]; exact if_pos hm)
          clear HPH hs2
          obtain ⟨M, rfl⟩ := Int.eq_ofNat_of_zero_le m0
          rw [Int.toNat_natCast] at HPH2
          go_wp2_with fail
          refine (insist_ok _ _ _).mono ?_
          rintro e w4 ⟨rfl, rfl⟩
          clear g1 hlt3 hle hj2a
          have HBS := Lib.hid hBS3; clear hBS3
          have HBT := Lib.hid hB3; clear hB3
          have HR3 := Lib.hid hr3; clear hr3
          go_wp2_with fail
          go_loopw [29] (fun k wr => ∃ (i q : Nat) (ss : List Spc) (v : Value), k = .int .i64 i ∧ i ≤ M ∧ Hid (ss.length = i) ∧ Hid (pSpecs M (l.drop j2) = pre ss (pSpecs (M - i) (l.drop q))) ∧ Keep R w wr ∧ Rd wr R l ba bc q ∧
            Blk wr w.heap.size #[Value.int .i64 0, .slice none 0 0, .slice none 0 0, .slice none 0 0] 26 ∧ Blk wr S #[Value.int .i64 n, v, .slice none 0 0, .slice none 0 0] 26 ∧
            wr.ownsRow (S + 1) 59 3 v i (ss.flatMap spcCells)) (fun k _ => M - (intOf k).toNat)
          case atStart => exact ⟨0, j2, [], .slice none 0 0, rfl, by omega, Lib.hid rfl, Lib.hid (by rw [pre_nil]; rfl), HK4.out, HR3.out, HBT.out, HBS.out, World.ownsRow_nil _ _ _ _⟩
          case round =>
            clear HBS HBT HR3 HK4
            obtain ⟨i, q, ss, v, rfl, hi, HL, HP, hk, hr, hbt, hbs, ho⟩ := hrel
            by_cases hlt : i < M
            · have HP2 : Hid (pSpecs M (l.drop j2) = match pSpec (l.drop q) with
                  | none => none
                  | some (s, r) => pre (ss ++ [s]) (pSpecs (M - (i + 1)) r)) := Lib.hid (by
                rw [HP.out, show M - i = (M - (i + 1)) + 1 by omega, pSpecs_step]
                cases pSpec (l.drop q) with
                | none => rfl
                | some x => obtain ⟨s, r⟩ := x; simp only; rw [pre_pre])
              have HO := Lib.hid ho; clear ho
              have hss : S < wr.heap.size := hbs.lt
              have HK := Lib.hid hk; clear hk
              go_wp2_with fail
              refine (byte_any _ R l ba bc q hr HB.out hl).mono ?_
              rintro e a1 ⟨hk1, ⟨hn, p, r, rfl, hbad⟩ | ⟨x1, q1, hs1, rfl, hr1⟩⟩
              · refine ⟨rfl, HK.out.trans hk1, .inl ⟨?_, p, r, rfl, hbad⟩⟩
                rw [HPH2.out, HP2.out, pSpec_byte, hn]; rfl
              · obtain ⟨-, -, -, x10, x11⟩ := byte_next hs1 hr1.le HB.out
                have hS1 := (hbs.keep hk1 (by omega)).alloc (.cells #[Value.int .i64 x1, .int .i64 0, .int .i64 0] 59)
                have hT1 := (hbt.keep hk1 (by omega)).alloc (.cells #[Value.int .i64 x1, .int .i64 0, .int .i64 0] 59)
                have hX1 := Blk.new a1 #[Value.int .i64 x1, .int .i64 0, .int .i64 0] 59
                have hK1 := (HK.out.trans hk1).alloc (.cells #[Value.int .i64 x1, .int .i64 0, .int .i64 0] 59)
                have hr1' := hr1.alloc (.cells #[Value.int .i64 x1, .int .i64 0, .int .i64 0] 59)
                have ho1 := own_ext (hk1.own HO.out (by omega)) ((Ext.refl a1).alloc (.cells #[Value.int .i64 x1, .int .i64 0, .int .i64 0] 59))
                have hTS : S < a1.heap.size := by have := hk1.size; omega
                have hvT : v.ownBlock ≠ some a1.heap.size := fun h => by have := ((hk1.own HO.out (by omega)).lt _ h).2; omega
                clear hr1 hk1 hbs hbt hr HO HK
                go_wp2_with fail
                generalize a1.alloc (.cells #[Value.int .i64 x1, .int .i64 0, .int .i64 0] 59) = b1 at *
                generalize a1.heap.size = T at *
                refine (two_read _ R l ba bc q1 hr1' HB.out hl).mono ?_
                rintro e a2 ⟨hk2, ⟨hn, p, r, rfl, hbad⟩ | ⟨x2, q2, hs2, rfl, hr2⟩⟩
                · refine ⟨rfl, hK1.trans hk2, .inl ⟨?_, p, r, rfl, hbad⟩⟩
                  rw [HPH2.out, HP2.out, pSpec_byte, hs1]; simp only; rw [hn]; rfl
                · have hS2 := (hS1.keep hk2 (by omega)).set_ne (b := T) (i := 1) (by omega) (.int .i64 x2)
                  have hT2 := (hT1.keep hk2 (by omega)).set_ne (b := T) (i := 1) (by omega) (.int .i64 x2)
                  have hX2' := hX1.keep hk2 (by omega)
                  have hX2 := hX2'.set 1 (.int .i64 x2)
                  have hK2 := (hK1.trans hk2).set (b := T) (i := 1) (by omega) (.int .i64 x2)
                  have hr2' := H.out.then hr2 (below_set _ a2 (b := T) (i := 1) (by omega) (.int .i64 x2))
                  have ho2 := own_set_ne (hk2.own ho1 (by omega)) hvT (i := 1) (.int .i64 x2)
                  have f1 := hX2'.cell 1 (v := .int .i64 0) rfl
                  have f2 := hX2'.fz 1
                  have f3 := hX2'.lt
                  clear hS1 hT1 hX1 hK1 hr1' ho1 hk2 hr2 hX2'
                  go_wp2_with fail
                  clear f1 f2 f3
                  generalize a2.setCell ⟨T, 1, none⟩ (.int .i64 x2) = b2 at *
                  have hS2 : Blk b2 S #[Value.int .i64 n, v, .slice none 0 0, .slice none 0 0] 26 := hS2
                  have hX2 : Blk b2 T #[Value.int .i64 x1, .int .i64 x2, .int .i64 0] 59 := hX2
                  refine (two_read _ R l ba bc q2 hr2' HB.out hl).mono ?_
                  rintro e a3 ⟨hk3, ⟨hn, p, r, rfl, hbad⟩ | ⟨x3, q3, hs3, rfl, hr3⟩⟩
                  · refine ⟨rfl, hK2.trans hk3, .inl ⟨?_, p, r, rfl, hbad⟩⟩
                    rw [HPH2.out, HP2.out, pSpec_byte, hs1]; simp only; rw [hs2]; simp only; rw [hn]; rfl
                  · have hS3 := (hS2.keep hk3 (by omega)).set_ne (b := T) (i := 2) (by omega) (.int .i64 x3)
                    have hT3 := (hT2.keep hk3 (by omega)).set_ne (b := T) (i := 2) (by omega) (.int .i64 x3)
                    have hX3' := hX2.keep hk3 (by omega)
                    have hX3 := hX3'.set 2 (.int .i64 x3)
                    have hK3 := (hK2.trans hk3).set (b := T) (i := 2) (by omega) (.int .i64 x3)
                    have hr3' := H.out.then hr3 (below_set _ a3 (b := T) (i := 2) (by omega) (.int .i64 x3))
                    have ho3 := own_set_ne (hk3.own ho2 (by omega)) hvT (i := 2) (.int .i64 x3)
                    have f1 := hX3'.cell 2 (v := .int .i64 0) rfl
                    have f2 := hX3'.fz 2
                    have f3 := hX3'.lt
                    have HPN : Hid (pSpecs M (l.drop j2) = pre (ss ++ [⟨x1, x2, x3⟩]) (pSpecs (M - (i + 1)) (l.drop q3))) := Lib.hid (by
                      rw [HP2.out, pSpec_byte, hs1]; simp only; rw [hs2]; simp only; rw [hs3])
                    clear hS2 hT2 hX2 hK2 hr2' ho2 hk3 hr3 hX3' hs1 hs2 hs3
                    go_upto_region 10 with (fail)
                    clear f1 f2 f3
                    generalize a3.setCell ⟨T, 2, none⟩ (.int .i64 x3) = b3 at *
                    have hX3 : Blk b3 T #[Value.int .i64 x1, .int .i64 x2, .int .i64 x3] 59 := hX3
                    have HO3 := Lib.hid ho3; clear ho3
                    have k0 := hX3.cell 0 (v := .int .i64 x1) rfl
                    have k1 := hX3.cell 1 (v := .int .i64 x2) rfl
                    have k2 := hX3.cell 2 (v := .int .i64 x3) rfl
                    have k3 := hX3.lt
                    have k4 := hS3.cell 1 (v := v) rfl
                    have k5 := hS3.lt
                    go_wp2_with (at_builtin; refine wpList_appS rfl (.tmp 41) (.tmp 43) 22 rfl (S + 1) 59 _ 3 24 Tryd.underlying22 Tryd.infoSpec rfl (by decide) v i (ss.flatMap spcCells) (spcCells ⟨x1, x2, x3⟩) b3.heap.size rfl (own_ext HO3.out ((Ext.refl _).alloc _)) rfl rfl ?_ (spcCells_one _) ?_ ?_ ?_ ?_; rotate_right; intro v' w' ho' hg' hbb'; obtain ⟨sa', cap', rfl, -⟩ := own_slice ho'; have hS4 := (hS3.alloc (.cells #[Value.int .i64 x1, .int .i64 x2, .int .i64 x3] 59)).below hbb' (by omega); have k6 := hS4.cell 1 (v := v) rfl; have k7 := hS4.fz 1; have k8 := hS4.lt)
                    rotate_left
                    · intro j' hj'
                      rw [World.cell?_alloc_at _ _ _ _ rfl]
                      rcases (show j' = 0 ∨ j' = 1 ∨ j' = 2 by omega) with rfl | rfl | rfl <;> rfl
                    · unfold maxLen; omega
                    · omega
                    · simp; omega
                    go_roundw
                    case rel =>
                      refine ⟨i + 1, q3, ss ++ [⟨x1, x2, x3⟩], .slice sa' (i + 1) cap', by go_num, by omega, Lib.hid (by rw [List.length_append, HL.out]; rfl), HPN, ?_, ?_, ?_, ?_, ?_⟩
                      · exact ((hK3.alloc _).then_below (Below.mono hbb' (by omega))).set (by omega) _
                      · exact H.out.then hr3' ((((Ext.refl b3).alloc _).mono (by have := hT3.lt; omega)).trans ((Below.mono hbb' (by omega)).trans (below_set _ _ (by omega) _)))
                      · exact ((hT3.alloc _).below hbb' (by omega)).set_ne (by omega) _
                      · exact hS4.set 1 _
                      · rw [List.flatMap_append]; exact own_set (by simpa using ho') (by omega) _
                    case measure => simp [intOf]; omega
            · have hiM : i = M := by omega
              subst hiM
              have HF : Hid (pHead (l.drop j) = some ((n, ss), l.drop q)) := Lib.hid (by rw [HPH2.out, HP.out, Nat.sub_self]; simp [pSpecs, pre, pHead3])
              obtain ⟨a, cap, rfl, hln, _, hseq, hblk, _⟩ := IsSeq.own (d := spc0) spcCells_len (by decide) ho
              have k0 := hbs.cell 0 (v := .int .i64 n) rfl
              have k1 := hbs.cell 1 (v := .slice a i cap) rfl
              have k2 := hbs.cell 2 (v := .slice none 0 0) rfl
              have k3 := hbs.cell 3 (v := .slice none 0 0) rfl
              have k4 := hbs.lt
              have t0 := hbt.cell 0 (v := .int .i64 0) rfl
              have t1 := hbt.cell 1 (v := .slice none 0 0) rfl
              have t2 := hbt.cell 2 (v := .slice none 0 0) rfl
              have t3 := hbt.cell 3 (v := .slice none 0 0) rfl
              have z0 := hbt.fz 0
              have z1 := hbt.fz 1
              have z2 := hbt.fz 2
              have z3 := hbt.fz 3
              have t4 := hbt.lt
              go_wp2_with fail
              have hbF : Blk ((((wr.setCell ⟨w.heap.size, 0, none⟩ (.int .i64 n)).setCell ⟨w.heap.size, 1, none⟩ (.slice a ss.length cap)).setCell ⟨w.heap.size, 2, none⟩ (.slice none 0 0)).setCell ⟨w.heap.size, 3, none⟩ (.slice none 0 0)) w.heap.size #[Value.int .i64 n, .slice a ss.length cap, .slice none 0 0, .slice none 0 0] 26 :=
                (((hbt.set 0 (.int .i64 n)).set 1 (.slice a ss.length cap)).set 2 (.slice none 0 0)).set 3 (.slice none 0 0)
              have hbel : Below w.heap.size wr ((((wr.setCell ⟨w.heap.size, 0, none⟩ (.int .i64 n)).setCell ⟨w.heap.size, 1, none⟩ (.slice a ss.length cap)).setCell ⟨w.heap.size, 2, none⟩ (.slice none 0 0)).setCell ⟨w.heap.size, 3, none⟩ (.slice none 0 0)) :=
                (((below_set _ _ (Nat.le_refl _) _).trans (below_set _ _ (Nat.le_refl _) _)).trans (below_set _ _ (Nat.le_refl _) _)).trans (below_set _ _ (Nat.le_refl _) _)
              have hsF : IsSeq spc0 3 spcCells ((((wr.setCell ⟨w.heap.size, 0, none⟩ (.int .i64 n)).setCell ⟨w.heap.size, 1, none⟩ (.slice a ss.length cap)).setCell ⟨w.heap.size, 2, none⟩ (.slice none 0 0)).setCell ⟨w.heap.size, 3, none⟩ (.slice none 0 0)) a ss := by
                have hne : ∀ x, a = some x → x.block ≠ w.heap.size := fun x hx => by have := hblk x hx; omega
                exact (((hseq.keep (keep_set _ 0 _ _) hne).keep (keep_set _ 1 _ _) hne).keep (keep_set _ 2 _ _) hne).keep (keep_set _ 3 _ _) hne
              generalize ((((wr.setCell ⟨w.heap.size, 0, none⟩ (.int .i64 n)).setCell ⟨w.heap.size, 1, none⟩ (.slice a ss.length cap)).setCell ⟨w.heap.size, 2, none⟩ (.slice none 0 0)).setCell ⟨w.heap.size, 3, none⟩ (.slice none 0 0)) = wf at hbF hbel hsF ⊢
              have u0 := hbF.cell 0 (v := .int .i64 n) rfl
              have u1 := hbF.cell 1 (v := .slice a ss.length cap) rfl
              have u2 := hbF.cell 2 (v := .slice none 0 0) rfl
              have u3 := hbF.cell 3 (v := .slice none 0 0) rfl
              refine bodyPost_ret (v := .agg #[.int .i64 n, .slice a ss.length cap, .slice none 0 0, .slice none 0 0]) (by simp [results, Tryd.results35, go_sem, u0, u1, u2, u3]) rfl ?_
              exact ⟨hk.then_below hbel, .inr ⟨(n, ss), q, HF.out, ⟨a, cap, rfl, hsF, fun x hx => by have := hblk x hx; omega, n2, n3, (show ss.length ≤ 8 by omega)⟩, H.out.then hr hbel⟩⟩
        · have d1 : decide (m ≤ 8) = false := decide_eq_false (by omega)
          go_wp2_with fail
          refine (insist_no _ _ _).mono ?_
          rintro e w4 ⟨rfl, rfl⟩
          refine ⟨rfl, HK4.out, .inl ⟨?_, Bad.mk l _ _ (by omega) (by omega) (by decide) (fun h => by have := HMX.out.2; rw [eleven h HMX.out.1] at this; omega)⟩⟩
          rw [HPH.out, hs2]; exact if_neg (by omega)
    · rcases (show n < 1 ∨ (1 ≤ n ∧ 16 < n) by omega) with hz | ⟨hz, hz2⟩
      · have d1 : decide (1 ≤ n) = false := decide_eq_false (by omega)
        go_wp2_with fail
        refine (insist_no _ _ _).mono ?_
        rintro e w4 ⟨rfl, rfl⟩
        refine ⟨rfl, ((Keep.of_ext ((Ext.refl w).alloc _)).trans hk1).alloc _, .inl ⟨?_, Bad.mk l _ _ (by omega) (by omega) (by decide) (fun h => by have := HNX.out.2; rw [eleven h HNX.out.1] at this; omega)⟩⟩
        unfold pHead; rw [hs]; exact if_neg hnn
      · have d2 : decide (n ≤ 16) = false := decide_eq_false (by omega)
        go_wp2_with fail
        refine (insist_no _ _ _).mono ?_
        rintro e w4 ⟨rfl, rfl⟩
        refine ⟨rfl, ((Keep.of_ext ((Ext.refl w).alloc _)).trans hk1).alloc _, .inl ⟨?_, Bad.mk l _ _ (by omega) (by omega) (by decide) (fun h => by have := HNX.out.2; rw [eleven h HNX.out.1] at this; omega)⟩⟩
        unfold pHead; rw [hs]; exact if_neg hnn

end Go.Proofs.YtcfbcffmlinlaaaDoor

namespace Go.Proofs.YtcfbcffmlinlaaaDoor
open Go.RowKit

theorem Tryd.infoCall : (Tryd.prog.info? 49).map (fun i => (i.zero, i.size, i.bytes)) = some (some (.agg #[.int .i64 0, .int .i64 0, .int .i64 0, .int .u64 0, .int .u64 0, .int .u64 0]), 6, 48) := by kernel_rfl
theorem cllCells_one (x : Cll) : ∀ u ∈ cllCells x, u.oneCell' = true := by
  intro u hu
  simp [cllCells] at hu
  rcases hu with rfl | rfl | rfl | rfl | rfl | rfl <;> rfl

/-- What calls hands back. -/
def retCalls (B : Nat) (x : List Cll) (e : Ending) (w' : World) : Prop :=
  ∃ ca cc, e = .returned (.slice ca x.length cc) ∧ IsCalls w' ca x ∧ (∀ p, ca = some p → B ≤ p.block) ∧ x.length ≤ 1000

set_option maxRecDepth 100000 in
set_option maxHeartbeats 2000000 in
theorem calls_read (n : Int) (w : World) (R : Nat) (l : List Int) (ba : Option Addr) (bc j : Nat) (h : Rd w R l ba bc j) (hb : ∀ b ∈ l, byteOk b) (hl : l.length ≤ 9223372036854775807) (h11 : l ≠ [1, 1]) :
    Calls Tryd.prog 36 #[.pointer (some ⟨R, 0, none⟩), .int .i64 n] w (ReadPost w R l ba bc (pAllCalls n (l.drop j)) (retCalls w.heap.size)) := by
  have HB := Lib.hid hb
  have H := Lib.hid h
  have hRw := h.lt
  have g1 := h.c1
  have hjl := h.le
  go_enter Tryd.func36, Tryd.ntmps36
  go_wp2_with fail
  refine (two_read _ R l ba bc j h hb hl).mono ?_
  clear h hb g1
  rintro e w1 ⟨hk1, ⟨hn, p, r, rfl, hbad⟩ | ⟨m, j1, hs, rfl, hr1⟩⟩
  · refine ⟨rfl, hk1, .inl ⟨?_, p, r, rfl, hbad⟩⟩
    rw [pAllCalls_thn, hn]; rfl
  · obtain ⟨m0, m1⟩ := two_bounds hs HB.out
    by_cases hm : m ≤ 1000
    · have HPA : Hid (pAllCalls n (l.drop j) = pCalls n m.toNat (l.drop j1)) := Lib.hid (by rw [pAllCalls_thn, hs, thn_some, if_pos hm])
      have HR1 := Lib.hid hr1
      have HK1 := Lib.hid hk1
      clear hs hr1 hk1
      obtain ⟨M, rfl⟩ := Int.eq_ofNat_of_zero_le m0
      rw [Int.toNat_natCast] at HPA
      go_wp2_with fail
      refine (insist_ok _ _ _).mono ?_
      rintro e w4 ⟨rfl, rfl⟩
      go_wp2_with fail
      go_loopw [7, 20] (fun v k wr => ∃ (i q : Nat) (cs : List Cll), k = .int .i64 i ∧ i ≤ M ∧ Hid (cs.length = i) ∧ Hid (pAllCalls n (l.drop j) = pre cs (pCalls n (M - i) (l.drop q))) ∧ Keep R w wr ∧ Rd wr R l ba bc q ∧
        wr.ownsRow w.heap.size 49 6 v i (cs.flatMap cllCells)) (fun _ k _ => M - (intOf k).toNat)
      case atStart => exact ⟨0, j1, [], rfl, by omega, Lib.hid rfl, Lib.hid (by rw [pre_nil]; exact HPA.out), HK1.out, HR1.out, World.ownsRow_nil _ _ _ _⟩
      case round =>
        clear HR1 HK1
        obtain ⟨i, q, cs, rfl, hi, HL, HP, hk, hr, ho⟩ := hrel
        obtain ⟨va, vc, rfl, -⟩ := own_slice ho
        by_cases hlt : i < M
        · have HP2 : Hid (pAllCalls n (l.drop j) = thn (pCall n (l.drop q)) fun s r => pre (cs ++ [s]) (pCalls n (M - (i + 1)) r)) := Lib.hid (by
            rw [HP.out, show M - i = (M - (i + 1)) + 1 by omega, pCalls_thn]
            cases pCall n (l.drop q) with
            | none => rfl
            | some x => obtain ⟨s, r⟩ := x; simp only [thn_some]; rw [pre_pre])
          clear HPA HP
          have HO := Lib.hid ho; clear ho
          have HK := Lib.hid hk; clear hk
          go_wp2_with fail
          refine (byte_any _ R l ba bc q hr HB.out hl).mono ?_
          rintro e a1 ⟨hk1, ⟨hn, p, r, rfl, hbad⟩ | ⟨x1, q1, hs1, rfl, hr1⟩⟩
          · refine ⟨rfl, HK.out.trans hk1, .inl ⟨?_, p, r, rfl, hbad⟩⟩
            rw [HP2.out, pCall_thn, hn]; rfl
          · obtain ⟨hq1, -, -, x10, x11⟩ := byte_next hs1 hr1.le HB.out
            have HS1 := Lib.hid hs1; clear hs1
            have hX1 := Blk.new a1 #[.int .i64 x1, .int .i64 0, .int .i64 0, .int .u64 0, .int .u64 0, .int .u64 0] 49
            have hK1 := (HK.out.trans hk1).alloc (.cells #[.int .i64 x1, .int .i64 0, .int .i64 0, .int .u64 0, .int .u64 0, .int .u64 0] 49)
            have hr1' := hr1.alloc (.cells #[.int .i64 x1, .int .i64 0, .int .i64 0, .int .u64 0, .int .u64 0, .int .u64 0] 49)
            have ho1 := own_ext (hk1.own HO.out (by omega)) ((Ext.refl a1).alloc (.cells #[.int .i64 x1, .int .i64 0, .int .i64 0, .int .u64 0, .int .u64 0, .int .u64 0] 49))
            have hvT : Hid (∀ k, Value.slice va i vc = k → k.ownBlock ≠ some a1.heap.size) := Lib.hid fun k hk h => by subst hk; have := ((hk1.own HO.out (by omega)).lt _ h).2; omega
            have hTS : w.heap.size ≤ a1.heap.size := (HK.out.trans hk1).size
            have hq1a : 1 ≤ q1 := by omega
            have hq1b := hr1.le
            clear hr1 hk1 hr HO HK hq1
            go_upto_region 8 with (fail)
            generalize a1.alloc (.cells #[.int .i64 x1, .int .i64 0, .int .i64 0, .int .u64 0, .int .u64 0, .int .u64 0] 49) = b0 at *
            generalize a1.heap.size = T at *
            have g1 := hr1'.c1
            have hlt1 := hr1'.lt
            have g2 := hX1.cell 0 (v := .int .i64 x1) rfl
            have g3 := hX1.lt
            by_cases ht : x1 < n
            · have dt : decide (x1 < n) = true := decide_eq_true ht
              go_quiet (refine Calls.quiet_of_same (insist_ok _ _ _))
              clear g1 g2 g3 hlt1
              have hX1 : Blk (b0.drewN nq) T #[.int .i64 x1, .int .i64 0, .int .i64 0, .int .u64 0, .int .u64 0, .int .u64 0] 49 := hX1
              have hK1 := hK1.drewN nq
              have hr1' := hr1'.drewN nq
              have ho1 := own_drewN ho1 nq
              generalize b0.drewN nq = b1 at *
              have HS1' : Hid (pCall n (l.drop q) = thn (pByte (l.drop q1)) fun o l => thn (pByte l) fun k l => thn (pNum 0 1 0 l) fun a l => thn (pNum 0 1 0 l) fun b l => thn (pNum 0 1 0 l) fun c l => some (⟨x1, o, k, a, b, c⟩, l)) := Lib.hid (by
                rw [pCall_thn, HS1.out, thn_some, if_pos ht])
              clear HS1
              go_wp2_with fail
              refine (byte_any _ R l ba bc q1 hr1' HB.out hl).mono ?_
              rintro e a2 ⟨hk2, ⟨hn, p, r, rfl, hbad⟩ | ⟨x2, q2, hs2, rfl, hr2⟩⟩
              · refine ⟨rfl, hK1.trans hk2, .inl ⟨?_, p, r, rfl, hbad⟩⟩
                rw [HP2.out, HS1'.out, hn]; rfl
              · have HS2' := Lib.hid (HS1'.out.trans (by rw [hs2, thn_some]))
                clear HS1' hs2
                have hX2' := hX1.keep hk2 (by omega)
                have hX2 := hX2'.set 1 (.int .i64 x2)
                have hK2 := (hK1.trans hk2).set (b := T) (i := 1) (by omega) (.int .i64 x2)
                have hr2' := H.out.then hr2 (below_set _ a2 (b := T) (i := 1) (by omega) (.int .i64 x2))
                have ho2 := own_set_ne (hk2.own ho1 (by omega)) (hvT.out _ rfl) (i := 1) (.int .i64 x2)
                have f1 := hX2'.cell 1 (v := .int .i64 0) rfl
                have f2 := hX2'.fz 1
                have f3 := hX2'.lt
                clear hX1 hK1 hr1' ho1 hk2 hr2 hX2'
                go_upto_region 10 with (fail)
                clear f1 f2 f3
                generalize a2.setCell ⟨T, 1, none⟩ (.int .i64 x2) = b2 at *
                have hX2 : Blk b2 T #[.int .i64 x1, .int .i64 x2, .int .i64 0, .int .u64 0, .int .u64 0, .int .u64 0] 49 := hX2
                go_wp2_with fail
                refine (byte_any _ R l ba bc q2 hr2' HB.out hl).mono ?_
                rintro e a3 ⟨hk3, ⟨hn, p, r, rfl, hbad⟩ | ⟨x3, q3, hs3, rfl, hr3⟩⟩
                · refine ⟨rfl, hK2.trans hk3, .inl ⟨?_, p, r, rfl, hbad⟩⟩
                  rw [HP2.out, HS2'.out, hn]; rfl
                · have HS3' := Lib.hid (HS2'.out.trans (by rw [hs3, thn_some]))
                  clear HS2' hs3
                  have hX3' := hX2.keep hk3 (by omega)
                  have hX3 := hX3'.set 2 (.int .i64 x3)
                  have hK3 := (hK2.trans hk3).set (b := T) (i := 2) (by omega) (.int .i64 x3)
                  have hr3' := H.out.then hr3 (below_set _ a3 (b := T) (i := 2) (by omega) (.int .i64 x3))
                  have ho3 := own_set_ne (hk3.own ho2 (by omega)) (hvT.out _ rfl) (i := 2) (.int .i64 x3)
                  have f1 := hX3'.cell 2 (v := .int .i64 0) rfl
                  have f2 := hX3'.fz 2
                  have f3 := hX3'.lt
                  clear hX2 hK2 hr2' ho2 hk3 hr3 hX3'
                  go_upto_region 11 with (fail)
                  clear f1 f2 f3
                  generalize a3.setCell ⟨T, 2, none⟩ (.int .i64 x3) = b3 at *
                  have hX3 : Blk b3 T #[.int .i64 x1, .int .i64 x2, .int .i64 x3, .int .u64 0, .int .u64 0, .int .u64 0] 49 := hX3
                  go_wp2_with fail
                  refine (number_read _ R l ba bc q3 hr3' HB.out hl h11).mono ?_
                  rintro e a4 ⟨hk4, ⟨hn, p, r, rfl, hbad⟩ | ⟨x4, q4, hs4, rfl, hr4⟩⟩
                  · refine ⟨rfl, hK3.trans hk4, .inl ⟨?_, p, r, rfl, hbad⟩⟩
                    rw [HP2.out, HS3'.out, hn]; rfl
                  · have HS4' := Lib.hid (HS3'.out.trans (by rw [hs4, thn_some]))
                    clear HS3' hs4
                    have hX4' := hX3.keep hk4 (by omega)
                    have hX4 := hX4'.set 3 (.int .u64 x4)
                    have hK4 := (hK3.trans hk4).set (b := T) (i := 3) (by omega) (.int .u64 x4)
                    have hr4' := H.out.then hr4 (below_set _ a4 (b := T) (i := 3) (by omega) (.int .u64 x4))
                    have ho4 := own_set_ne (hk4.own ho3 (by omega)) (hvT.out _ rfl) (i := 3) (.int .u64 x4)
                    have f1 := hX4'.cell 3 (v := .int .u64 0) rfl
                    have f2 := hX4'.fz 3
                    have f3 := hX4'.lt
                    clear hX3 hK3 hr3' ho3 hk4 hr4 hX4'
                    go_upto_region 12 with (fail)
                    clear f1 f2 f3
                    generalize a4.setCell ⟨T, 3, none⟩ (.int .u64 x4) = b4 at *
                    have hX4 : Blk b4 T #[.int .i64 x1, .int .i64 x2, .int .i64 x3, .int .u64 x4, .int .u64 0, .int .u64 0] 49 := hX4
                    go_wp2_with fail
                    refine (number_read _ R l ba bc q4 hr4' HB.out hl h11).mono ?_
                    rintro e a5 ⟨hk5, ⟨hn, p, r, rfl, hbad⟩ | ⟨x5, q5, hs5, rfl, hr5⟩⟩
                    · refine ⟨rfl, hK4.trans hk5, .inl ⟨?_, p, r, rfl, hbad⟩⟩
                      rw [HP2.out, HS4'.out, hn]; rfl
                    · have HS5' := Lib.hid (HS4'.out.trans (by rw [hs5, thn_some]))
                      clear HS4' hs5
                      have hX5' := hX4.keep hk5 (by omega)
                      have hX5 := hX5'.set 4 (.int .u64 x5)
                      have hK5 := (hK4.trans hk5).set (b := T) (i := 4) (by omega) (.int .u64 x5)
                      have hr5' := H.out.then hr5 (below_set _ a5 (b := T) (i := 4) (by omega) (.int .u64 x5))
                      have ho5 := own_set_ne (hk5.own ho4 (by omega)) (hvT.out _ rfl) (i := 4) (.int .u64 x5)
                      have f1 := hX5'.cell 4 (v := .int .u64 0) rfl
                      have f2 := hX5'.fz 4
                      have f3 := hX5'.lt
                      clear hX4 hK4 hr4' ho4 hk5 hr5 hX5'
                      go_upto_region 13 with (fail)
                      clear f1 f2 f3
                      generalize a5.setCell ⟨T, 4, none⟩ (.int .u64 x5) = b5 at *
                      have hX5 : Blk b5 T #[.int .i64 x1, .int .i64 x2, .int .i64 x3, .int .u64 x4, .int .u64 x5, .int .u64 0] 49 := hX5
                      go_wp2_with fail
                      refine (number_read _ R l ba bc q5 hr5' HB.out hl h11).mono ?_
                      rintro e a6 ⟨hk6, ⟨hn, p, r, rfl, hbad⟩ | ⟨x6, q6, hs6, rfl, hr6⟩⟩
                      · refine ⟨rfl, hK5.trans hk6, .inl ⟨?_, p, r, rfl, hbad⟩⟩
                        rw [HP2.out, HS5'.out, hn]; rfl
                      · have HS6' := Lib.hid (HS5'.out.trans (by rw [hs6, thn_some]))
                        clear HS5' hs6
                        have hX6' := hX5.keep hk6 (by omega)
                        have hX6 := hX6'.set 5 (.int .u64 x6)
                        have hK6 := (hK5.trans hk6).set (b := T) (i := 5) (by omega) (.int .u64 x6)
                        have hr6' := H.out.then hr6 (below_set _ a6 (b := T) (i := 5) (by omega) (.int .u64 x6))
                        have ho6 := own_set_ne (hk6.own ho5 (by omega)) (hvT.out _ rfl) (i := 5) (.int .u64 x6)
                        have f1 := hX6'.cell 5 (v := .int .u64 0) rfl
                        have f2 := hX6'.fz 5
                        have f3 := hX6'.lt
                        clear hX5 hK5 hr5' ho5 hk6 hr6 hX6'
                        go_upto_region 14 with (fail)
                        clear f1 f2 f3
                        generalize a6.setCell ⟨T, 5, none⟩ (.int .u64 x6) = b6 at *
                        have hX6 : Blk b6 T #[.int .i64 x1, .int .i64 x2, .int .i64 x3, .int .u64 x4, .int .u64 x5, .int .u64 x6] 49 := hX6
                        have HPN : Hid (pAllCalls n (l.drop j) = pre (cs ++ [⟨x1, x2, x3, x4, x5, x6⟩]) (pCalls n (M - (i + 1)) (l.drop q6))) := Lib.hid (by rw [HP2.out, HS6'.out, thn_some])
                        have k0 := hX6.cell 0 (v := .int .i64 x1) rfl
                        have k1 := hX6.cell 1 (v := .int .i64 x2) rfl
                        have k2 := hX6.cell 2 (v := .int .i64 x3) rfl
                        have k3 := hX6.cell 3 (v := .int .u64 x4) rfl
                        have k4 := hX6.cell 4 (v := .int .u64 x5) rfl
                        have k5 := hX6.cell 5 (v := .int .u64 x6) rfl
                        have k6 := hX6.lt
                        have HO6 := Lib.hid ho6; clear ho6
                        go_wp2_with (at_builtin; refine wpList_appS rfl (.tmp 50) (.tmp 52) 23 rfl w.heap.size 49 _ 6 48 Tryd.underlying23 Tryd.infoCall rfl (by decide) _ i (cs.flatMap cllCells) (cllCells ⟨x1, x2, x3, x4, x5, x6⟩) b6.heap.size rfl (own_ext HO6.out ((Ext.refl _).alloc _)) rfl rfl ?_ (cllCells_one _) ?_ ?_ ?_ ?_; rotate_right; intro v' w' ho' hg' hbb'; obtain ⟨sa', cap', rfl, -⟩ := own_slice ho')
                        rotate_left
                        · intro j' hj'
                          rw [World.cell?_alloc_at _ _ _ _ rfl]
                          rcases (show j' = 0 ∨ j' = 1 ∨ j' = 2 ∨ j' = 3 ∨ j' = 4 ∨ j' = 5 by omega) with rfl | rfl | rfl | rfl | rfl | rfl <;> rfl
                        · unfold maxLen; omega
                        · omega
                        · have := hK6.size; simp; omega
                        go_roundw
                        case rel =>
                          refine ⟨i + 1, q6, cs ++ [⟨x1, x2, x3, x4, x5, x6⟩], by go_num, by omega, Lib.hid (by rw [List.length_append, HL.out]; rfl), HPN, ?_, ?_, ?_⟩
                          · exact (hK6.alloc _).then_below hbb'
                          · exact H.out.then hr6' (((Ext.refl b6).alloc _).mono hK6.size |>.trans hbb')
                          · rw [List.flatMap_append]; simpa using ho'
                        case measure => simp [intOf]; omega
            · have dt : decide (x1 < n) = false := decide_eq_false (by omega)
              go_still_tail 9, (by kernel_rfl)
              change wpList _ _ _ _ _ (b0.drewN 1)
              have HK := Lib.hid (hK1.drewN 1)
              generalize b0.drewN 1 = b1 at *
              go_wp2_with fail
              refine (insist_no _ _ _).mono ?_
              rintro e w' ⟨rfl, rfl⟩
              refine ⟨rfl, HK.out, .inl ⟨?_, Bad.mk l _ _ (by omega) (by omega) (by decide) (fun h => absurd h h11)⟩⟩
              rw [HP2.out, pCall_thn, HS1.out, thn_some, if_neg (by omega)]; rfl
        · have hiM : i = M := by omega
          subst hiM
          have HF : Hid (pAllCalls n (l.drop j) = some (cs, l.drop q)) := Lib.hid (by rw [HP.out, Nat.sub_self]; simp [pCalls, pre])
          obtain ⟨a, cap, hv, hln, _, hseq, hblk, _⟩ := IsSeq.own (d := cll0) cllCells_len (by decide) ho
          have hln2 : cs.length ≤ 1000 := by omega
          obtain ⟨rfl, rfl⟩ : va = a ∧ vc = cap := by simpa using hv
          have HLN := Lib.hid hln; clear hln hv
          go_wp2
          go_ret
          exact ⟨hk, .inr ⟨cs, q, HF.out, ⟨va, vc, by rw [← HLN.out]; rfl, hseq, hblk, hln2⟩, hr⟩⟩
    · have d1 : decide (m ≤ 1000) = false := decide_eq_false (by omega)
      go_wp2_with fail
      refine (insist_no _ _ _).mono ?_
      rintro e w4 ⟨rfl, rfl⟩
      refine ⟨rfl, hk1, .inl ⟨?_, Bad.mk l _ _ (by omega) (by omega) (by decide) (fun h => absurd h h11)⟩⟩
      rw [pAllCalls_thn, hs, thn_some, if_neg (by omega)]

end Go.Proofs.YtcfbcffmlinlaaaDoor
