/-
  The law's three: a script of three picks.
-/
import Derived.Test.YtmnkkmgfkodmhaaScrDec
import Derived.Test.YtmnkkmgfkodmhaaScrEnc
import Derived.Laws.BytesArg
namespace Go.Proofs.Ytmnkkmgfkodmhaa
open Go.RowKit

theorem str_run (w : World) (a : Option Addr) (cap : Nat) (l : List Int) (h : IsInts .u8 w a l) : (convert 28 9 (.slice a l.length cap)).run Try.prog w = .ok (.string (strOfNums l)) w := by
  by_cases hl : l = []
  · subst hl
    rw [run_convert_bytes_string w 28 9 5 a _ cap Try.underlying28 Try.underlying5 Try.underlying9]
    cases a with
    | none => simp [Conv.bytesToString]; rfl
    | some x => exact (run_bytesToString w x 0 cap [] (by simpa using run_loadCells_list (P := Try.prog) w x [] (fun j v hj => by simp at hj))).trans rfl
  · rcases h with h | ⟨b, off, rfl, hc⟩
    · exact absurd h hl
    · exact run_convert_bytes_arg w 28 5 Try.underlying28 Try.underlying5 b off l.length cap l rfl hc 9 Try.underlying9

def scr3 : Scr := ⟨1, [⟨1, 0, 0⟩], [], [0, 0, 0]⟩
theorem scr3_enc : encS scr3 = [1, 1, 1, 0, 0, 0, 0, 0, 0, 0, 3] := by decide
theorem scr3_err : errF scr3 = 0 := by decide
theorem scr3_ok : scr3.ok := (errF_zero _).1 scr3_err
theorem scr3_wide : scr3.wide := by intro c hc; cases hc
theorem scr3_dec : pS [1, 1, 1, 0, 0, 0, 0, 0, 0, 0, 3] = some scr3 := by rw [← scr3_enc]; exact pS_enc scr3 scr3_ok scr3_wide
theorem eleven_dec : pS [1, 1] = none := by decide
theorem scr3_bytes : ∀ b ∈ [(1 : Int), 1, 1, 0, 0, 0, 0, 0, 0, 0, 3], byteOk b := by
  intro b hb; simp at hb; unfold byteOk; omega
theorem eleven_bytes : ∀ b ∈ [(1 : Int), 1], byteOk b := by
  intro b hb; simp at hb; unfold byteOk; omega

set_option maxRecDepth 100000 in
set_option maxHeartbeats 1000000 in
theorem three_any (w : World) : Calls Try.prog 5 #[] w fun e w' => e = .returned (.bool true) ∧ Ext w w' := by
  go_enter Try.func5, Try.ntmps5
  go_wp2_with fail
  have hb1 := ((Blk.new w #[Value.int .i64 1, .int .i64 0, .int .i64 0] 42).alloc (.cells #[Value.int .i64 0, .int .i64 0, .int .i64 0] 3)).alloc (.cells #[Value.int .i64 1, .slice (some ⟨w.heap.size, 0, none⟩) 1 1, .slice none 0 0, .slice (some ⟨w.heap.size + 1, 0, none⟩) 3 3] 26)
  have hb2 := (Blk.new (w.alloc (.cells #[Value.int .i64 1, .int .i64 0, .int .i64 0] 42)) #[Value.int .i64 0, .int .i64 0, .int .i64 0] 3).alloc (.cells #[Value.int .i64 1, .slice (some ⟨w.heap.size, 0, none⟩) 1 1, .slice none 0 0, .slice (some ⟨w.heap.size + 1, 0, none⟩) 3 3] 26)
  have hx0 := ((((Ext.refl w).alloc (.cells #[Value.int .i64 1, .int .i64 0, .int .i64 0] 42)).alloc (.cells #[Value.int .i64 0, .int .i64 0, .int .i64 0] 3)).alloc (.cells #[Value.int .i64 1, .slice (some ⟨w.heap.size, 0, none⟩) 1 1, .slice none 0 0, .slice (some ⟨w.heap.size + 1, 0, none⟩) 3 3] 26))
  simp only [World.size_alloc] at hb2
  generalize ((w.alloc (.cells #[Value.int .i64 1, .int .i64 0, .int .i64 0] 42)).alloc (.cells #[Value.int .i64 0, .int .i64 0, .int .i64 0] 3)).alloc (.cells #[Value.int .i64 1, .slice (some ⟨w.heap.size, 0, none⟩) 1 1, .slice none 0 0, .slice (some ⟨w.heap.size + 1, 0, none⟩) 3 3] 26) = W0 at *
  have hm : LiesAt scr3 ⟨some ⟨w.heap.size, 0, none⟩, 1, none, 0, some ⟨w.heap.size + 1, 0, none⟩, 3⟩ W0 := by
    refine ⟨.inr ⟨w.heap.size, 0, rfl, fun i hi j hj => ?_⟩, .inl rfl, .inr ⟨w.heap.size + 1, 0, rfl, fun i hi => ?_⟩⟩
    · have hi0 : i = 0 := by have : i < 1 := hi; omega
      subst hi0
      rcases (show j = 0 ∨ j = 1 ∨ j = 2 by omega) with rfl | rfl | rfl
      · exact hb1.cell 0 rfl
      · exact hb1.cell 1 rfl
      · exact hb1.cell 2 rfl
    · have hi3 : i < 3 := hi
      rcases (show i = 0 ∨ i = 1 ∨ i = 2 by omega) with rfl | rfl | rfl
      · exact hb2.cell 0 rfl
      · exact hb2.cell 1 rfl
      · exact hb2.cell 2 rfl
  have hfit : Fits scr3 := ⟨by decide, by decide, by decide, by decide⟩
  refine (encode_any scr3 ⟨some ⟨w.heap.size, 0, none⟩, 1, none, 0, some ⟨w.heap.size + 1, 0, none⟩, 3⟩ W0 hfit scr3_wide hm).mono ?_
  clear hm hb1 hb2
  rintro e w1 ⟨hx1, ⟨he, -⟩ | ⟨-, a, cap, rfl, hnil, hi⟩⟩
  · exact absurd scr3_err he
  · rw [scr3_enc] at hi ⊢
    have hx1' := hx0.trans hx1
    clear hx0 hx1 hnil
    have HI := Lib.hid hi; clear hi
    have HX1 := Lib.hid hx1'; clear hx1'
    simp only [List.length_cons, List.length_nil]
    go_wp2_with fail
    refine (decode_any [1, 1, 1, 0, 0, 0, 0, 0, 0, 0, 3] (some ⟨w1.heap.size, 0, none⟩) 11 _ (ints_fresh .u8 w1 [1, 1, 1, 0, 0, 0, 0, 0, 0, 0, 3] _ rfl _ _ rfl) scr3_bytes (by decide)).mono ?_
    rintro e w2 ⟨hx2, ⟨hn, -⟩ | ⟨s, m, hs, rfl, hm⟩⟩
    · rw [scr3_dec] at hn; cases hn
    · rw [scr3_dec] at hs
      cases hs
      have HX2 := Lib.hid (HX1.out.trans (((Ext.refl w1).alloc _).trans hx2))
      have HI2 := Lib.hid (HI.out.ext (((Ext.refl w1).alloc _).trans hx2))
      clear hx2 HI HX1 hm
      obtain ⟨sa, sc, ca, cc, pa, pc⟩ := m
      simp only [scr3, List.length_cons, List.length_nil]
      have hbx := (Blk.new w2 #[Value.int .i64 1, .slice sa 1 sc, .slice ca 0 cc, .slice pa 3 pc] 26).alloc (.cells #[Value.int .u8 1, .int .u8 1] 5)
      have hin := ints_fresh .u8 (w2.alloc (.cells #[Value.int .i64 1, .slice sa 1 sc, .slice ca 0 cc, .slice pa 3 pc] 26)) [1, 1] #[Value.int .u8 1, .int .u8 1] rfl 5 (w2.heap.size + 1) (by simp)
      have hx3 := (((Ext.refl w2).alloc (.cells #[Value.int .i64 1, .slice sa 1 sc, .slice ca 0 cc, .slice pa 3 pc] 26)).alloc (.cells #[Value.int .u8 1, .int .u8 1] 5))
      go_wp2_with fail
      refine (decode_any [1, 1] (some ⟨w2.heap.size + 1, 0, none⟩) 2 _ hin eleven_bytes (by decide)).mono ?_
      clear hin
      rintro e w3 ⟨hx4, ⟨hn, p, r, rfl, -, -, -, hpr⟩ | ⟨s, m, hs, -, -⟩⟩
      · obtain ⟨rfl, rfl⟩ := hpr rfl
        have hby := hbx.ext hx4
        have hbz := hby.alloc (.cells #[Value.int .i64 0, .slice none 0 0, .slice none 0 0, .slice none 0 0] 26)
        have hxe := (hx3.trans hx4).alloc (.cells #[Value.int .i64 0, .slice none 0 0, .slice none 0 0, .slice none 0 0] 26)
        have HX5 := Lib.hid (HX2.out.trans hxe)
        have hstr : (convert 28 9 (.slice a 11 cap)).run Try.prog (w3.alloc (.cells #[Value.int .i64 0, .slice none 0 0, .slice none 0 0, .slice none 0 0] 26)) = .ok (.string ⟨#[1, 1, 1, 0, 0, 0, 0, 0, 0, 0, 3]⟩) (w3.alloc (.cells #[Value.int .i64 0, .slice none 0 0, .slice none 0 0, .slice none 0 0] 26)) :=
          str_run _ a cap [1, 1, 1, 0, 0, 0, 0, 0, 0, 0, 3] (HI2.out.ext hxe)
        clear hx4 hx3 hbx hby hxe
        have c0 := hbz.cell 0 (v := .int .i64 1) rfl
        have c3 := hbz.cell 3 (v := .slice pa 3 pc) rfl
        have cl := hbz.lt
        go_upto_region 5 with (fail)
        generalize w3.alloc (.cells #[Value.int .i64 0, .slice none 0 0, .slice none 0 0, .slice none 0 0] 26) = W5 at *
        go_wp2
        go_ret
        exact ⟨rfl, HX5.out⟩
      · rw [eleven_dec] at hs; cases hs

end Go.Proofs.Ytmnkkmgfkodmhaa
