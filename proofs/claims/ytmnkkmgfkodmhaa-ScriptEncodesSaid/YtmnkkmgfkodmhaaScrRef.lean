/-
  The law's ref: a script, for the reference.
-/
import Derived.Test.YtmnkkmgfkodmhaaScrEnc
namespace Go.Proofs.Ytmnkkmgfkodmhaa
open Go.RowKit

theorem ref_any (s : Scr) (m : Lies) (w : World) :
    Calls Try.prog 8 #[.agg #[.int .i64 s.n, .slice m.sa s.specs.length m.sc, .slice m.ca s.calls.length m.cc, .slice m.pa s.picks.length m.pc]] w
      fun e w' => e = .returned (.agg #[.int .i64 s.n, .slice m.sa s.specs.length m.sc, .slice m.ca s.calls.length m.cc, .slice m.pa s.picks.length m.pc]) ∧ Ext w w' := by
  obtain ⟨sa, sc, ca, cc, pa, pc⟩ := m
  simp only
  have hw : ∀ o o' : Obj, Ext w ((w.alloc o).alloc o') := fun o o' => ((Ext.refl w).alloc o).alloc o'
  go_enter Try.func8, Try.ntmps8
  go_wp2
  refine bodyPost_ret (v := .agg #[.int .i64 s.n, .slice sa s.specs.length sc, .slice ca s.calls.length cc, .slice pa s.picks.length pc]) (by simp [results, Try.results8, go_sem]) rfl ⟨rfl, hw _ _⟩

end Go.Proofs.Ytmnkkmgfkodmhaa
