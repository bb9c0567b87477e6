/-
  DERIVED. GIVEN WITH THE SEED: THE CARDS: each row of YtcfbcffmlinlaaaDoorRows.lean that lists a variable, with what it lists TIED to the program's text (the seventh form; the later family's looks); each row that meets fmt, with fmt's text TOLD by the authors' own Lean function (tested against real Go, not proved from fmt's source: count such statements apart). THE CARD IS WHAT COUNTS. Prove the row's statement (the work); the ties are given (YtcfbcffmlinlaaaDoorTie.lean); close each card by the builder's one call (the guide's Derived/Test/ToyasCard.lean, 'card_holds'). Laid BY PROGRAM, IN A SANDBOX (cutbox-door.mjs). By AI agents, Wed Nov 11 2026. No macro, syntax, notation, axiom, sorry.
-/
import Derived.Test.YtcfbcffmlinlaaaDoorRows
import GoSem.ClaimSeven
namespace Go.Proofs.YtcfbcffmlinlaaaDoor
namespace Rows

/-- THE TIED CARD OF 'roundelaylaw45.PlanWrites'. -/
def planWritesCard : Claim7 := { stood := { row := planWritesRow, standIns := [], harness := (true, "e24941f6811047d70b9569e6b7d388b31360d2989153cc0c9747d485af229ac9"), looks := true }, kinds := [], alts := [], laidByText := true, laidKinds := [.data, .pinned], laidTests := true, laidLooks := .later }
def PlanWritesCardSaid : Prop := Claim7.holds Tryd.pinned (.plain (OpenSpec.ofChange planWritesSpec)) planWritesCard

/-- THE TIED CARD OF 'roundelaylaw45.PlanReads'. -/
def planReadsCard : Claim7 := { stood := { row := planReadsRow, standIns := [], harness := (true, "e24941f6811047d70b9569e6b7d388b31360d2989153cc0c9747d485af229ac9"), looks := true }, kinds := [], alts := [], laidByText := true, laidKinds := [.data, .pinned], laidTests := true, laidLooks := .later }
def PlanReadsCardSaid : Prop := Claim7.holds Tryd.pinned (.plain (OpenSpec.ofChange planReadsSpec)) planReadsCard

/-- THE TIED CARD OF 'roundelaylaw45.PlanBack'. -/
def planBackCard : Claim7 := { stood := { row := planBackRow, standIns := [], harness := (true, "e24941f6811047d70b9569e6b7d388b31360d2989153cc0c9747d485af229ac9"), looks := true }, kinds := [], alts := [], laidByText := true, laidKinds := [.data, .pinned], laidTests := true, laidLooks := .later }
def PlanBackCardSaid : Prop := Claim7.holds Tryd.pinned (.plain (OpenSpec.ofChange planBackSpec)) planBackCard

/-- THE TIED CARD OF 'roundelaylaw45.PlanBytes'. -/
def planBytesCard : Claim7 := { stood := { row := planBytesRow, standIns := [], harness := (true, "e24941f6811047d70b9569e6b7d388b31360d2989153cc0c9747d485af229ac9"), looks := true }, kinds := [], alts := [], laidByText := true, laidKinds := [.data, .pinned], laidTests := true, laidLooks := .later }
def PlanBytesCardSaid : Prop := Claim7.holds Tryd.pinned (.plain (OpenSpec.ofChange planBytesSpec)) planBytesCard

/-- THE SECOND FORM's CARD OF 'roundelaylaw45.PlanWrites'. -/
def planWritesUptoCard : Claim7 := { stood := { row := planWritesUptoRow, standIns := [], harness := (true, "e24941f6811047d70b9569e6b7d388b31360d2989153cc0c9747d485af229ac9"), looks := true }, kinds := [], alts := [], laidByText := true, laidKinds := [.data, .pinned], laidTests := true, laidLooks := .later }
def PlanWritesUptoCardSaid : Prop := Claim7.holds Tryd.pinned (.plain (OpenSpec.upto planWritesSpec)) planWritesUptoCard

/-- THE SECOND FORM's CARD OF 'roundelaylaw45.PlanReads'. -/
def planReadsUptoCard : Claim7 := { stood := { row := planReadsUptoRow, standIns := [], harness := (true, "e24941f6811047d70b9569e6b7d388b31360d2989153cc0c9747d485af229ac9"), looks := true }, kinds := [], alts := [], laidByText := true, laidKinds := [.data, .pinned], laidTests := true, laidLooks := .later }
def PlanReadsUptoCardSaid : Prop := Claim7.holds Tryd.pinned (.plain (OpenSpec.upto planReadsSpec)) planReadsUptoCard

/-- THE SECOND FORM's CARD OF 'roundelaylaw45.PlanBack'. -/
def planBackUptoCard : Claim7 := { stood := { row := planBackUptoRow, standIns := [], harness := (true, "e24941f6811047d70b9569e6b7d388b31360d2989153cc0c9747d485af229ac9"), looks := true }, kinds := [], alts := [], laidByText := true, laidKinds := [.data, .pinned], laidTests := true, laidLooks := .later }
def PlanBackUptoCardSaid : Prop := Claim7.holds Tryd.pinned (.plain (OpenSpec.upto planBackSpec)) planBackUptoCard

/-- THE SECOND FORM's CARD OF 'roundelaylaw45.PlanBytes'. -/
def planBytesUptoCard : Claim7 := { stood := { row := planBytesUptoRow, standIns := [], harness := (true, "e24941f6811047d70b9569e6b7d388b31360d2989153cc0c9747d485af229ac9"), looks := true }, kinds := [], alts := [], laidByText := true, laidKinds := [.data, .pinned], laidTests := true, laidLooks := .later }
def PlanBytesUptoCardSaid : Prop := Claim7.holds Tryd.pinned (.plain (OpenSpec.upto planBytesSpec)) planBytesUptoCard
end Rows
end Go.Proofs.YtcfbcffmlinlaaaDoor
