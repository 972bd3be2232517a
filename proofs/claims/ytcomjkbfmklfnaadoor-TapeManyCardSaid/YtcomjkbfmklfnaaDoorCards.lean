/-
  DERIVED. GIVEN WITH THE SEED: THE CARDS: each row of YtcomjkbfmklfnaaDoorRows.lean that lists a variable, with what it lists TIED to the program's text (the seventh form; the later family's looks); each row that meets fmt, with fmt's text TOLD by the authors' own Lean function (tested against real Go, not proved from fmt's source: count such statements apart). THE CARD IS WHAT COUNTS. Prove the row's statement (the work); the ties are given (YtcomjkbfmklfnaaDoorTie.lean); close each card by the builder's one call (the guide's Derived/Test/ToyasCard.lean, 'card_holds'). Laid BY PROGRAM, IN A SANDBOX (cutbox-door.mjs). By AI agents, Wed Nov 11 2026. No macro, syntax, notation, axiom, sorry.
-/
import Derived.Test.YtcomjkbfmklfnaaDoorRows
import GoSem.ClaimSeven
namespace Go.Proofs.YtcomjkbfmklfnaaDoor
namespace Rows

/-- THE TIED CARD OF 'foresightkeep.TapeMany'. -/
def tapeManyCard : Claim7 := { stood := { row := tapeManyRow, standIns := [], harness := (true, "d17575bdec5f98141b9a09b4fd4ca315a3fe5686cf695d772d253a2ab41e57c5"), looks := true }, kinds := [], alts := [], goes := true, laidByText := true, laidKinds := [.handle], laidTests := true, laidLooks := .later }
def TapeManyCardSaid : Prop := Claim7.holds Tryd.pinned (.plain (OpenSpec.ofChange tapeManySpec)) tapeManyCard

/-- THE SECOND FORM's CARD OF 'foresightkeep.TapeMany'. -/
def tapeManyUptoCard : Claim7 := { stood := { row := tapeManyUptoRow, standIns := [], harness := (true, "d17575bdec5f98141b9a09b4fd4ca315a3fe5686cf695d772d253a2ab41e57c5"), looks := true }, kinds := [], alts := [], goes := true, laidByText := true, laidKinds := [.handle], laidTests := true, laidLooks := .later }
def TapeManyUptoCardSaid : Prop := Claim7.holds Tryd.pinned (.plain (OpenSpec.upto tapeManySpec)) tapeManyUptoCard
end Rows
end Go.Proofs.YtcomjkbfmklfnaaDoor
