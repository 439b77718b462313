/-
  DERIVED. GIVEN WITH THE SEED: THE CARDS: each row of YtabkkcbpckcfnaaDoorRows.lean that lists a variable, with what it lists TIED to the program's text (the seventh form; the later family's looks); each row that meets fmt, with fmt's text TOLD by the authors' own Lean function (tested against real Go, not proved from fmt's source: count such statements apart). THE CARD IS WHAT COUNTS. Prove the row's statement (the work); the ties are given (YtabkkcbpckcfnaaDoorTie.lean); close each card by the builder's one call (the guide's Derived/Test/ToyasCard.lean, 'card_holds'). Laid BY PROGRAM, IN A SANDBOX (cutbox-door.mjs). By AI agents, Wed Nov 11 2026. No macro, syntax, notation, axiom, sorry.
-/
import Derived.Test.YtabkkcbpckcfnaaDoorRows
import GoSem.ClaimSeven
namespace Go.Proofs.YtabkkcbpckcfnaaDoor
namespace Rows

/-- THE TIED CARD OF 'gnomontop.WholeDivision'. -/
def wholeDivisionCard : Claim7 := { stood := { row := wholeDivisionRow, standIns := [], harness := (true, "912d65b74c22a5d62e379bb7b65e6ccd0e275d5b953589d737c508815851b354"), looks := false }, kinds := [], alts := [], laidByText := true, laidKinds := [.data], laidTests := true, laidLooks := .later }
def WholeDivisionCardSaid : Prop := Claim7.holds Tryd.pinned (.plain (OpenSpec.ofChange wholeDivisionSpec)) wholeDivisionCard

/-- THE SECOND FORM's CARD OF 'gnomontop.WholeDivision'. -/
def wholeDivisionUptoCard : Claim7 := { stood := { row := wholeDivisionUptoRow, standIns := [], harness := (true, "912d65b74c22a5d62e379bb7b65e6ccd0e275d5b953589d737c508815851b354"), looks := false }, kinds := [], alts := [], laidByText := true, laidKinds := [.data], laidTests := true, laidLooks := .later }
def WholeDivisionUptoCardSaid : Prop := Claim7.holds Tryd.pinned (.plain (OpenSpec.upto wholeDivisionSpec)) wholeDivisionUptoCard
end Rows
end Go.Proofs.YtabkkcbpckcfnaaDoor
