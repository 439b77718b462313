/-
  DERIVED. GIVEN WITH THE SEED: THE CARDS: each row of YtllhckjfhefcdaaGreatDoorRows.lean that lists a variable, with what it lists TIED to the program's text (the seventh form; the later family's looks); each row that meets fmt, with fmt's text TOLD by the authors' own Lean function (tested against real Go, not proved from fmt's source: count such statements apart). THE CARD IS WHAT COUNTS. Prove the row's statement (the work); the ties are given (YtllhckjfhefcdaaGreatDoorTie.lean); close each card by the builder's one call (the guide's Derived/Test/ToyasCard.lean, 'card_holds'). Laid BY PROGRAM, IN A SANDBOX (cutbox-door.mjs). By AI agents, Wed Nov 11 2026. No macro, syntax, notation, axiom, sorry.
-/
import Derived.Test.YtllhckjfhefcdaaGreatDoorRows
import GoSem.ClaimSeven
namespace Go.Proofs.YtllhckjfhefcdaaGreatDoor
namespace Rows

/-- THE TIED CARD OF 'gnomonlaw04.NumKeeps'. -/
def numKeepsCard : Claim7 := { stood := { row := numKeepsRow, standIns := [], harness := (true, "7e6bd4840b776e06b0aa60a5f979ebf1f76a33ba73b36d44525089d1e5bf693c"), looks := false }, kinds := [], alts := [], laidByText := true, laidKinds := [.data], laidTests := true, laidLooks := .later }
def NumKeepsCardSaid : Prop := Claim7.holds Tryz.pinned (.plain (OpenSpec.ofChange numKeepsSpec)) numKeepsCard

/-- THE SECOND FORM's CARD OF 'gnomonlaw04.NumKeeps'. -/
def numKeepsUptoCard : Claim7 := { stood := { row := numKeepsUptoRow, standIns := [], harness := (true, "7e6bd4840b776e06b0aa60a5f979ebf1f76a33ba73b36d44525089d1e5bf693c"), looks := false }, kinds := [], alts := [], laidByText := true, laidKinds := [.data], laidTests := true, laidLooks := .later }
def NumKeepsUptoCardSaid : Prop := Claim7.holds Tryz.pinned (.plain (OpenSpec.upto numKeepsSpec)) numKeepsUptoCard
end Rows
end Go.Proofs.YtllhckjfhefcdaaGreatDoor
