/-
  DERIVED. GIVEN WITH THE SEED: THE CARDS: each row of YtanlcacaihdceaaGreatDoorRows.lean that lists a variable, with what it lists TIED to the program's text (the seventh form; the later family's looks); each row that meets fmt, with fmt's text TOLD by the authors' own Lean function (tested against real Go, not proved from fmt's source: count such statements apart). THE CARD IS WHAT COUNTS. Prove the row's statement (the work); the ties are given (YtanlcacaihdceaaGreatDoorTie.lean); close each card by the builder's one call (the guide's Derived/Test/ToyasCard.lean, 'card_holds'). Laid BY PROGRAM, IN A SANDBOX (cutbox-door.mjs). By AI agents, Wed Nov 11 2026. No macro, syntax, notation, axiom, sorry.
-/
import Derived.Test.YtanlcacaihdceaaGreatDoorRows
import GoSem.ClaimSeven
namespace Go.Proofs.YtanlcacaihdceaaGreatDoor
namespace Rows

/-- THE TIED CARD OF 'gnomonlaw04.NumMakes'. -/
def numMakesCard : Claim7 := { stood := { row := numMakesRow, standIns := [], harness := (true, "c16a45155301207d3c5f4b9ac1f9eda41142fea2ac98101ea8bef24163a19df6"), looks := false }, kinds := [], alts := [], laidByText := true, laidKinds := [.data], laidTests := true, laidLooks := .later }
def NumMakesCardSaid : Prop := Claim7.holds Tryz.pinned (.plain (OpenSpec.ofChange numMakesSpec)) numMakesCard

/-- THE TIED CARD OF 'gnomonlaw04.NumSums'. -/
def numSumsCard : Claim7 := { stood := { row := numSumsRow, standIns := [], harness := (true, "c16a45155301207d3c5f4b9ac1f9eda41142fea2ac98101ea8bef24163a19df6"), looks := false }, kinds := [], alts := [], laidByText := true, laidKinds := [.data], laidTests := true, laidLooks := .later }
def NumSumsCardSaid : Prop := Claim7.holds Tryz.pinned (.plain (OpenSpec.ofChange numSumsSpec)) numSumsCard

/-- THE TIED CARD OF 'gnomonlaw04.NumShifts'. -/
def numShiftsCard : Claim7 := { stood := { row := numShiftsRow, standIns := [], harness := (true, "c16a45155301207d3c5f4b9ac1f9eda41142fea2ac98101ea8bef24163a19df6"), looks := false }, kinds := [], alts := [], laidByText := true, laidKinds := [.data], laidTests := true, laidLooks := .later }
def NumShiftsCardSaid : Prop := Claim7.holds Tryz.pinned (.plain (OpenSpec.ofChange numShiftsSpec)) numShiftsCard

/-- THE TIED CARD OF 'gnomonlaw04.NumQuotients'. -/
def numQuotientsCard : Claim7 := { stood := { row := numQuotientsRow, standIns := [], harness := (true, "c16a45155301207d3c5f4b9ac1f9eda41142fea2ac98101ea8bef24163a19df6"), looks := false }, kinds := [], alts := [], laidByText := true, laidKinds := [.data], laidTests := true, laidLooks := .later }
def NumQuotientsCardSaid : Prop := Claim7.holds Tryz.pinned (.plain (OpenSpec.ofChange numQuotientsSpec)) numQuotientsCard

/-- THE SECOND FORM's CARD OF 'gnomonlaw04.NumMakes'. -/
def numMakesUptoCard : Claim7 := { stood := { row := numMakesUptoRow, standIns := [], harness := (true, "c16a45155301207d3c5f4b9ac1f9eda41142fea2ac98101ea8bef24163a19df6"), looks := false }, kinds := [], alts := [], laidByText := true, laidKinds := [.data], laidTests := true, laidLooks := .later }
def NumMakesUptoCardSaid : Prop := Claim7.holds Tryz.pinned (.plain (OpenSpec.upto numMakesSpec)) numMakesUptoCard

/-- THE SECOND FORM's CARD OF 'gnomonlaw04.NumSums'. -/
def numSumsUptoCard : Claim7 := { stood := { row := numSumsUptoRow, standIns := [], harness := (true, "c16a45155301207d3c5f4b9ac1f9eda41142fea2ac98101ea8bef24163a19df6"), looks := false }, kinds := [], alts := [], laidByText := true, laidKinds := [.data], laidTests := true, laidLooks := .later }
def NumSumsUptoCardSaid : Prop := Claim7.holds Tryz.pinned (.plain (OpenSpec.upto numSumsSpec)) numSumsUptoCard

/-- THE SECOND FORM's CARD OF 'gnomonlaw04.NumShifts'. -/
def numShiftsUptoCard : Claim7 := { stood := { row := numShiftsUptoRow, standIns := [], harness := (true, "c16a45155301207d3c5f4b9ac1f9eda41142fea2ac98101ea8bef24163a19df6"), looks := false }, kinds := [], alts := [], laidByText := true, laidKinds := [.data], laidTests := true, laidLooks := .later }
def NumShiftsUptoCardSaid : Prop := Claim7.holds Tryz.pinned (.plain (OpenSpec.upto numShiftsSpec)) numShiftsUptoCard

/-- THE SECOND FORM's CARD OF 'gnomonlaw04.NumQuotients'. -/
def numQuotientsUptoCard : Claim7 := { stood := { row := numQuotientsUptoRow, standIns := [], harness := (true, "c16a45155301207d3c5f4b9ac1f9eda41142fea2ac98101ea8bef24163a19df6"), looks := false }, kinds := [], alts := [], laidByText := true, laidKinds := [.data], laidTests := true, laidLooks := .later }
def NumQuotientsUptoCardSaid : Prop := Claim7.holds Tryz.pinned (.plain (OpenSpec.upto numQuotientsSpec)) numQuotientsUptoCard
end Rows
end Go.Proofs.YtanlcacaihdceaaGreatDoor
