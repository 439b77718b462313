/-
  DERIVED. GIVEN WITH THE SEED: THE CARDS: each row of YtpglfeeebnnkkaaDoorRows.lean that lists a variable, with what it lists TIED to the program's text (the seventh form; the later family's looks); each row that meets fmt, with fmt's text TOLD by the authors' own Lean function (tested against real Go, not proved from fmt's source: count such statements apart). THE CARD IS WHAT COUNTS. Prove the row's statement (the work); the ties are given (YtpglfeeebnnkkaaDoorTie.lean); close each card by the builder's one call (the guide's Derived/Test/ToyasCard.lean, 'card_holds'). Laid BY PROGRAM, IN A SANDBOX (cutbox-door.mjs). By AI agents, Wed Nov 11 2026. No macro, syntax, notation, axiom, sorry.
-/
import Derived.Test.YtpglfeeebnnkkaaDoorRows
import GoSem.ClaimSeven
namespace Go.Proofs.YtpglfeeebnnkkaaDoor
namespace Rows

/-- THE TIED CARD OF 'gnomonlaw04.NumMirrors'. -/
def numMirrorsCard : Claim7 := { stood := { row := numMirrorsRow, standIns := [], harness := (true, "d5dedd4ceed6bc0681c3dbc038adb1589ebd3608fa1719bc381a2a1cb1da22b7"), looks := false }, kinds := [], alts := [], laidByText := true, laidKinds := [.data], laidTests := true, laidLooks := .later }
def NumMirrorsCardSaid : Prop := Claim7.holds Tryd.pinned (.plain (OpenSpec.ofChange numMirrorsSpec)) numMirrorsCard

/-- THE TIED CARD OF 'gnomonlaw04.NumSmalls'. -/
def numSmallsCard : Claim7 := { stood := { row := numSmallsRow, standIns := [], harness := (true, "d5dedd4ceed6bc0681c3dbc038adb1589ebd3608fa1719bc381a2a1cb1da22b7"), looks := false }, kinds := [], alts := [], laidByText := true, laidKinds := [.data], laidTests := true, laidLooks := .later }
def NumSmallsCardSaid : Prop := Claim7.holds Tryd.pinned (.plain (OpenSpec.ofChange numSmallsSpec)) numSmallsCard

/-- THE TIED CARD OF 'gnomonlaw04.NumSteps'. -/
def numStepsCard : Claim7 := { stood := { row := numStepsRow, standIns := [], harness := (true, "d5dedd4ceed6bc0681c3dbc038adb1589ebd3608fa1719bc381a2a1cb1da22b7"), looks := false }, kinds := [], alts := [], laidByText := true, laidKinds := [.data], laidTests := true, laidLooks := .later }
def NumStepsCardSaid : Prop := Claim7.holds Tryd.pinned (.plain (OpenSpec.ofChange numStepsSpec)) numStepsCard

/-- THE TIED CARD OF 'gnomonlaw04.NumNests'. -/
def numNestsCard : Claim7 := { stood := { row := numNestsRow, standIns := [], harness := (true, "d5dedd4ceed6bc0681c3dbc038adb1589ebd3608fa1719bc381a2a1cb1da22b7"), looks := false }, kinds := [], alts := [], laidByText := true, laidKinds := [.data], laidTests := true, laidLooks := .later }
def NumNestsCardSaid : Prop := Claim7.holds Tryd.pinned (.plain (OpenSpec.ofChange numNestsSpec)) numNestsCard

/-- THE SECOND FORM's CARD OF 'gnomonlaw04.NumMirrors'. -/
def numMirrorsUptoCard : Claim7 := { stood := { row := numMirrorsUptoRow, standIns := [], harness := (true, "d5dedd4ceed6bc0681c3dbc038adb1589ebd3608fa1719bc381a2a1cb1da22b7"), looks := false }, kinds := [], alts := [], laidByText := true, laidKinds := [.data], laidTests := true, laidLooks := .later }
def NumMirrorsUptoCardSaid : Prop := Claim7.holds Tryd.pinned (.plain (OpenSpec.upto numMirrorsSpec)) numMirrorsUptoCard

/-- THE SECOND FORM's CARD OF 'gnomonlaw04.NumSmalls'. -/
def numSmallsUptoCard : Claim7 := { stood := { row := numSmallsUptoRow, standIns := [], harness := (true, "d5dedd4ceed6bc0681c3dbc038adb1589ebd3608fa1719bc381a2a1cb1da22b7"), looks := false }, kinds := [], alts := [], laidByText := true, laidKinds := [.data], laidTests := true, laidLooks := .later }
def NumSmallsUptoCardSaid : Prop := Claim7.holds Tryd.pinned (.plain (OpenSpec.upto numSmallsSpec)) numSmallsUptoCard

/-- THE SECOND FORM's CARD OF 'gnomonlaw04.NumSteps'. -/
def numStepsUptoCard : Claim7 := { stood := { row := numStepsUptoRow, standIns := [], harness := (true, "d5dedd4ceed6bc0681c3dbc038adb1589ebd3608fa1719bc381a2a1cb1da22b7"), looks := false }, kinds := [], alts := [], laidByText := true, laidKinds := [.data], laidTests := true, laidLooks := .later }
def NumStepsUptoCardSaid : Prop := Claim7.holds Tryd.pinned (.plain (OpenSpec.upto numStepsSpec)) numStepsUptoCard

/-- THE SECOND FORM's CARD OF 'gnomonlaw04.NumNests'. -/
def numNestsUptoCard : Claim7 := { stood := { row := numNestsUptoRow, standIns := [], harness := (true, "d5dedd4ceed6bc0681c3dbc038adb1589ebd3608fa1719bc381a2a1cb1da22b7"), looks := false }, kinds := [], alts := [], laidByText := true, laidKinds := [.data], laidTests := true, laidLooks := .later }
def NumNestsUptoCardSaid : Prop := Claim7.holds Tryd.pinned (.plain (OpenSpec.upto numNestsSpec)) numNestsUptoCard
end Rows
end Go.Proofs.YtpglfeeebnnkkaaDoor
