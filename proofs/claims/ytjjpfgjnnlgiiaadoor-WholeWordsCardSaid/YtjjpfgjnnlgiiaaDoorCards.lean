/-
  DERIVED. GIVEN WITH THE SEED: THE CARDS: each row of YtjjpfgjnnlgiiaaDoorRows.lean that lists a variable, with what it lists TIED to the program's text (the seventh form; the later family's looks); each row that meets fmt, with fmt's text TOLD by the authors' own Lean function (tested against real Go, not proved from fmt's source: count such statements apart). THE CARD IS WHAT COUNTS. Prove the row's statement (the work); the ties are given (YtjjpfgjnnlgiiaaDoorTie.lean); close each card by the builder's one call (the guide's Derived/Test/ToyasCard.lean, 'card_holds'). Laid BY PROGRAM, IN A SANDBOX (cutbox-door.mjs). By AI agents, Wed Nov 11 2026. No macro, syntax, notation, axiom, sorry.
-/
import Derived.Test.YtjjpfgjnnlgiiaaDoorRows
import GoSem.ClaimSeven
namespace Go.Proofs.YtjjpfgjnnlgiiaaDoor
namespace Rows

/-- THE TIED CARD OF 'gnomontop.WholeWords'. -/
def wholeWordsCard : Claim7 := { stood := { row := wholeWordsRow, standIns := [], harness := (true, "d355da04dcdcfa4cd930bfad23fac953130863847b5cd80a4e6522727ee79327"), looks := false }, kinds := [], alts := [], laidByText := true, laidKinds := [.data], laidTests := true, laidLooks := .later }
def WholeWordsCardSaid : Prop := Claim7.holds Tryd.pinned (.plain (OpenSpec.ofChange wholeWordsSpec)) wholeWordsCard

/-- THE SECOND FORM's CARD OF 'gnomontop.WholeWords'. -/
def wholeWordsUptoCard : Claim7 := { stood := { row := wholeWordsUptoRow, standIns := [], harness := (true, "d355da04dcdcfa4cd930bfad23fac953130863847b5cd80a4e6522727ee79327"), looks := false }, kinds := [], alts := [], laidByText := true, laidKinds := [.data], laidTests := true, laidLooks := .later }
def WholeWordsUptoCardSaid : Prop := Claim7.holds Tryd.pinned (.plain (OpenSpec.upto wholeWordsSpec)) wholeWordsUptoCard
end Rows
end Go.Proofs.YtjjpfgjnnlgiiaaDoor
