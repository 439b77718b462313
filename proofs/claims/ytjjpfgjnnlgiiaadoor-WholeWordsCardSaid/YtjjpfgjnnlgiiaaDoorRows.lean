/-
  NARROWER THAN 'FOR EVERY INPUT', by the rows' own cells (each row's printed sentence says how): WholeWords: laid.
  DERIVED. THE GIVEN ROWS OF THIS SEAT. 1 by the template 'for every input the law returns true; each argument reads behind the call as it read before'; 0 by the template 'total and deterministic' (their statements: YtjjpfgjnnlgiiaaDoorTotals.lean).
  GIVEN WITH THE SEED: the statements are not yours to turn. If you find one false, say at which input.
  Laid BY PROGRAM, IN A SANDBOX (cutbox-rows.mjs): the forced cells as the released guide's own fill.sh prints them over the translation 1d4bc66e2cab7626… (all of the seat's roots in one cut). By AI agents, Wed Nov 11 2026. No macro, syntax, notation, axiom, sorry.
-/
import Derived.Test.YtjjpfgjnnlgiiaaDoorChecked
import GoSem.Claim
import GoSem.ClaimJoined
import GoSem.ClaimMapViews
import Derived.JoinedTies
import Derived.KernelRfl
namespace Go.Proofs.YtjjpfgjnnlgiiaaDoor
/- THE CELL 'sum', in the pinned program and in every row, IS THE sha256 OF THE DUMP (.gsa) THAT YtjjpfgjnnlgiiaaDoorProg.lean LOADS. Nothing in Lean hashes anything: it is a label: what it is worth is what the hold of that sum in a sandbox is worth. -/
noncomputable def Tryd.pinned : Pinned := { name := "ytjjpfgjnnlgiiaadoor", sum := "1d4bc66e2cab76267a0b06068e3d2b26a286b96e369444a3710b44e30e1fd0d4", checked := Tryd.checked }
namespace Rows
def none {H : Type} : Left H := { results := [], args := [] }

/- WHAT THE LISTED PACKAGE-LEVEL VARIABLES READ AS WHEN THE CALL BEGINS. Each datum BY PROGRAM (the guide's laid-datum.mjs) off the statement by which the dump's own 'gosem.cut.vars' lays the variable. In a bare row this is a premise. The card (YtjjpfgjnnlgiiaaDoorCards.lean) ties it to the program's text. -/
def laid_gnomon_payne_words {H : Type} : DataW H := .agg [.lit (.int .u64 11743562013128004905), .lit (.int .u64 18169587780923219392), .lit (.int .u64 15808362127397457985), .lit (.int .u64 18325537948574664033), .lit (.int .u64 13196794004601950944), .lit (.int .u64 452944820249399836), .lit (.int .u64 18311050168422213438), .lit (.int .u64 16754012890938950788), .lit (.int .u64 16833452818741296705), .lit (.int .u64 4148332274289687028), .lit (.int .u64 11278244420634880059), .lit (.int .u64 2303758334597371919), .lit (.int .u64 17235013589178936607), .lit (.int .u64 7869616827067468215), .lit (.int .u64 5712322887342352941), .lit (.int .u64 8441921394348257659), .lit (.int .u64 4397547296490951402), .lit (.int .u64 7780917995555872008), .lit (.int .u64 6197850593633725355), .lit (.int .u64 17352294737506481693)]

/-- 'gnomontop.WholeWords': WHATEVER THE INPUT: true; the input reads as it did. -/
def wholeWordsSpec : ChangeSpec := { name := "wholeWords", fn := fun _ => fun
  | [d] => { results := [.lit (.bool true)], args := [d] }
  | _ => none }
def wholeWordsRow : OpenClaim := { program := "ytjjpfgjnnlgiiaadoor", sum := "1d4bc66e2cab76267a0b06068e3d2b26a286b96e369444a3710b44e30e1fd0d4", func := "gnomon/gnomontop.WholeWords", spec := "wholeWords", inPlace := ["math/bits.Add64", "math/bits.Sub64"], named := ["gnomon/payne.words", "math/bits.divideError", "math/bits.overflowError"], apart := false, laid := [("gnomon/payne.words", laid_gnomon_payne_words)] }
def WholeWordsSaid : Prop := wholeWordsRow.holds Tryd.pinned (OpenSpec.ofChange wholeWordsSpec)

/-- ITS FALSE NEIGHBOUR: 'it returns false'. Refute it at one input. -/
def wholeWordsWrong : ChangeSpec := { name := "wholeWords", fn := fun _ => fun
  | [d] => { results := [.lit (.bool false)], args := [d] }
  | _ => none }
def WholeWordsWrongFalsely : Prop := wholeWordsRow.holds Tryd.pinned (OpenSpec.ofChange wholeWordsWrong)

/- THE SECOND FORM. 'bulk': how many values and letters a reading holds, each counted each time it is reached (what is shared counts as often as it is met; a slice's spare places count too). A statement '..UptoSaid' is the law's where the arguments, and the package variables that the reading takes, are together of bulk at most 1048576: NARROWER than '..Said'. Prove '..Said' where nothing that the law and all that it calls make is longer than what came in: it says more and counts as full. Else prove '..UptoSaid'. A law counts once. -/
mutual
def uptoBulk {H : Type} : DataW H → Nat
  | .lit (.string bytes) => bytes.length + 1
  | .lit _ => 1
  | .nil => 1
  | .ptr d => uptoBulk d + 1
  | .slice elems spare => uptoBulkAll elems + uptoBulkAll spare + 1
  | .agg parts => uptoBulkAll parts + 1
  | .iface _ d => uptoBulk d + 1
  | .map entries => uptoBulkEntries entries + 1
  | .held _ => 1
def uptoBulkAll {H : Type} : List (DataW H) → Nat
  | [] => 0
  | d :: r => uptoBulk d + uptoBulkAll r
def uptoBulkEntries {H : Type} : List (Lit × DataW H) → Nat
  | [] => 0
  | x :: r => uptoBulkEntry x + uptoBulkEntries r
def uptoBulkEntry {H : Type} : Lit × DataW H → Nat
  | (.string bytes, d) => bytes.length + uptoBulk d + 1
  | (_, d) => uptoBulk d + 1
 end
def uptoSmall : (H : Type) → List (DataW H) → Bool := fun _ ds => decide (uptoBulkAll ds ≤ 1048576)
def OpenSpec.upto (s : _root_.Go.ChangeSpec) : _root_.Go.OpenSpec := { _root_.Go.OpenSpec.ofChange s with cond := some uptoSmall }

/-- 'gnomontop.WholeWords', WHERE WHAT IT READS IS OF BULK AT MOST 1048576: true; the input reads as it did. -/
def wholeWordsUptoRow : OpenClaim := { program := "ytjjpfgjnnlgiiaadoor", sum := "1d4bc66e2cab76267a0b06068e3d2b26a286b96e369444a3710b44e30e1fd0d4", func := "gnomon/gnomontop.WholeWords", spec := "wholeWords", inPlace := ["math/bits.Add64", "math/bits.Sub64"], named := ["gnomon/payne.words", "math/bits.divideError", "math/bits.overflowError"], apart := false, laid := [("gnomon/payne.words", laid_gnomon_payne_words)], narrowed := true }
def WholeWordsUptoSaid : Prop := wholeWordsUptoRow.holds Tryd.pinned (OpenSpec.upto wholeWordsSpec)

end Rows
end Go.Proofs.YtjjpfgjnnlgiiaaDoor
