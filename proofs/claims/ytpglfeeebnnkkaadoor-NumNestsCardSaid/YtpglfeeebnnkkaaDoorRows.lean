/-
  NARROWER THAN 'FOR EVERY INPUT', by the rows' own cells (each row's printed sentence says how): NumMirrors: laid · NumSmalls: laid · NumSteps: laid · NumNests: laid.
  DERIVED. THE GIVEN ROWS OF THIS SEAT. 4 by the template 'for every input the law returns true; each argument reads behind the call as it read before'; 0 by the template 'total and deterministic' (their statements: YtpglfeeebnnkkaaDoorTotals.lean).
  GIVEN WITH THE SEED: the statements are not yours to turn. If you find one false, say at which input.
  Laid BY PROGRAM, IN A SANDBOX (cutbox-rows.mjs): the forced cells as the released guide's own fill.sh prints them over the translation dd5092378c93dc86… (all of the seat's roots in one cut). By AI agents, Wed Nov 11 2026. No macro, syntax, notation, axiom, sorry.
-/
import Derived.Test.YtpglfeeebnnkkaaDoorChecked
import GoSem.Claim
import GoSem.ClaimJoined
import GoSem.ClaimMapViews
import Derived.JoinedTies
import Derived.KernelRfl
namespace Go.Proofs.YtpglfeeebnnkkaaDoor
/- THE CELL 'sum', in the pinned program and in every row, IS THE sha256 OF THE DUMP (.gsa) THAT YtpglfeeebnnkkaaDoorProg.lean LOADS. Nothing in Lean hashes anything: it is a label: what it is worth is what the hold of that sum in a sandbox is worth. -/
noncomputable def Tryd.pinned : Pinned := { name := "ytpglfeeebnnkkaadoor", sum := "dd5092378c93dc86590958ab94f7d10cf83c285f6983fd0907808740ea5337e3", checked := Tryd.checked }
namespace Rows
def none {H : Type} : Left H := { results := [], args := [] }

/- WHAT THE LISTED PACKAGE-LEVEL VARIABLES READ AS WHEN THE CALL BEGINS. Each datum BY PROGRAM (the guide's laid-datum.mjs) off the statement by which the dump's own 'gosem.cut.vars' lays the variable. In a bare row this is a premise. The card (YtpglfeeebnnkkaaDoorCards.lean) ties it to the program's text. -/
def laid_math_bits_deBruijn64tab {H : Type} : DataW H := .agg [.lit (.int .u8 0), .lit (.int .u8 1), .lit (.int .u8 56), .lit (.int .u8 2), .lit (.int .u8 57), .lit (.int .u8 49), .lit (.int .u8 28), .lit (.int .u8 3), .lit (.int .u8 61), .lit (.int .u8 58), .lit (.int .u8 42), .lit (.int .u8 50), .lit (.int .u8 38), .lit (.int .u8 29), .lit (.int .u8 17), .lit (.int .u8 4), .lit (.int .u8 62), .lit (.int .u8 47), .lit (.int .u8 59), .lit (.int .u8 36), .lit (.int .u8 45), .lit (.int .u8 43), .lit (.int .u8 51), .lit (.int .u8 22), .lit (.int .u8 53), .lit (.int .u8 39), .lit (.int .u8 33), .lit (.int .u8 30), .lit (.int .u8 24), .lit (.int .u8 18), .lit (.int .u8 12), .lit (.int .u8 5), .lit (.int .u8 63), .lit (.int .u8 55), .lit (.int .u8 48), .lit (.int .u8 27), .lit (.int .u8 60), .lit (.int .u8 41), .lit (.int .u8 37), .lit (.int .u8 16), .lit (.int .u8 46), .lit (.int .u8 35), .lit (.int .u8 44), .lit (.int .u8 21), .lit (.int .u8 52), .lit (.int .u8 32), .lit (.int .u8 23), .lit (.int .u8 11), .lit (.int .u8 54), .lit (.int .u8 26), .lit (.int .u8 40), .lit (.int .u8 15), .lit (.int .u8 34), .lit (.int .u8 20), .lit (.int .u8 31), .lit (.int .u8 10), .lit (.int .u8 25), .lit (.int .u8 14), .lit (.int .u8 19), .lit (.int .u8 9), .lit (.int .u8 13), .lit (.int .u8 8), .lit (.int .u8 7), .lit (.int .u8 6)]

/-- 'gnomonlaw04.NumMirrors': WHATEVER THE INPUT: true; the input reads as it did. -/
def numMirrorsSpec : ChangeSpec := { name := "numMirrors", fn := fun _ => fun
  | [d1, d2, d3] => { results := [.lit (.bool true)], args := [d1, d2, d3] }
  | _ => none }
def numMirrorsRow : OpenClaim := { program := "ytpglfeeebnnkkaadoor", sum := "dd5092378c93dc86590958ab94f7d10cf83c285f6983fd0907808740ea5337e3", func := "gnomon/gnomonlaw04.NumMirrors", spec := "numMirrors", inPlace := ["math/bits.Add64", "math/bits.Sub64"], recurses := true, named := ["math/bits.divideError", "math/bits.overflowError", "math/bits.deBruijn64tab"], apart := false, laid := [("math/bits.deBruijn64tab", laid_math_bits_deBruijn64tab)] }
def NumMirrorsSaid : Prop := numMirrorsRow.holds Tryd.pinned (OpenSpec.ofChange numMirrorsSpec)

/-- ITS FALSE NEIGHBOUR: 'it returns false'. Refute it at one input. -/
def numMirrorsWrong : ChangeSpec := { name := "numMirrors", fn := fun _ => fun
  | [d1, d2, d3] => { results := [.lit (.bool false)], args := [d1, d2, d3] }
  | _ => none }
def NumMirrorsWrongFalsely : Prop := numMirrorsRow.holds Tryd.pinned (OpenSpec.ofChange numMirrorsWrong)

/-- 'gnomonlaw04.NumSmalls': WHATEVER THE INPUT: true; the input reads as it did. -/
def numSmallsSpec : ChangeSpec := { name := "numSmalls", fn := fun _ => fun
  | [d1, d2] => { results := [.lit (.bool true)], args := [d1, d2] }
  | _ => none }
def numSmallsRow : OpenClaim := { program := "ytpglfeeebnnkkaadoor", sum := "dd5092378c93dc86590958ab94f7d10cf83c285f6983fd0907808740ea5337e3", func := "gnomon/gnomonlaw04.NumSmalls", spec := "numSmalls", inPlace := ["math/bits.Add64", "math/bits.Sub64"], recurses := true, named := ["math/bits.divideError", "math/bits.overflowError", "math/bits.deBruijn64tab"], apart := false, laid := [("math/bits.deBruijn64tab", laid_math_bits_deBruijn64tab)] }
def NumSmallsSaid : Prop := numSmallsRow.holds Tryd.pinned (OpenSpec.ofChange numSmallsSpec)

/-- ITS FALSE NEIGHBOUR: 'it returns false'. Refute it at one input. -/
def numSmallsWrong : ChangeSpec := { name := "numSmalls", fn := fun _ => fun
  | [d1, d2] => { results := [.lit (.bool false)], args := [d1, d2] }
  | _ => none }
def NumSmallsWrongFalsely : Prop := numSmallsRow.holds Tryd.pinned (OpenSpec.ofChange numSmallsWrong)

/-- 'gnomonlaw04.NumSteps': WHATEVER THE INPUT: true; the input reads as it did. -/
def numStepsSpec : ChangeSpec := { name := "numSteps", fn := fun _ => fun
  | [d1, d2, d3] => { results := [.lit (.bool true)], args := [d1, d2, d3] }
  | _ => none }
def numStepsRow : OpenClaim := { program := "ytpglfeeebnnkkaadoor", sum := "dd5092378c93dc86590958ab94f7d10cf83c285f6983fd0907808740ea5337e3", func := "gnomon/gnomonlaw04.NumSteps", spec := "numSteps", inPlace := ["math/bits.Add64", "math/bits.Sub64"], recurses := true, named := ["math/bits.divideError", "math/bits.overflowError", "math/bits.deBruijn64tab"], apart := false, laid := [("math/bits.deBruijn64tab", laid_math_bits_deBruijn64tab)] }
def NumStepsSaid : Prop := numStepsRow.holds Tryd.pinned (OpenSpec.ofChange numStepsSpec)

/-- ITS FALSE NEIGHBOUR: 'it returns false'. Refute it at one input. -/
def numStepsWrong : ChangeSpec := { name := "numSteps", fn := fun _ => fun
  | [d1, d2, d3] => { results := [.lit (.bool false)], args := [d1, d2, d3] }
  | _ => none }
def NumStepsWrongFalsely : Prop := numStepsRow.holds Tryd.pinned (OpenSpec.ofChange numStepsWrong)

/-- 'gnomonlaw04.NumNests': WHATEVER THE INPUT: true; the input reads as it did. -/
def numNestsSpec : ChangeSpec := { name := "numNests", fn := fun _ => fun
  | [d1, d2] => { results := [.lit (.bool true)], args := [d1, d2] }
  | _ => none }
def numNestsRow : OpenClaim := { program := "ytpglfeeebnnkkaadoor", sum := "dd5092378c93dc86590958ab94f7d10cf83c285f6983fd0907808740ea5337e3", func := "gnomon/gnomonlaw04.NumNests", spec := "numNests", inPlace := ["math/bits.Add64", "math/bits.Sub64"], recurses := true, named := ["math/bits.divideError", "math/bits.overflowError", "math/bits.deBruijn64tab"], apart := false, laid := [("math/bits.deBruijn64tab", laid_math_bits_deBruijn64tab)] }
def NumNestsSaid : Prop := numNestsRow.holds Tryd.pinned (OpenSpec.ofChange numNestsSpec)

/-- ITS FALSE NEIGHBOUR: 'it returns false'. Refute it at one input. -/
def numNestsWrong : ChangeSpec := { name := "numNests", fn := fun _ => fun
  | [d1, d2] => { results := [.lit (.bool false)], args := [d1, d2] }
  | _ => none }
def NumNestsWrongFalsely : Prop := numNestsRow.holds Tryd.pinned (OpenSpec.ofChange numNestsWrong)

/- THE SECOND FORM. 'bulk': how many values and letters a reading holds, each counted each time it is reached (what is shared counts as often as it is met; a slice's spare places count too). A statement '..UptoSaid' is the law's where the arguments, and the package variables that the reading takes, are together of bulk at most 1048576: NARROWER than '..Said'. Prove '..Said' where nothing that the law and all that it calls make is longer than what came in: it says more and counts as full. Else prove '..UptoSaid'. A law counts once. -/
mutual
def uptoBulk {H : Type} : DataW H → Nat
  | .lit (.string bytes) => bytes.length + 1
  | .lit _ => 1
  | .nil => 1
  | .ptr d => uptoBulk d + 1
  | .slice elems spare => uptoBulkAll elems + uptoBulkAll spare + 1
  | .agg parts => uptoBulkAll parts + 1
  | .iface _ d => uptoBulk d + 1
  | .map entries => uptoBulkEntries entries + 1
  | .held _ => 1
def uptoBulkAll {H : Type} : List (DataW H) → Nat
  | [] => 0
  | d :: r => uptoBulk d + uptoBulkAll r
def uptoBulkEntries {H : Type} : List (Lit × DataW H) → Nat
  | [] => 0
  | x :: r => uptoBulkEntry x + uptoBulkEntries r
def uptoBulkEntry {H : Type} : Lit × DataW H → Nat
  | (.string bytes, d) => bytes.length + uptoBulk d + 1
  | (_, d) => uptoBulk d + 1
 end
def uptoSmall : (H : Type) → List (DataW H) → Bool := fun _ ds => decide (uptoBulkAll ds ≤ 1048576)
def OpenSpec.upto (s : _root_.Go.ChangeSpec) : _root_.Go.OpenSpec := { _root_.Go.OpenSpec.ofChange s with cond := some uptoSmall }

/-- 'gnomonlaw04.NumMirrors', WHERE WHAT IT READS IS OF BULK AT MOST 1048576: true; the input reads as it did. -/
def numMirrorsUptoRow : OpenClaim := { program := "ytpglfeeebnnkkaadoor", sum := "dd5092378c93dc86590958ab94f7d10cf83c285f6983fd0907808740ea5337e3", func := "gnomon/gnomonlaw04.NumMirrors", spec := "numMirrors", inPlace := ["math/bits.Add64", "math/bits.Sub64"], recurses := true, named := ["math/bits.divideError", "math/bits.overflowError", "math/bits.deBruijn64tab"], apart := false, laid := [("math/bits.deBruijn64tab", laid_math_bits_deBruijn64tab)], narrowed := true }
def NumMirrorsUptoSaid : Prop := numMirrorsUptoRow.holds Tryd.pinned (OpenSpec.upto numMirrorsSpec)

/-- 'gnomonlaw04.NumSmalls', WHERE WHAT IT READS IS OF BULK AT MOST 1048576: true; the input reads as it did. -/
def numSmallsUptoRow : OpenClaim := { program := "ytpglfeeebnnkkaadoor", sum := "dd5092378c93dc86590958ab94f7d10cf83c285f6983fd0907808740ea5337e3", func := "gnomon/gnomonlaw04.NumSmalls", spec := "numSmalls", inPlace := ["math/bits.Add64", "math/bits.Sub64"], recurses := true, named := ["math/bits.divideError", "math/bits.overflowError", "math/bits.deBruijn64tab"], apart := false, laid := [("math/bits.deBruijn64tab", laid_math_bits_deBruijn64tab)], narrowed := true }
def NumSmallsUptoSaid : Prop := numSmallsUptoRow.holds Tryd.pinned (OpenSpec.upto numSmallsSpec)

/-- 'gnomonlaw04.NumSteps', WHERE WHAT IT READS IS OF BULK AT MOST 1048576: true; the input reads as it did. -/
def numStepsUptoRow : OpenClaim := { program := "ytpglfeeebnnkkaadoor", sum := "dd5092378c93dc86590958ab94f7d10cf83c285f6983fd0907808740ea5337e3", func := "gnomon/gnomonlaw04.NumSteps", spec := "numSteps", inPlace := ["math/bits.Add64", "math/bits.Sub64"], recurses := true, named := ["math/bits.divideError", "math/bits.overflowError", "math/bits.deBruijn64tab"], apart := false, laid := [("math/bits.deBruijn64tab", laid_math_bits_deBruijn64tab)], narrowed := true }
def NumStepsUptoSaid : Prop := numStepsUptoRow.holds Tryd.pinned (OpenSpec.upto numStepsSpec)

/-- 'gnomonlaw04.NumNests', WHERE WHAT IT READS IS OF BULK AT MOST 1048576: true; the input reads as it did. -/
def numNestsUptoRow : OpenClaim := { program := "ytpglfeeebnnkkaadoor", sum := "dd5092378c93dc86590958ab94f7d10cf83c285f6983fd0907808740ea5337e3", func := "gnomon/gnomonlaw04.NumNests", spec := "numNests", inPlace := ["math/bits.Add64", "math/bits.Sub64"], recurses := true, named := ["math/bits.divideError", "math/bits.overflowError", "math/bits.deBruijn64tab"], apart := false, laid := [("math/bits.deBruijn64tab", laid_math_bits_deBruijn64tab)], narrowed := true }
def NumNestsUptoSaid : Prop := numNestsUptoRow.holds Tryd.pinned (OpenSpec.upto numNestsSpec)

end Rows
end Go.Proofs.YtpglfeeebnnkkaaDoor
