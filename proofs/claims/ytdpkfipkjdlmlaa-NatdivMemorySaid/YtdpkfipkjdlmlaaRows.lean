/-
  No cell of these rows narrows 'for every input' (looked for: loops, veiled, ifaces, maps, wideKeys, modest, calm, conditions, laid).
  DERIVED. THE GIVEN ROWS OF THIS SEAT. 10 by the template 'for every input the law returns true; each argument reads behind the call as it read before'; 0 by the template 'total and deterministic' (their statements: YtdpkfipkjdlmlaaTotals.lean).
  GIVEN WITH THE SEED: the statements are not yours to turn. If you find one false, say at which input.
  Laid BY PROGRAM, IN A SANDBOX (cutbox-rows.mjs): the forced cells as the released guide's own fill.sh prints them over the translation 8df41f7bf54c5884… (all of the seat's roots in one cut). By AI agents, Wed Nov 11 2026. No macro, syntax, notation, axiom, sorry.
-/
import Derived.Test.YtdpkfipkjdlmlaaChecked
import GoSem.Claim
import GoSem.ClaimJoined
import GoSem.ClaimMapViews
import Derived.JoinedTies
import Derived.KernelRfl
namespace Go.Proofs.Ytdpkfipkjdlmlaa
/- THE CELL 'sum', in the pinned program and in every row, IS THE sha256 OF THE DUMP (.gsa) THAT YtdpkfipkjdlmlaaProg.lean LOADS. Nothing in Lean hashes anything: it is a label: what it is worth is what the hold of that sum in a sandbox is worth. -/
noncomputable def Try.pinned : Pinned := { name := "ytdpkfipkjdlmlaa", sum := "8df41f7bf54c5884b113e3e44f3ca3e0cc64603d853dd76f272c63124e4ad10d", checked := Try.checked }
namespace Rows
def none {H : Type} : Left H := { results := [], args := [] }

/-- 'gnomonlaw03.NatdivReads': WHATEVER THE INPUT: true; the input reads as it did. -/
def natdivReadsSpec : ChangeSpec := { name := "natdivReads", fn := fun _ => fun
  | [d] => { results := [.lit (.bool true)], args := [d] }
  | _ => none }
def natdivReadsRow : OpenClaim := { program := "ytdpkfipkjdlmlaa", sum := "8df41f7bf54c5884b113e3e44f3ca3e0cc64603d853dd76f272c63124e4ad10d", func := "gnomon/gnomonlaw03.NatdivReads", spec := "natdivReads", inPlace := ["math/bits.Add64"], apart := false }
def NatdivReadsSaid : Prop := natdivReadsRow.holds Try.pinned (OpenSpec.ofChange natdivReadsSpec)

/-- ITS FALSE NEIGHBOUR: 'it returns false'. Refute it at one input. -/
def natdivReadsWrong : ChangeSpec := { name := "natdivReads", fn := fun _ => fun
  | [d] => { results := [.lit (.bool false)], args := [d] }
  | _ => none }
def NatdivReadsWrongFalsely : Prop := natdivReadsRow.holds Try.pinned (OpenSpec.ofChange natdivReadsWrong)

/-- 'gnomonlaw03.NatdivTexts': WHATEVER THE INPUT: true; the input reads as it did. -/
def natdivTextsSpec : ChangeSpec := { name := "natdivTexts", fn := fun _ => fun
  | [d] => { results := [.lit (.bool true)], args := [d] }
  | _ => none }
def natdivTextsRow : OpenClaim := { program := "ytdpkfipkjdlmlaa", sum := "8df41f7bf54c5884b113e3e44f3ca3e0cc64603d853dd76f272c63124e4ad10d", func := "gnomon/gnomonlaw03.NatdivTexts", spec := "natdivTexts", inPlace := ["internal/abi.NoEscape"], named := ["math/bits.divideError", "math/bits.overflowError"], apart := false }
def NatdivTextsSaid : Prop := natdivTextsRow.holds Try.pinned (OpenSpec.ofChange natdivTextsSpec)

/-- ITS FALSE NEIGHBOUR: 'it returns false'. Refute it at one input. -/
def natdivTextsWrong : ChangeSpec := { name := "natdivTexts", fn := fun _ => fun
  | [d] => { results := [.lit (.bool false)], args := [d] }
  | _ => none }
def NatdivTextsWrongFalsely : Prop := natdivTextsRow.holds Try.pinned (OpenSpec.ofChange natdivTextsWrong)

/-- 'gnomonlaw03.NatdivReadsBack': WHATEVER THE INPUT: true; the input reads as it did. -/
def natdivReadsBackSpec : ChangeSpec := { name := "natdivReadsBack", fn := fun _ => fun
  | [d1, d2] => { results := [.lit (.bool true)], args := [d1, d2] }
  | _ => none }
def natdivReadsBackRow : OpenClaim := { program := "ytdpkfipkjdlmlaa", sum := "8df41f7bf54c5884b113e3e44f3ca3e0cc64603d853dd76f272c63124e4ad10d", func := "gnomon/gnomonlaw03.NatdivReadsBack", spec := "natdivReadsBack", inPlace := ["internal/abi.NoEscape", "math/bits.Add64"], named := ["math/bits.divideError", "math/bits.overflowError"], apart := false }
def NatdivReadsBackSaid : Prop := natdivReadsBackRow.holds Try.pinned (OpenSpec.ofChange natdivReadsBackSpec)

/-- ITS FALSE NEIGHBOUR: 'it returns false'. Refute it at one input. -/
def natdivReadsBackWrong : ChangeSpec := { name := "natdivReadsBack", fn := fun _ => fun
  | [d1, d2] => { results := [.lit (.bool false)], args := [d1, d2] }
  | _ => none }
def NatdivReadsBackWrongFalsely : Prop := natdivReadsBackRow.holds Try.pinned (OpenSpec.ofChange natdivReadsBackWrong)

/-- 'gnomonlaw03.NatdivReadMemory': WHATEVER THE INPUT: true; the input reads as it did. -/
def natdivReadMemorySpec : ChangeSpec := { name := "natdivReadMemory", fn := fun _ => fun
  | [d1, d2] => { results := [.lit (.bool true)], args := [d1, d2] }
  | _ => none }
def natdivReadMemoryRow : OpenClaim := { program := "ytdpkfipkjdlmlaa", sum := "8df41f7bf54c5884b113e3e44f3ca3e0cc64603d853dd76f272c63124e4ad10d", func := "gnomon/gnomonlaw03.NatdivReadMemory", spec := "natdivReadMemory", inPlace := ["math/bits.Add64", "internal/abi.NoEscape"], named := ["math/bits.divideError", "math/bits.overflowError"], apart := false }
def NatdivReadMemorySaid : Prop := natdivReadMemoryRow.holds Try.pinned (OpenSpec.ofChange natdivReadMemorySpec)

/-- ITS FALSE NEIGHBOUR: 'it returns false'. Refute it at one input. -/
def natdivReadMemoryWrong : ChangeSpec := { name := "natdivReadMemory", fn := fun _ => fun
  | [d1, d2] => { results := [.lit (.bool false)], args := [d1, d2] }
  | _ => none }
def NatdivReadMemoryWrongFalsely : Prop := natdivReadMemoryRow.holds Try.pinned (OpenSpec.ofChange natdivReadMemoryWrong)

/-- 'gnomonlaw03.NatdivDivides': WHATEVER THE INPUT: true; the input reads as it did. -/
def natdivDividesSpec : ChangeSpec := { name := "natdivDivides", fn := fun _ => fun
  | [d1, d2] => { results := [.lit (.bool true)], args := [d1, d2] }
  | _ => none }
def natdivDividesRow : OpenClaim := { program := "ytdpkfipkjdlmlaa", sum := "8df41f7bf54c5884b113e3e44f3ca3e0cc64603d853dd76f272c63124e4ad10d", func := "gnomon/gnomonlaw03.NatdivDivides", spec := "natdivDivides", inPlace := ["math/bits.Add64", "math/bits.Sub64"], recurses := true, named := ["math/bits.divideError", "math/bits.overflowError"], apart := false }
def NatdivDividesSaid : Prop := natdivDividesRow.holds Try.pinned (OpenSpec.ofChange natdivDividesSpec)

/-- ITS FALSE NEIGHBOUR: 'it returns false'. Refute it at one input. -/
def natdivDividesWrong : ChangeSpec := { name := "natdivDivides", fn := fun _ => fun
  | [d1, d2] => { results := [.lit (.bool false)], args := [d1, d2] }
  | _ => none }
def NatdivDividesWrongFalsely : Prop := natdivDividesRow.holds Try.pinned (OpenSpec.ofChange natdivDividesWrong)

/-- 'gnomonlaw03.NatdivSquares': WHATEVER THE INPUT: true; the input reads as it did. -/
def natdivSquaresSpec : ChangeSpec := { name := "natdivSquares", fn := fun _ => fun
  | [d] => { results := [.lit (.bool true)], args := [d] }
  | _ => none }
def natdivSquaresRow : OpenClaim := { program := "ytdpkfipkjdlmlaa", sum := "8df41f7bf54c5884b113e3e44f3ca3e0cc64603d853dd76f272c63124e4ad10d", func := "gnomon/gnomonlaw03.NatdivSquares", spec := "natdivSquares", inPlace := ["math/bits.Add64", "math/bits.Sub64"], recurses := true, named := ["math/bits.divideError", "math/bits.overflowError"], apart := false }
def NatdivSquaresSaid : Prop := natdivSquaresRow.holds Try.pinned (OpenSpec.ofChange natdivSquaresSpec)

/-- ITS FALSE NEIGHBOUR: 'it returns false'. Refute it at one input. -/
def natdivSquaresWrong : ChangeSpec := { name := "natdivSquares", fn := fun _ => fun
  | [d] => { results := [.lit (.bool false)], args := [d] }
  | _ => none }
def NatdivSquaresWrongFalsely : Prop := natdivSquaresRow.holds Try.pinned (OpenSpec.ofChange natdivSquaresWrong)

/-- 'gnomonlaw03.NatdivUndoes': WHATEVER THE INPUT: true; the input reads as it did. -/
def natdivUndoesSpec : ChangeSpec := { name := "natdivUndoes", fn := fun _ => fun
  | [d1, d2, d3] => { results := [.lit (.bool true)], args := [d1, d2, d3] }
  | _ => none }
def natdivUndoesRow : OpenClaim := { program := "ytdpkfipkjdlmlaa", sum := "8df41f7bf54c5884b113e3e44f3ca3e0cc64603d853dd76f272c63124e4ad10d", func := "gnomon/gnomonlaw03.NatdivUndoes", spec := "natdivUndoes", inPlace := ["math/bits.Add64", "math/bits.Sub64"], recurses := true, named := ["math/bits.divideError", "math/bits.overflowError"], apart := false }
def NatdivUndoesSaid : Prop := natdivUndoesRow.holds Try.pinned (OpenSpec.ofChange natdivUndoesSpec)

/-- ITS FALSE NEIGHBOUR: 'it returns false'. Refute it at one input. -/
def natdivUndoesWrong : ChangeSpec := { name := "natdivUndoes", fn := fun _ => fun
  | [d1, d2, d3] => { results := [.lit (.bool false)], args := [d1, d2, d3] }
  | _ => none }
def NatdivUndoesWrongFalsely : Prop := natdivUndoesRow.holds Try.pinned (OpenSpec.ofChange natdivUndoesWrong)

/-- 'gnomonlaw03.NatdivMemory': WHATEVER THE INPUT: true; the input reads as it did. -/
def natdivMemorySpec : ChangeSpec := { name := "natdivMemory", fn := fun _ => fun
  | [d1, d2] => { results := [.lit (.bool true)], args := [d1, d2] }
  | _ => none }
def natdivMemoryRow : OpenClaim := { program := "ytdpkfipkjdlmlaa", sum := "8df41f7bf54c5884b113e3e44f3ca3e0cc64603d853dd76f272c63124e4ad10d", func := "gnomon/gnomonlaw03.NatdivMemory", spec := "natdivMemory", inPlace := ["math/bits.Add64", "math/bits.Sub64"], recurses := true, named := ["math/bits.divideError", "math/bits.overflowError"], apart := false }
def NatdivMemorySaid : Prop := natdivMemoryRow.holds Try.pinned (OpenSpec.ofChange natdivMemorySpec)

/-- ITS FALSE NEIGHBOUR: 'it returns false'. Refute it at one input. -/
def natdivMemoryWrong : ChangeSpec := { name := "natdivMemory", fn := fun _ => fun
  | [d1, d2] => { results := [.lit (.bool false)], args := [d1, d2] }
  | _ => none }
def NatdivMemoryWrongFalsely : Prop := natdivMemoryRow.holds Try.pinned (OpenSpec.ofChange natdivMemoryWrong)

/-- 'gnomonlaw03.NatdivPlays': WHATEVER THE INPUT: true; the input reads as it did. -/
def natdivPlaysSpec : ChangeSpec := { name := "natdivPlays", fn := fun _ => fun
  | [d] => { results := [.lit (.bool true)], args := [d] }
  | _ => none }
def natdivPlaysRow : OpenClaim := { program := "ytdpkfipkjdlmlaa", sum := "8df41f7bf54c5884b113e3e44f3ca3e0cc64603d853dd76f272c63124e4ad10d", func := "gnomon/gnomonlaw03.NatdivPlays", spec := "natdivPlays", inPlace := ["math/bits.Add64", "math/bits.Sub64", "internal/abi.NoEscape"], recurses := true, named := ["math/bits.divideError", "math/bits.overflowError"], apart := false }
def NatdivPlaysSaid : Prop := natdivPlaysRow.holds Try.pinned (OpenSpec.ofChange natdivPlaysSpec)

/-- ITS FALSE NEIGHBOUR: 'it returns false'. Refute it at one input. -/
def natdivPlaysWrong : ChangeSpec := { name := "natdivPlays", fn := fun _ => fun
  | [d] => { results := [.lit (.bool false)], args := [d] }
  | _ => none }
def NatdivPlaysWrongFalsely : Prop := natdivPlaysRow.holds Try.pinned (OpenSpec.ofChange natdivPlaysWrong)

/-- 'gnomonlaw03.NatdivLimits': WHATEVER THE INPUT: true; the input reads as it did. -/
def natdivLimitsSpec : ChangeSpec := { name := "natdivLimits", fn := fun _ => fun
  | [] => { results := [.lit (.bool true)], args := [] }
  | _ => none }
def natdivLimitsRow : OpenClaim := { program := "ytdpkfipkjdlmlaa", sum := "8df41f7bf54c5884b113e3e44f3ca3e0cc64603d853dd76f272c63124e4ad10d", func := "gnomon/gnomonlaw03.NatdivLimits", spec := "natdivLimits", inPlace := ["math/bits.Add64", "internal/abi.NoEscape", "math/bits.Sub64"], recurses := true, named := ["math/bits.divideError", "math/bits.overflowError"], apart := false }
def NatdivLimitsSaid : Prop := natdivLimitsRow.holds Try.pinned (OpenSpec.ofChange natdivLimitsSpec)

/-- ITS FALSE NEIGHBOUR: 'it returns false'. Refute it at one input. -/
def natdivLimitsWrong : ChangeSpec := { name := "natdivLimits", fn := fun _ => fun
  | [] => { results := [.lit (.bool false)], args := [] }
  | _ => none }
def NatdivLimitsWrongFalsely : Prop := natdivLimitsRow.holds Try.pinned (OpenSpec.ofChange natdivLimitsWrong)

/- THE SECOND FORM. 'bulk': how many values and letters a reading holds, each counted each time it is reached (what is shared counts as often as it is met; a slice's spare places count too). A statement '..UptoSaid' is the law's where the arguments, and the package variables that the reading takes, are together of bulk at most 1048576: NARROWER than '..Said'. Prove '..Said' where nothing that the law and all that it calls make is longer than what came in: it says more and counts as full. Else prove '..UptoSaid'. A law counts once. -/
mutual
def uptoBulk {H : Type} : DataW H → Nat
  | .lit (.string bytes) => bytes.length + 1
  | .lit _ => 1
  | .nil => 1
  | .ptr d => uptoBulk d + 1
  | .slice elems spare => uptoBulkAll elems + uptoBulkAll spare + 1
  | .agg parts => uptoBulkAll parts + 1
  | .iface _ d => uptoBulk d + 1
  | .map entries => uptoBulkEntries entries + 1
  | .held _ => 1
def uptoBulkAll {H : Type} : List (DataW H) → Nat
  | [] => 0
  | d :: r => uptoBulk d + uptoBulkAll r
def uptoBulkEntries {H : Type} : List (Lit × DataW H) → Nat
  | [] => 0
  | x :: r => uptoBulkEntry x + uptoBulkEntries r
def uptoBulkEntry {H : Type} : Lit × DataW H → Nat
  | (.string bytes, d) => bytes.length + uptoBulk d + 1
  | (_, d) => uptoBulk d + 1
 end
def uptoSmall : (H : Type) → List (DataW H) → Bool := fun _ ds => decide (uptoBulkAll ds ≤ 1048576)
def OpenSpec.upto (s : _root_.Go.ChangeSpec) : _root_.Go.OpenSpec := { _root_.Go.OpenSpec.ofChange s with cond := some uptoSmall }

/-- 'gnomonlaw03.NatdivReads', WHERE WHAT IT READS IS OF BULK AT MOST 1048576: true; the input reads as it did. -/
def natdivReadsUptoRow : OpenClaim := { program := "ytdpkfipkjdlmlaa", sum := "8df41f7bf54c5884b113e3e44f3ca3e0cc64603d853dd76f272c63124e4ad10d", func := "gnomon/gnomonlaw03.NatdivReads", spec := "natdivReads", inPlace := ["math/bits.Add64"], apart := false, narrowed := true }
def NatdivReadsUptoSaid : Prop := natdivReadsUptoRow.holds Try.pinned (OpenSpec.upto natdivReadsSpec)

/-- 'gnomonlaw03.NatdivTexts', WHERE WHAT IT READS IS OF BULK AT MOST 1048576: true; the input reads as it did. -/
def natdivTextsUptoRow : OpenClaim := { program := "ytdpkfipkjdlmlaa", sum := "8df41f7bf54c5884b113e3e44f3ca3e0cc64603d853dd76f272c63124e4ad10d", func := "gnomon/gnomonlaw03.NatdivTexts", spec := "natdivTexts", inPlace := ["internal/abi.NoEscape"], named := ["math/bits.divideError", "math/bits.overflowError"], apart := false, narrowed := true }
def NatdivTextsUptoSaid : Prop := natdivTextsUptoRow.holds Try.pinned (OpenSpec.upto natdivTextsSpec)

/-- 'gnomonlaw03.NatdivReadsBack', WHERE WHAT IT READS IS OF BULK AT MOST 1048576: true; the input reads as it did. -/
def natdivReadsBackUptoRow : OpenClaim := { program := "ytdpkfipkjdlmlaa", sum := "8df41f7bf54c5884b113e3e44f3ca3e0cc64603d853dd76f272c63124e4ad10d", func := "gnomon/gnomonlaw03.NatdivReadsBack", spec := "natdivReadsBack", inPlace := ["internal/abi.NoEscape", "math/bits.Add64"], named := ["math/bits.divideError", "math/bits.overflowError"], apart := false, narrowed := true }
def NatdivReadsBackUptoSaid : Prop := natdivReadsBackUptoRow.holds Try.pinned (OpenSpec.upto natdivReadsBackSpec)

/-- 'gnomonlaw03.NatdivReadMemory', WHERE WHAT IT READS IS OF BULK AT MOST 1048576: true; the input reads as it did. -/
def natdivReadMemoryUptoRow : OpenClaim := { program := "ytdpkfipkjdlmlaa", sum := "8df41f7bf54c5884b113e3e44f3ca3e0cc64603d853dd76f272c63124e4ad10d", func := "gnomon/gnomonlaw03.NatdivReadMemory", spec := "natdivReadMemory", inPlace := ["math/bits.Add64", "internal/abi.NoEscape"], named := ["math/bits.divideError", "math/bits.overflowError"], apart := false, narrowed := true }
def NatdivReadMemoryUptoSaid : Prop := natdivReadMemoryUptoRow.holds Try.pinned (OpenSpec.upto natdivReadMemorySpec)

/-- 'gnomonlaw03.NatdivDivides', WHERE WHAT IT READS IS OF BULK AT MOST 1048576: true; the input reads as it did. -/
def natdivDividesUptoRow : OpenClaim := { program := "ytdpkfipkjdlmlaa", sum := "8df41f7bf54c5884b113e3e44f3ca3e0cc64603d853dd76f272c63124e4ad10d", func := "gnomon/gnomonlaw03.NatdivDivides", spec := "natdivDivides", inPlace := ["math/bits.Add64", "math/bits.Sub64"], recurses := true, named := ["math/bits.divideError", "math/bits.overflowError"], apart := false, narrowed := true }
def NatdivDividesUptoSaid : Prop := natdivDividesUptoRow.holds Try.pinned (OpenSpec.upto natdivDividesSpec)

/-- 'gnomonlaw03.NatdivSquares', WHERE WHAT IT READS IS OF BULK AT MOST 1048576: true; the input reads as it did. -/
def natdivSquaresUptoRow : OpenClaim := { program := "ytdpkfipkjdlmlaa", sum := "8df41f7bf54c5884b113e3e44f3ca3e0cc64603d853dd76f272c63124e4ad10d", func := "gnomon/gnomonlaw03.NatdivSquares", spec := "natdivSquares", inPlace := ["math/bits.Add64", "math/bits.Sub64"], recurses := true, named := ["math/bits.divideError", "math/bits.overflowError"], apart := false, narrowed := true }
def NatdivSquaresUptoSaid : Prop := natdivSquaresUptoRow.holds Try.pinned (OpenSpec.upto natdivSquaresSpec)

/-- 'gnomonlaw03.NatdivUndoes', WHERE WHAT IT READS IS OF BULK AT MOST 1048576: true; the input reads as it did. -/
def natdivUndoesUptoRow : OpenClaim := { program := "ytdpkfipkjdlmlaa", sum := "8df41f7bf54c5884b113e3e44f3ca3e0cc64603d853dd76f272c63124e4ad10d", func := "gnomon/gnomonlaw03.NatdivUndoes", spec := "natdivUndoes", inPlace := ["math/bits.Add64", "math/bits.Sub64"], recurses := true, named := ["math/bits.divideError", "math/bits.overflowError"], apart := false, narrowed := true }
def NatdivUndoesUptoSaid : Prop := natdivUndoesUptoRow.holds Try.pinned (OpenSpec.upto natdivUndoesSpec)

/-- 'gnomonlaw03.NatdivMemory', WHERE WHAT IT READS IS OF BULK AT MOST 1048576: true; the input reads as it did. -/
def natdivMemoryUptoRow : OpenClaim := { program := "ytdpkfipkjdlmlaa", sum := "8df41f7bf54c5884b113e3e44f3ca3e0cc64603d853dd76f272c63124e4ad10d", func := "gnomon/gnomonlaw03.NatdivMemory", spec := "natdivMemory", inPlace := ["math/bits.Add64", "math/bits.Sub64"], recurses := true, named := ["math/bits.divideError", "math/bits.overflowError"], apart := false, narrowed := true }
def NatdivMemoryUptoSaid : Prop := natdivMemoryUptoRow.holds Try.pinned (OpenSpec.upto natdivMemorySpec)

/-- 'gnomonlaw03.NatdivPlays', WHERE WHAT IT READS IS OF BULK AT MOST 1048576: true; the input reads as it did. -/
def natdivPlaysUptoRow : OpenClaim := { program := "ytdpkfipkjdlmlaa", sum := "8df41f7bf54c5884b113e3e44f3ca3e0cc64603d853dd76f272c63124e4ad10d", func := "gnomon/gnomonlaw03.NatdivPlays", spec := "natdivPlays", inPlace := ["math/bits.Add64", "math/bits.Sub64", "internal/abi.NoEscape"], recurses := true, named := ["math/bits.divideError", "math/bits.overflowError"], apart := false, narrowed := true }
def NatdivPlaysUptoSaid : Prop := natdivPlaysUptoRow.holds Try.pinned (OpenSpec.upto natdivPlaysSpec)

/-- 'gnomonlaw03.NatdivLimits', WHERE WHAT IT READS IS OF BULK AT MOST 1048576: true; the input reads as it did. -/
def natdivLimitsUptoRow : OpenClaim := { program := "ytdpkfipkjdlmlaa", sum := "8df41f7bf54c5884b113e3e44f3ca3e0cc64603d853dd76f272c63124e4ad10d", func := "gnomon/gnomonlaw03.NatdivLimits", spec := "natdivLimits", inPlace := ["math/bits.Add64", "internal/abi.NoEscape", "math/bits.Sub64"], recurses := true, named := ["math/bits.divideError", "math/bits.overflowError"], apart := false, narrowed := true }
def NatdivLimitsUptoSaid : Prop := natdivLimitsUptoRow.holds Try.pinned (OpenSpec.upto natdivLimitsSpec)

end Rows
end Go.Proofs.Ytdpkfipkjdlmlaa
