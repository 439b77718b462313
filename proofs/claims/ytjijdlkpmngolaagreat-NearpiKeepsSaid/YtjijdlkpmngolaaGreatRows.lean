/-
  No cell of these rows narrows 'for every input' (looked for: loops, veiled, ifaces, maps, wideKeys, modest, calm, conditions, laid).
  DERIVED. THE GIVEN ROWS OF THIS SEAT. 8 by the template 'for every input the law returns true; each argument reads behind the call as it read before'; 0 by the template 'total and deterministic' (their statements: YtjijdlkpmngolaaGreatTotals.lean).
  GIVEN WITH THE SEED: the statements are not yours to turn. If you find one false, say at which input.
  Laid BY PROGRAM, IN A SANDBOX (cutbox-rows.mjs): the forced cells as the released guide's own fill.sh prints them over the translation 1525760559ed1f5b… (all of the seat's roots in one cut). By AI agents, Wed Nov 11 2026. No macro, syntax, notation, axiom, sorry.
-/
import Derived.Test.YtjijdlkpmngolaaGreatChecked
import GoSem.Claim
import GoSem.ClaimJoined
import GoSem.ClaimMapViews
import Derived.JoinedTies
import Derived.KernelRfl
namespace Go.Proofs.YtjijdlkpmngolaaGreat
/- THE CELL 'sum', in the pinned program and in every row, IS THE sha256 OF THE DUMP (.gsa) THAT YtjijdlkpmngolaaGreatProg.lean LOADS. Nothing in Lean hashes anything: it is a label: what it is worth is what the hold of that sum in a sandbox is worth. -/
noncomputable def Tryz.pinned : Pinned := { name := "ytjijdlkpmngolaagreat", sum := "1525760559ed1f5b84d5e27c4a60cf8ba351b7b01d8665112fc69d7aba4d41aa", checked := Tryz.checked }
namespace Rows
def none {H : Type} : Left H := { results := [], args := [] }

/-- 'gnomonlaw13.NearpiTerms': WHATEVER THE INPUT: true; the input reads as it did. -/
def nearpiTermsSpec : ChangeSpec := { name := "nearpiTerms", fn := fun _ => fun
  | [d] => { results := [.lit (.bool true)], args := [d] }
  | _ => none }
def nearpiTermsRow : OpenClaim := { program := "ytjijdlkpmngolaagreat", sum := "1525760559ed1f5b84d5e27c4a60cf8ba351b7b01d8665112fc69d7aba4d41aa", func := "gnomon/gnomonlaw13.NearpiTerms", spec := "nearpiTerms", inPlace := ["math/bits.Add64", "math/bits.Sub64"], unfollowed := true, recurses := true, named := ["math/bits.divideError", "math/bits.overflowError"], apart := false }
def NearpiTermsSaid : Prop := nearpiTermsRow.holds Tryz.pinned (OpenSpec.ofChange nearpiTermsSpec)

/-- ITS FALSE NEIGHBOUR: 'it returns false'. Refute it at one input. -/
def nearpiTermsWrong : ChangeSpec := { name := "nearpiTerms", fn := fun _ => fun
  | [d] => { results := [.lit (.bool false)], args := [d] }
  | _ => none }
def NearpiTermsWrongFalsely : Prop := nearpiTermsRow.holds Tryz.pinned (OpenSpec.ofChange nearpiTermsWrong)

/-- 'gnomonlaw13.NearpiConvergents': WHATEVER THE INPUT: true; the input reads as it did. -/
def nearpiConvergentsSpec : ChangeSpec := { name := "nearpiConvergents", fn := fun _ => fun
  | [d] => { results := [.lit (.bool true)], args := [d] }
  | _ => none }
def nearpiConvergentsRow : OpenClaim := { program := "ytjijdlkpmngolaagreat", sum := "1525760559ed1f5b84d5e27c4a60cf8ba351b7b01d8665112fc69d7aba4d41aa", func := "gnomon/gnomonlaw13.NearpiConvergents", spec := "nearpiConvergents", inPlace := ["math/bits.Add64", "math/bits.Sub64"], unfollowed := true, recurses := true, named := ["math/bits.divideError", "math/bits.overflowError"], apart := false }
def NearpiConvergentsSaid : Prop := nearpiConvergentsRow.holds Tryz.pinned (OpenSpec.ofChange nearpiConvergentsSpec)

/-- ITS FALSE NEIGHBOUR: 'it returns false'. Refute it at one input. -/
def nearpiConvergentsWrong : ChangeSpec := { name := "nearpiConvergents", fn := fun _ => fun
  | [d] => { results := [.lit (.bool false)], args := [d] }
  | _ => none }
def NearpiConvergentsWrongFalsely : Prop := nearpiConvergentsRow.holds Tryz.pinned (OpenSpec.ofChange nearpiConvergentsWrong)

/-- 'gnomonlaw13.NearpiNearests': WHATEVER THE INPUT: true; the input reads as it did. -/
def nearpiNearestsSpec : ChangeSpec := { name := "nearpiNearests", fn := fun _ => fun
  | [d1, d2] => { results := [.lit (.bool true)], args := [d1, d2] }
  | _ => none }
def nearpiNearestsRow : OpenClaim := { program := "ytjijdlkpmngolaagreat", sum := "1525760559ed1f5b84d5e27c4a60cf8ba351b7b01d8665112fc69d7aba4d41aa", func := "gnomon/gnomonlaw13.NearpiNearests", spec := "nearpiNearests", inPlace := ["math/bits.Add64", "math/bits.Sub64"], unfollowed := true, recurses := true, named := ["math/bits.divideError", "math/bits.overflowError"], apart := false }
def NearpiNearestsSaid : Prop := nearpiNearestsRow.holds Tryz.pinned (OpenSpec.ofChange nearpiNearestsSpec)

/-- ITS FALSE NEIGHBOUR: 'it returns false'. Refute it at one input. -/
def nearpiNearestsWrong : ChangeSpec := { name := "nearpiNearests", fn := fun _ => fun
  | [d1, d2] => { results := [.lit (.bool false)], args := [d1, d2] }
  | _ => none }
def NearpiNearestsWrongFalsely : Prop := nearpiNearestsRow.holds Tryz.pinned (OpenSpec.ofChange nearpiNearestsWrong)

/-- 'gnomonlaw13.NearpiAll': WHATEVER THE INPUT: true; the input reads as it did. -/
def nearpiAllSpec : ChangeSpec := { name := "nearpiAll", fn := fun _ => fun
  | [d] => { results := [.lit (.bool true)], args := [d] }
  | _ => none }
def nearpiAllRow : OpenClaim := { program := "ytjijdlkpmngolaagreat", sum := "1525760559ed1f5b84d5e27c4a60cf8ba351b7b01d8665112fc69d7aba4d41aa", func := "gnomon/gnomonlaw13.NearpiAll", spec := "nearpiAll", inPlace := ["math/bits.Add64", "math/bits.Sub64"], unfollowed := true, recurses := true, named := ["math/bits.divideError", "math/bits.overflowError"], apart := false }
def NearpiAllSaid : Prop := nearpiAllRow.holds Tryz.pinned (OpenSpec.ofChange nearpiAllSpec)

/-- ITS FALSE NEIGHBOUR: 'it returns false'. Refute it at one input. -/
def nearpiAllWrong : ChangeSpec := { name := "nearpiAll", fn := fun _ => fun
  | [d] => { results := [.lit (.bool false)], args := [d] }
  | _ => none }
def NearpiAllWrongFalsely : Prop := nearpiAllRow.holds Tryz.pinned (OpenSpec.ofChange nearpiAllWrong)

/-- 'gnomonlaw13.NearpiKeeps': WHATEVER THE INPUT: true; the input reads as it did. -/
def nearpiKeepsSpec : ChangeSpec := { name := "nearpiKeeps", fn := fun _ => fun
  | [d1, d2, d3, d4] => { results := [.lit (.bool true)], args := [d1, d2, d3, d4] }
  | _ => none }
def nearpiKeepsRow : OpenClaim := { program := "ytjijdlkpmngolaagreat", sum := "1525760559ed1f5b84d5e27c4a60cf8ba351b7b01d8665112fc69d7aba4d41aa", func := "gnomon/gnomonlaw13.NearpiKeeps", spec := "nearpiKeeps", inPlace := ["math/bits.Add64", "math/bits.Sub64"], unfollowed := true, recurses := true, named := ["math/bits.divideError", "math/bits.overflowError"], apart := false }
def NearpiKeepsSaid : Prop := nearpiKeepsRow.holds Tryz.pinned (OpenSpec.ofChange nearpiKeepsSpec)

/-- ITS FALSE NEIGHBOUR: 'it returns false'. Refute it at one input. -/
def nearpiKeepsWrong : ChangeSpec := { name := "nearpiKeeps", fn := fun _ => fun
  | [d1, d2, d3, d4] => { results := [.lit (.bool false)], args := [d1, d2, d3, d4] }
  | _ => none }
def NearpiKeepsWrongFalsely : Prop := nearpiKeepsRow.holds Tryz.pinned (OpenSpec.ofChange nearpiKeepsWrong)

/-- 'gnomonlaw13.NearpiNone': WHATEVER THE INPUT: true; the input reads as it did. -/
def nearpiNoneSpec : ChangeSpec := { name := "nearpiNone", fn := fun _ => fun
  | [d1, d2, d3] => { results := [.lit (.bool true)], args := [d1, d2, d3] }
  | _ => none }
def nearpiNoneRow : OpenClaim := { program := "ytjijdlkpmngolaagreat", sum := "1525760559ed1f5b84d5e27c4a60cf8ba351b7b01d8665112fc69d7aba4d41aa", func := "gnomon/gnomonlaw13.NearpiNone", spec := "nearpiNone", inPlace := ["math/bits.Add64", "math/bits.Sub64"], unfollowed := true, recurses := true, named := ["math/bits.divideError", "math/bits.overflowError"], apart := false }
def NearpiNoneSaid : Prop := nearpiNoneRow.holds Tryz.pinned (OpenSpec.ofChange nearpiNoneSpec)

/-- ITS FALSE NEIGHBOUR: 'it returns false'. Refute it at one input. -/
def nearpiNoneWrong : ChangeSpec := { name := "nearpiNone", fn := fun _ => fun
  | [d1, d2, d3] => { results := [.lit (.bool false)], args := [d1, d2, d3] }
  | _ => none }
def NearpiNoneWrongFalsely : Prop := nearpiNoneRow.holds Tryz.pinned (OpenSpec.ofChange nearpiNoneWrong)

/-- 'gnomonlaw13.NearpiEvery': WHATEVER THE INPUT: true; the input reads as it did. -/
def nearpiEverySpec : ChangeSpec := { name := "nearpiEvery", fn := fun _ => fun
  | [d1, d2] => { results := [.lit (.bool true)], args := [d1, d2] }
  | _ => none }
def nearpiEveryRow : OpenClaim := { program := "ytjijdlkpmngolaagreat", sum := "1525760559ed1f5b84d5e27c4a60cf8ba351b7b01d8665112fc69d7aba4d41aa", func := "gnomon/gnomonlaw13.NearpiEvery", spec := "nearpiEvery", inPlace := ["math/bits.Add64", "math/bits.Sub64"], unfollowed := true, recurses := true, named := ["math/bits.divideError", "math/bits.overflowError"], apart := false }
def NearpiEverySaid : Prop := nearpiEveryRow.holds Tryz.pinned (OpenSpec.ofChange nearpiEverySpec)

/-- ITS FALSE NEIGHBOUR: 'it returns false'. Refute it at one input. -/
def nearpiEveryWrong : ChangeSpec := { name := "nearpiEvery", fn := fun _ => fun
  | [d1, d2] => { results := [.lit (.bool false)], args := [d1, d2] }
  | _ => none }
def NearpiEveryWrongFalsely : Prop := nearpiEveryRow.holds Tryz.pinned (OpenSpec.ofChange nearpiEveryWrong)

/-- 'gnomonlaw13.NearpiKahan': WHATEVER THE INPUT: true; the input reads as it did. -/
def nearpiKahanSpec : ChangeSpec := { name := "nearpiKahan", fn := fun _ => fun
  | [d] => { results := [.lit (.bool true)], args := [d] }
  | _ => none }
def nearpiKahanRow : OpenClaim := { program := "ytjijdlkpmngolaagreat", sum := "1525760559ed1f5b84d5e27c4a60cf8ba351b7b01d8665112fc69d7aba4d41aa", func := "gnomon/gnomonlaw13.NearpiKahan", spec := "nearpiKahan", inPlace := ["math/bits.Add64", "math/bits.Sub64"], unfollowed := true, recurses := true, named := ["math/bits.divideError", "math/bits.overflowError"], apart := false }
def NearpiKahanSaid : Prop := nearpiKahanRow.holds Tryz.pinned (OpenSpec.ofChange nearpiKahanSpec)

/-- ITS FALSE NEIGHBOUR: 'it returns false'. Refute it at one input. -/
def nearpiKahanWrong : ChangeSpec := { name := "nearpiKahan", fn := fun _ => fun
  | [d] => { results := [.lit (.bool false)], args := [d] }
  | _ => none }
def NearpiKahanWrongFalsely : Prop := nearpiKahanRow.holds Tryz.pinned (OpenSpec.ofChange nearpiKahanWrong)

/- THE SECOND FORM. 'bulk': how many values and letters a reading holds, each counted each time it is reached (what is shared counts as often as it is met; a slice's spare places count too). A statement '..UptoSaid' is the law's where the arguments, and the package variables that the reading takes, are together of bulk at most 1048576: NARROWER than '..Said'. Prove '..Said' where nothing that the law and all that it calls make is longer than what came in: it says more and counts as full. Else prove '..UptoSaid'. A law counts once. -/
mutual
def uptoBulk {H : Type} : DataW H → Nat
  | .lit (.string bytes) => bytes.length + 1
  | .lit _ => 1
  | .nil => 1
  | .ptr d => uptoBulk d + 1
  | .slice elems spare => uptoBulkAll elems + uptoBulkAll spare + 1
  | .agg parts => uptoBulkAll parts + 1
  | .iface _ d => uptoBulk d + 1
  | .map entries => uptoBulkEntries entries + 1
  | .held _ => 1
def uptoBulkAll {H : Type} : List (DataW H) → Nat
  | [] => 0
  | d :: r => uptoBulk d + uptoBulkAll r
def uptoBulkEntries {H : Type} : List (Lit × DataW H) → Nat
  | [] => 0
  | x :: r => uptoBulkEntry x + uptoBulkEntries r
def uptoBulkEntry {H : Type} : Lit × DataW H → Nat
  | (.string bytes, d) => bytes.length + uptoBulk d + 1
  | (_, d) => uptoBulk d + 1
 end
def uptoSmall : (H : Type) → List (DataW H) → Bool := fun _ ds => decide (uptoBulkAll ds ≤ 1048576)
def OpenSpec.upto (s : _root_.Go.ChangeSpec) : _root_.Go.OpenSpec := { _root_.Go.OpenSpec.ofChange s with cond := some uptoSmall }

/-- 'gnomonlaw13.NearpiTerms', WHERE WHAT IT READS IS OF BULK AT MOST 1048576: true; the input reads as it did. -/
def nearpiTermsUptoRow : OpenClaim := { program := "ytjijdlkpmngolaagreat", sum := "1525760559ed1f5b84d5e27c4a60cf8ba351b7b01d8665112fc69d7aba4d41aa", func := "gnomon/gnomonlaw13.NearpiTerms", spec := "nearpiTerms", inPlace := ["math/bits.Add64", "math/bits.Sub64"], unfollowed := true, recurses := true, named := ["math/bits.divideError", "math/bits.overflowError"], apart := false, narrowed := true }
def NearpiTermsUptoSaid : Prop := nearpiTermsUptoRow.holds Tryz.pinned (OpenSpec.upto nearpiTermsSpec)

/-- 'gnomonlaw13.NearpiConvergents', WHERE WHAT IT READS IS OF BULK AT MOST 1048576: true; the input reads as it did. -/
def nearpiConvergentsUptoRow : OpenClaim := { program := "ytjijdlkpmngolaagreat", sum := "1525760559ed1f5b84d5e27c4a60cf8ba351b7b01d8665112fc69d7aba4d41aa", func := "gnomon/gnomonlaw13.NearpiConvergents", spec := "nearpiConvergents", inPlace := ["math/bits.Add64", "math/bits.Sub64"], unfollowed := true, recurses := true, named := ["math/bits.divideError", "math/bits.overflowError"], apart := false, narrowed := true }
def NearpiConvergentsUptoSaid : Prop := nearpiConvergentsUptoRow.holds Tryz.pinned (OpenSpec.upto nearpiConvergentsSpec)

/-- 'gnomonlaw13.NearpiNearests', WHERE WHAT IT READS IS OF BULK AT MOST 1048576: true; the input reads as it did. -/
def nearpiNearestsUptoRow : OpenClaim := { program := "ytjijdlkpmngolaagreat", sum := "1525760559ed1f5b84d5e27c4a60cf8ba351b7b01d8665112fc69d7aba4d41aa", func := "gnomon/gnomonlaw13.NearpiNearests", spec := "nearpiNearests", inPlace := ["math/bits.Add64", "math/bits.Sub64"], unfollowed := true, recurses := true, named := ["math/bits.divideError", "math/bits.overflowError"], apart := false, narrowed := true }
def NearpiNearestsUptoSaid : Prop := nearpiNearestsUptoRow.holds Tryz.pinned (OpenSpec.upto nearpiNearestsSpec)

/-- 'gnomonlaw13.NearpiAll', WHERE WHAT IT READS IS OF BULK AT MOST 1048576: true; the input reads as it did. -/
def nearpiAllUptoRow : OpenClaim := { program := "ytjijdlkpmngolaagreat", sum := "1525760559ed1f5b84d5e27c4a60cf8ba351b7b01d8665112fc69d7aba4d41aa", func := "gnomon/gnomonlaw13.NearpiAll", spec := "nearpiAll", inPlace := ["math/bits.Add64", "math/bits.Sub64"], unfollowed := true, recurses := true, named := ["math/bits.divideError", "math/bits.overflowError"], apart := false, narrowed := true }
def NearpiAllUptoSaid : Prop := nearpiAllUptoRow.holds Tryz.pinned (OpenSpec.upto nearpiAllSpec)

/-- 'gnomonlaw13.NearpiKeeps', WHERE WHAT IT READS IS OF BULK AT MOST 1048576: true; the input reads as it did. -/
def nearpiKeepsUptoRow : OpenClaim := { program := "ytjijdlkpmngolaagreat", sum := "1525760559ed1f5b84d5e27c4a60cf8ba351b7b01d8665112fc69d7aba4d41aa", func := "gnomon/gnomonlaw13.NearpiKeeps", spec := "nearpiKeeps", inPlace := ["math/bits.Add64", "math/bits.Sub64"], unfollowed := true, recurses := true, named := ["math/bits.divideError", "math/bits.overflowError"], apart := false, narrowed := true }
def NearpiKeepsUptoSaid : Prop := nearpiKeepsUptoRow.holds Tryz.pinned (OpenSpec.upto nearpiKeepsSpec)

/-- 'gnomonlaw13.NearpiNone', WHERE WHAT IT READS IS OF BULK AT MOST 1048576: true; the input reads as it did. -/
def nearpiNoneUptoRow : OpenClaim := { program := "ytjijdlkpmngolaagreat", sum := "1525760559ed1f5b84d5e27c4a60cf8ba351b7b01d8665112fc69d7aba4d41aa", func := "gnomon/gnomonlaw13.NearpiNone", spec := "nearpiNone", inPlace := ["math/bits.Add64", "math/bits.Sub64"], unfollowed := true, recurses := true, named := ["math/bits.divideError", "math/bits.overflowError"], apart := false, narrowed := true }
def NearpiNoneUptoSaid : Prop := nearpiNoneUptoRow.holds Tryz.pinned (OpenSpec.upto nearpiNoneSpec)

/-- 'gnomonlaw13.NearpiEvery', WHERE WHAT IT READS IS OF BULK AT MOST 1048576: true; the input reads as it did. -/
def nearpiEveryUptoRow : OpenClaim := { program := "ytjijdlkpmngolaagreat", sum := "1525760559ed1f5b84d5e27c4a60cf8ba351b7b01d8665112fc69d7aba4d41aa", func := "gnomon/gnomonlaw13.NearpiEvery", spec := "nearpiEvery", inPlace := ["math/bits.Add64", "math/bits.Sub64"], unfollowed := true, recurses := true, named := ["math/bits.divideError", "math/bits.overflowError"], apart := false, narrowed := true }
def NearpiEveryUptoSaid : Prop := nearpiEveryUptoRow.holds Tryz.pinned (OpenSpec.upto nearpiEverySpec)

/-- 'gnomonlaw13.NearpiKahan', WHERE WHAT IT READS IS OF BULK AT MOST 1048576: true; the input reads as it did. -/
def nearpiKahanUptoRow : OpenClaim := { program := "ytjijdlkpmngolaagreat", sum := "1525760559ed1f5b84d5e27c4a60cf8ba351b7b01d8665112fc69d7aba4d41aa", func := "gnomon/gnomonlaw13.NearpiKahan", spec := "nearpiKahan", inPlace := ["math/bits.Add64", "math/bits.Sub64"], unfollowed := true, recurses := true, named := ["math/bits.divideError", "math/bits.overflowError"], apart := false, narrowed := true }
def NearpiKahanUptoSaid : Prop := nearpiKahanUptoRow.holds Tryz.pinned (OpenSpec.upto nearpiKahanSpec)

end Rows
end Go.Proofs.YtjijdlkpmngolaaGreat
