/-
  No cell of these rows narrows 'for every input' (looked for: loops, veiled, ifaces, maps, wideKeys, modest, calm, conditions, laid).
  DERIVED. THE GIVEN ROWS OF THIS SEAT. 10 by the template 'for every input the law returns true; each argument reads behind the call as it read before'; 0 by the template 'total and deterministic' (their statements: YtidpnpcnjfbjfaaTotals.lean).
  GIVEN WITH THE SEED: the statements are not yours to turn. If you find one false, say at which input.
  Laid BY PROGRAM, IN A SANDBOX (cutbox-rows.mjs): the forced cells as the released guide's own fill.sh prints them over the translation 0fcfb11b08c97013… (all of the seat's roots in one cut). By AI agents, Wed Nov 11 2026. No macro, syntax, notation, axiom, sorry.
-/
import Derived.Test.YtidpnpcnjfbjfaaChecked
import GoSem.Claim
import GoSem.ClaimJoined
import GoSem.ClaimMapViews
import Derived.JoinedTies
import Derived.KernelRfl
namespace Go.Proofs.Ytidpnpcnjfbjfaa
/- THE CELL 'sum', in the pinned program and in every row, IS THE sha256 OF THE DUMP (.gsa) THAT YtidpnpcnjfbjfaaProg.lean LOADS. Nothing in Lean hashes anything: it is a label: what it is worth is what the hold of that sum in a sandbox is worth. -/
noncomputable def Try.pinned : Pinned := { name := "ytidpnpcnjfbjfaa", sum := "0fcfb11b08c970132fe3cbf9f44e1c4f91235582e42ef4d3548bb3926ed74e47", checked := Try.checked }
namespace Rows
def none {H : Type} : Left H := { results := [], args := [] }

/-- 'gnomonlaw02.NatmulLists': WHATEVER THE INPUT: true; the input reads as it did. -/
def natmulListsSpec : ChangeSpec := { name := "natmulLists", fn := fun _ => fun
  | [d] => { results := [.lit (.bool true)], args := [d] }
  | _ => none }
def natmulListsRow : OpenClaim := { program := "ytidpnpcnjfbjfaa", sum := "0fcfb11b08c970132fe3cbf9f44e1c4f91235582e42ef4d3548bb3926ed74e47", func := "gnomon/gnomonlaw02.NatmulLists", spec := "natmulLists", inPlace := ["math/bits.Add64", "math/bits.Sub64"], recurses := true, apart := false }
def NatmulListsSaid : Prop := natmulListsRow.holds Try.pinned (OpenSpec.ofChange natmulListsSpec)

/-- ITS FALSE NEIGHBOUR: 'it returns false'. Refute it at one input. -/
def natmulListsWrong : ChangeSpec := { name := "natmulLists", fn := fun _ => fun
  | [d] => { results := [.lit (.bool false)], args := [d] }
  | _ => none }
def NatmulListsWrongFalsely : Prop := natmulListsRow.holds Try.pinned (OpenSpec.ofChange natmulListsWrong)

/-- 'gnomonlaw02.NatmulRing': WHATEVER THE INPUT: true; the input reads as it did. -/
def natmulRingSpec : ChangeSpec := { name := "natmulRing", fn := fun _ => fun
  | [d1, d2, d3] => { results := [.lit (.bool true)], args := [d1, d2, d3] }
  | _ => none }
def natmulRingRow : OpenClaim := { program := "ytidpnpcnjfbjfaa", sum := "0fcfb11b08c970132fe3cbf9f44e1c4f91235582e42ef4d3548bb3926ed74e47", func := "gnomon/gnomonlaw02.NatmulRing", spec := "natmulRing", inPlace := ["math/bits.Add64", "math/bits.Sub64"], recurses := true, apart := false }
def NatmulRingSaid : Prop := natmulRingRow.holds Try.pinned (OpenSpec.ofChange natmulRingSpec)

/-- ITS FALSE NEIGHBOUR: 'it returns false'. Refute it at one input. -/
def natmulRingWrong : ChangeSpec := { name := "natmulRing", fn := fun _ => fun
  | [d1, d2, d3] => { results := [.lit (.bool false)], args := [d1, d2, d3] }
  | _ => none }
def NatmulRingWrongFalsely : Prop := natmulRingRow.holds Try.pinned (OpenSpec.ofChange natmulRingWrong)

/-- 'gnomonlaw02.NatmulCasts': WHATEVER THE INPUT: true; the input reads as it did. -/
def natmulCastsSpec : ChangeSpec := { name := "natmulCasts", fn := fun _ => fun
  | [d] => { results := [.lit (.bool true)], args := [d] }
  | _ => none }
def natmulCastsRow : OpenClaim := { program := "ytidpnpcnjfbjfaa", sum := "0fcfb11b08c970132fe3cbf9f44e1c4f91235582e42ef4d3548bb3926ed74e47", func := "gnomon/gnomonlaw02.NatmulCasts", spec := "natmulCasts", inPlace := ["math/bits.Add64", "math/bits.Sub64"], recurses := true, apart := false }
def NatmulCastsSaid : Prop := natmulCastsRow.holds Try.pinned (OpenSpec.ofChange natmulCastsSpec)

/-- ITS FALSE NEIGHBOUR: 'it returns false'. Refute it at one input. -/
def natmulCastsWrong : ChangeSpec := { name := "natmulCasts", fn := fun _ => fun
  | [d] => { results := [.lit (.bool false)], args := [d] }
  | _ => none }
def NatmulCastsWrongFalsely : Prop := natmulCastsRow.holds Try.pinned (OpenSpec.ofChange natmulCastsWrong)

/-- 'gnomonlaw02.NatmulPowers': WHATEVER THE INPUT: true; the input reads as it did. -/
def natmulPowersSpec : ChangeSpec := { name := "natmulPowers", fn := fun _ => fun
  | [d1, d2, d3] => { results := [.lit (.bool true)], args := [d1, d2, d3] }
  | _ => none }
def natmulPowersRow : OpenClaim := { program := "ytidpnpcnjfbjfaa", sum := "0fcfb11b08c970132fe3cbf9f44e1c4f91235582e42ef4d3548bb3926ed74e47", func := "gnomon/gnomonlaw02.NatmulPowers", spec := "natmulPowers", inPlace := ["math/bits.Add64", "math/bits.Sub64"], recurses := true, apart := false }
def NatmulPowersSaid : Prop := natmulPowersRow.holds Try.pinned (OpenSpec.ofChange natmulPowersSpec)

/-- ITS FALSE NEIGHBOUR: 'it returns false'. Refute it at one input. -/
def natmulPowersWrong : ChangeSpec := { name := "natmulPowers", fn := fun _ => fun
  | [d1, d2, d3] => { results := [.lit (.bool false)], args := [d1, d2, d3] }
  | _ => none }
def NatmulPowersWrongFalsely : Prop := natmulPowersRow.holds Try.pinned (OpenSpec.ofChange natmulPowersWrong)

/-- 'gnomonlaw02.NatmulMuls': WHATEVER THE INPUT: true; the input reads as it did. -/
def natmulMulsSpec : ChangeSpec := { name := "natmulMuls", fn := fun _ => fun
  | [d] => { results := [.lit (.bool true)], args := [d] }
  | _ => none }
def natmulMulsRow : OpenClaim := { program := "ytidpnpcnjfbjfaa", sum := "0fcfb11b08c970132fe3cbf9f44e1c4f91235582e42ef4d3548bb3926ed74e47", func := "gnomon/gnomonlaw02.NatmulMuls", spec := "natmulMuls", inPlace := ["math/bits.Add64", "math/bits.Sub64"], recurses := true, apart := false }
def NatmulMulsSaid : Prop := natmulMulsRow.holds Try.pinned (OpenSpec.ofChange natmulMulsSpec)

/-- ITS FALSE NEIGHBOUR: 'it returns false'. Refute it at one input. -/
def natmulMulsWrong : ChangeSpec := { name := "natmulMuls", fn := fun _ => fun
  | [d] => { results := [.lit (.bool false)], args := [d] }
  | _ => none }
def NatmulMulsWrongFalsely : Prop := natmulMulsRow.holds Try.pinned (OpenSpec.ofChange natmulMulsWrong)

/-- 'gnomonlaw02.NatmulPows': WHATEVER THE INPUT: true; the input reads as it did. -/
def natmulPowsSpec : ChangeSpec := { name := "natmulPows", fn := fun _ => fun
  | [d] => { results := [.lit (.bool true)], args := [d] }
  | _ => none }
def natmulPowsRow : OpenClaim := { program := "ytidpnpcnjfbjfaa", sum := "0fcfb11b08c970132fe3cbf9f44e1c4f91235582e42ef4d3548bb3926ed74e47", func := "gnomon/gnomonlaw02.NatmulPows", spec := "natmulPows", inPlace := ["math/bits.Add64", "math/bits.Sub64"], recurses := true, apart := false }
def NatmulPowsSaid : Prop := natmulPowsRow.holds Try.pinned (OpenSpec.ofChange natmulPowsSpec)

/-- ITS FALSE NEIGHBOUR: 'it returns false'. Refute it at one input. -/
def natmulPowsWrong : ChangeSpec := { name := "natmulPows", fn := fun _ => fun
  | [d] => { results := [.lit (.bool false)], args := [d] }
  | _ => none }
def NatmulPowsWrongFalsely : Prop := natmulPowsRow.holds Try.pinned (OpenSpec.ofChange natmulPowsWrong)

/-- 'gnomonlaw02.NatmulParted': WHATEVER THE INPUT: true; the input reads as it did. -/
def natmulPartedSpec : ChangeSpec := { name := "natmulParted", fn := fun _ => fun
  | [d] => { results := [.lit (.bool true)], args := [d] }
  | _ => none }
def natmulPartedRow : OpenClaim := { program := "ytidpnpcnjfbjfaa", sum := "0fcfb11b08c970132fe3cbf9f44e1c4f91235582e42ef4d3548bb3926ed74e47", func := "gnomon/gnomonlaw02.NatmulParted", spec := "natmulParted", inPlace := ["math/bits.Add64", "math/bits.Sub64"], recurses := true, apart := false }
def NatmulPartedSaid : Prop := natmulPartedRow.holds Try.pinned (OpenSpec.ofChange natmulPartedSpec)

/-- ITS FALSE NEIGHBOUR: 'it returns false'. Refute it at one input. -/
def natmulPartedWrong : ChangeSpec := { name := "natmulParted", fn := fun _ => fun
  | [d] => { results := [.lit (.bool false)], args := [d] }
  | _ => none }
def NatmulPartedWrongFalsely : Prop := natmulPartedRow.holds Try.pinned (OpenSpec.ofChange natmulPartedWrong)

/-- 'gnomonlaw02.NatmulProducts': WHATEVER THE INPUT: true; the input reads as it did. -/
def natmulProductsSpec : ChangeSpec := { name := "natmulProducts", fn := fun _ => fun
  | [d] => { results := [.lit (.bool true)], args := [d] }
  | _ => none }
def natmulProductsRow : OpenClaim := { program := "ytidpnpcnjfbjfaa", sum := "0fcfb11b08c970132fe3cbf9f44e1c4f91235582e42ef4d3548bb3926ed74e47", func := "gnomon/gnomonlaw02.NatmulProducts", spec := "natmulProducts", inPlace := ["math/bits.Add64", "math/bits.Sub64"], recurses := true, apart := false }
def NatmulProductsSaid : Prop := natmulProductsRow.holds Try.pinned (OpenSpec.ofChange natmulProductsSpec)

/-- ITS FALSE NEIGHBOUR: 'it returns false'. Refute it at one input. -/
def natmulProductsWrong : ChangeSpec := { name := "natmulProducts", fn := fun _ => fun
  | [d] => { results := [.lit (.bool false)], args := [d] }
  | _ => none }
def NatmulProductsWrongFalsely : Prop := natmulProductsRow.holds Try.pinned (OpenSpec.ofChange natmulProductsWrong)

/-- 'gnomonlaw02.NatmulKeeps': WHATEVER THE INPUT: true; the input reads as it did. -/
def natmulKeepsSpec : ChangeSpec := { name := "natmulKeeps", fn := fun _ => fun
  | [d] => { results := [.lit (.bool true)], args := [d] }
  | _ => none }
def natmulKeepsRow : OpenClaim := { program := "ytidpnpcnjfbjfaa", sum := "0fcfb11b08c970132fe3cbf9f44e1c4f91235582e42ef4d3548bb3926ed74e47", func := "gnomon/gnomonlaw02.NatmulKeeps", spec := "natmulKeeps", inPlace := ["math/bits.Add64", "math/bits.Sub64"], recurses := true, apart := false }
def NatmulKeepsSaid : Prop := natmulKeepsRow.holds Try.pinned (OpenSpec.ofChange natmulKeepsSpec)

/-- ITS FALSE NEIGHBOUR: 'it returns false'. Refute it at one input. -/
def natmulKeepsWrong : ChangeSpec := { name := "natmulKeeps", fn := fun _ => fun
  | [d] => { results := [.lit (.bool false)], args := [d] }
  | _ => none }
def NatmulKeepsWrongFalsely : Prop := natmulKeepsRow.holds Try.pinned (OpenSpec.ofChange natmulKeepsWrong)

/-- 'gnomonlaw02.NatmulJoins': WHATEVER THE INPUT: true; the input reads as it did. -/
def natmulJoinsSpec : ChangeSpec := { name := "natmulJoins", fn := fun _ => fun
  | [d1, d2, d3] => { results := [.lit (.bool true)], args := [d1, d2, d3] }
  | _ => none }
def natmulJoinsRow : OpenClaim := { program := "ytidpnpcnjfbjfaa", sum := "0fcfb11b08c970132fe3cbf9f44e1c4f91235582e42ef4d3548bb3926ed74e47", func := "gnomon/gnomonlaw02.NatmulJoins", spec := "natmulJoins", inPlace := ["math/bits.Add64", "math/bits.Sub64"], recurses := true, apart := false }
def NatmulJoinsSaid : Prop := natmulJoinsRow.holds Try.pinned (OpenSpec.ofChange natmulJoinsSpec)

/-- ITS FALSE NEIGHBOUR: 'it returns false'. Refute it at one input. -/
def natmulJoinsWrong : ChangeSpec := { name := "natmulJoins", fn := fun _ => fun
  | [d1, d2, d3] => { results := [.lit (.bool false)], args := [d1, d2, d3] }
  | _ => none }
def NatmulJoinsWrongFalsely : Prop := natmulJoinsRow.holds Try.pinned (OpenSpec.ofChange natmulJoinsWrong)

/- THE SECOND FORM. 'bulk': how many values and letters a reading holds, each counted each time it is reached (what is shared counts as often as it is met; a slice's spare places count too). A statement '..UptoSaid' is the law's where the arguments, and the package variables that the reading takes, are together of bulk at most 1048576: NARROWER than '..Said'. Prove '..Said' where nothing that the law and all that it calls make is longer than what came in: it says more and counts as full. Else prove '..UptoSaid'. A law counts once. -/
mutual
def uptoBulk {H : Type} : DataW H → Nat
  | .lit (.string bytes) => bytes.length + 1
  | .lit _ => 1
  | .nil => 1
  | .ptr d => uptoBulk d + 1
  | .slice elems spare => uptoBulkAll elems + uptoBulkAll spare + 1
  | .agg parts => uptoBulkAll parts + 1
  | .iface _ d => uptoBulk d + 1
  | .map entries => uptoBulkEntries entries + 1
  | .held _ => 1
def uptoBulkAll {H : Type} : List (DataW H) → Nat
  | [] => 0
  | d :: r => uptoBulk d + uptoBulkAll r
def uptoBulkEntries {H : Type} : List (Lit × DataW H) → Nat
  | [] => 0
  | x :: r => uptoBulkEntry x + uptoBulkEntries r
def uptoBulkEntry {H : Type} : Lit × DataW H → Nat
  | (.string bytes, d) => bytes.length + uptoBulk d + 1
  | (_, d) => uptoBulk d + 1
 end
def uptoSmall : (H : Type) → List (DataW H) → Bool := fun _ ds => decide (uptoBulkAll ds ≤ 1048576)
def OpenSpec.upto (s : _root_.Go.ChangeSpec) : _root_.Go.OpenSpec := { _root_.Go.OpenSpec.ofChange s with cond := some uptoSmall }

/-- 'gnomonlaw02.NatmulLists', WHERE WHAT IT READS IS OF BULK AT MOST 1048576: true; the input reads as it did. -/
def natmulListsUptoRow : OpenClaim := { program := "ytidpnpcnjfbjfaa", sum := "0fcfb11b08c970132fe3cbf9f44e1c4f91235582e42ef4d3548bb3926ed74e47", func := "gnomon/gnomonlaw02.NatmulLists", spec := "natmulLists", inPlace := ["math/bits.Add64", "math/bits.Sub64"], recurses := true, apart := false, narrowed := true }
def NatmulListsUptoSaid : Prop := natmulListsUptoRow.holds Try.pinned (OpenSpec.upto natmulListsSpec)

/-- 'gnomonlaw02.NatmulRing', WHERE WHAT IT READS IS OF BULK AT MOST 1048576: true; the input reads as it did. -/
def natmulRingUptoRow : OpenClaim := { program := "ytidpnpcnjfbjfaa", sum := "0fcfb11b08c970132fe3cbf9f44e1c4f91235582e42ef4d3548bb3926ed74e47", func := "gnomon/gnomonlaw02.NatmulRing", spec := "natmulRing", inPlace := ["math/bits.Add64", "math/bits.Sub64"], recurses := true, apart := false, narrowed := true }
def NatmulRingUptoSaid : Prop := natmulRingUptoRow.holds Try.pinned (OpenSpec.upto natmulRingSpec)

/-- 'gnomonlaw02.NatmulCasts', WHERE WHAT IT READS IS OF BULK AT MOST 1048576: true; the input reads as it did. -/
def natmulCastsUptoRow : OpenClaim := { program := "ytidpnpcnjfbjfaa", sum := "0fcfb11b08c970132fe3cbf9f44e1c4f91235582e42ef4d3548bb3926ed74e47", func := "gnomon/gnomonlaw02.NatmulCasts", spec := "natmulCasts", inPlace := ["math/bits.Add64", "math/bits.Sub64"], recurses := true, apart := false, narrowed := true }
def NatmulCastsUptoSaid : Prop := natmulCastsUptoRow.holds Try.pinned (OpenSpec.upto natmulCastsSpec)

/-- 'gnomonlaw02.NatmulPowers', WHERE WHAT IT READS IS OF BULK AT MOST 1048576: true; the input reads as it did. -/
def natmulPowersUptoRow : OpenClaim := { program := "ytidpnpcnjfbjfaa", sum := "0fcfb11b08c970132fe3cbf9f44e1c4f91235582e42ef4d3548bb3926ed74e47", func := "gnomon/gnomonlaw02.NatmulPowers", spec := "natmulPowers", inPlace := ["math/bits.Add64", "math/bits.Sub64"], recurses := true, apart := false, narrowed := true }
def NatmulPowersUptoSaid : Prop := natmulPowersUptoRow.holds Try.pinned (OpenSpec.upto natmulPowersSpec)

/-- 'gnomonlaw02.NatmulMuls', WHERE WHAT IT READS IS OF BULK AT MOST 1048576: true; the input reads as it did. -/
def natmulMulsUptoRow : OpenClaim := { program := "ytidpnpcnjfbjfaa", sum := "0fcfb11b08c970132fe3cbf9f44e1c4f91235582e42ef4d3548bb3926ed74e47", func := "gnomon/gnomonlaw02.NatmulMuls", spec := "natmulMuls", inPlace := ["math/bits.Add64", "math/bits.Sub64"], recurses := true, apart := false, narrowed := true }
def NatmulMulsUptoSaid : Prop := natmulMulsUptoRow.holds Try.pinned (OpenSpec.upto natmulMulsSpec)

/-- 'gnomonlaw02.NatmulPows', WHERE WHAT IT READS IS OF BULK AT MOST 1048576: true; the input reads as it did. -/
def natmulPowsUptoRow : OpenClaim := { program := "ytidpnpcnjfbjfaa", sum := "0fcfb11b08c970132fe3cbf9f44e1c4f91235582e42ef4d3548bb3926ed74e47", func := "gnomon/gnomonlaw02.NatmulPows", spec := "natmulPows", inPlace := ["math/bits.Add64", "math/bits.Sub64"], recurses := true, apart := false, narrowed := true }
def NatmulPowsUptoSaid : Prop := natmulPowsUptoRow.holds Try.pinned (OpenSpec.upto natmulPowsSpec)

/-- 'gnomonlaw02.NatmulParted', WHERE WHAT IT READS IS OF BULK AT MOST 1048576: true; the input reads as it did. -/
def natmulPartedUptoRow : OpenClaim := { program := "ytidpnpcnjfbjfaa", sum := "0fcfb11b08c970132fe3cbf9f44e1c4f91235582e42ef4d3548bb3926ed74e47", func := "gnomon/gnomonlaw02.NatmulParted", spec := "natmulParted", inPlace := ["math/bits.Add64", "math/bits.Sub64"], recurses := true, apart := false, narrowed := true }
def NatmulPartedUptoSaid : Prop := natmulPartedUptoRow.holds Try.pinned (OpenSpec.upto natmulPartedSpec)

/-- 'gnomonlaw02.NatmulProducts', WHERE WHAT IT READS IS OF BULK AT MOST 1048576: true; the input reads as it did. -/
def natmulProductsUptoRow : OpenClaim := { program := "ytidpnpcnjfbjfaa", sum := "0fcfb11b08c970132fe3cbf9f44e1c4f91235582e42ef4d3548bb3926ed74e47", func := "gnomon/gnomonlaw02.NatmulProducts", spec := "natmulProducts", inPlace := ["math/bits.Add64", "math/bits.Sub64"], recurses := true, apart := false, narrowed := true }
def NatmulProductsUptoSaid : Prop := natmulProductsUptoRow.holds Try.pinned (OpenSpec.upto natmulProductsSpec)

/-- 'gnomonlaw02.NatmulKeeps', WHERE WHAT IT READS IS OF BULK AT MOST 1048576: true; the input reads as it did. -/
def natmulKeepsUptoRow : OpenClaim := { program := "ytidpnpcnjfbjfaa", sum := "0fcfb11b08c970132fe3cbf9f44e1c4f91235582e42ef4d3548bb3926ed74e47", func := "gnomon/gnomonlaw02.NatmulKeeps", spec := "natmulKeeps", inPlace := ["math/bits.Add64", "math/bits.Sub64"], recurses := true, apart := false, narrowed := true }
def NatmulKeepsUptoSaid : Prop := natmulKeepsUptoRow.holds Try.pinned (OpenSpec.upto natmulKeepsSpec)

/-- 'gnomonlaw02.NatmulJoins', WHERE WHAT IT READS IS OF BULK AT MOST 1048576: true; the input reads as it did. -/
def natmulJoinsUptoRow : OpenClaim := { program := "ytidpnpcnjfbjfaa", sum := "0fcfb11b08c970132fe3cbf9f44e1c4f91235582e42ef4d3548bb3926ed74e47", func := "gnomon/gnomonlaw02.NatmulJoins", spec := "natmulJoins", inPlace := ["math/bits.Add64", "math/bits.Sub64"], recurses := true, apart := false, narrowed := true }
def NatmulJoinsUptoSaid : Prop := natmulJoinsUptoRow.holds Try.pinned (OpenSpec.upto natmulJoinsSpec)

end Rows
end Go.Proofs.Ytidpnpcnjfbjfaa
