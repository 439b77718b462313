/- NatNames: the errors, limits, formats and functions have their numbers (a closed sentence: no conditions). -/
import Derived.Test.YtnbpbojcjihboaaPNatNamesx1
namespace Go.Proofs.Ytnbpbojcjihboaa.Pure
open Go.RowKit Go.Proofs.Ytnbpbojcjihboaa.PNatNames Go.Proofs.YtnbpbojcjihboaaW.PrintWords Go.Proofs.YtnbpbojcjihboaaW.PrintLast

/-- YOURS: ∃ k, gnomonlaw01_NatNames.f k  = some true
What it reaches (each with k first where it has rounds; `.mono`: more rounds tell the same; `.l0`, ..: its loops, with `.mono_l`): gnomonlaw01_NatNames.f -/
theorem NatNames : gnomonlaw01_NatNames.Pure := by
  refine ⟨16, ?_⟩
  simp [gnomonlaw01_NatNames.f, gnomonlaw01_NatNames.l0, rd, wrap64]

end Go.Proofs.Ytnbpbojcjihboaa.Pure
