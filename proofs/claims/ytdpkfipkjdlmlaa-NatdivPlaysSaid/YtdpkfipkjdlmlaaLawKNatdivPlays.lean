/- The statement NatdivPlays: the law answers true whatever the input, and the input reads as it did. Conditions: none. -/
import Derived.Test.YtdpkfipkjdlmlaaRows
import Derived.Test.YtdpkfipkjdlmlaaKB
import Derived.Test.YtdpkfipkjdlmlaaKC1
namespace Go.Proofs.Ytdpkfipkjdlmlaa.natdivPlays
open Go.ChangeShapes Go.WideShapes Go.ChangeAt Go.RowKit
open Go.ChangeMaps (open_string shut_string)
set_option linter.unusedVariables false
theorem own : ownKnob Try.prog.godebug = none := by kernel_rfl
theorem laidOut : laidOutB Try.prog = true := by kernel_rfl
set_option maxRecDepth 100000 in
theorem lifted (os : Os) (started : os.Started) (H : Type) (enc : TypeId × Value → H) :
    ReturnsInHanded {} Try.checked os 11 .any (Rows.natdivPlaysSpec.pre6 enc Try.prog Try.f11 Rows.natdivPlaysRow.domain false) (Rows.natdivPlaysSpec.post enc Try.prog Try.f11 false true false false) := by
  refine returnsInHanded_of_change_sized (C := Try.checked) own started (by kernel_rfl) Try.func11
    (ChangeSpec.witness6 (enc := enc) (C := Try.checked) false ⟨#[], #[.slice none 0 0], []⟩ 8 (by kernel_rfl) (by kernel_rfl) (by kernel_rfl) (by kernel_rfl)) ?_
  intro W base args ds gs before hval0 hW hcnd hsz0 _
  have hsz : (DataW.weightsEach Try.prog (Try.f11.params.toList ++ Rows.natdivPlaysSpec.plain.varTypes Try.prog) (ds ++ gs)).all (· ≤ reachBytes) = true := hsz0
  have hval : ∀ (j : Nat) t v, Try.f11.params[j]? = some t → args[j]? = some v → Value.okWide Try.prog W .any base t v := hval0
  have hW' := hW
  obtain ⟨p, q, hA0, hV, rfl, hfz, hnd⟩ := hW
  have hA : DataW.TrodAll enc Try.prog W 0 (fun _ => true) true Try.f11.params.toList args.toList ds p := hA0
  rw [Try.params11] at hA hval hsz
  obtain ⟨v0, vs0, d0, ds0, p0, q0, hargs, rfl, rfl, h0, r0⟩ := trodAll_cons hA
  obtain ⟨rfl, rfl, rfl⟩ := trodAll_nil r0
  obtain rfl : args = #[v0] := by cases args; simp_all
  obtain ⟨rfl, rfl⟩ := trodVars_none hV
  have k0 := h0
  have lt0 : ∀ x ∈ p0, x.block < W.heap.size := by obtain ⟨m, hm⟩ := k0; exact DataW.trod_lt m _ _ _ hm
  obtain ⟨a0, l0, c0, rfl⟩ := okWide_slice Try.underlying53 (hval 0 53 v0 rfl rfl)
  obtain ⟨xs0, a0', c0', ev0, z0⟩ := Gv.arg_open (S := (Gv.saysList (Gv.saysCons (Gv.saysInt .i64) 1 (Gv.saysCons Gv.saysWords 1 (Gv.saysCons Gv.saysWords 1 (Gv.saysCons Gv.saysStr 1 Gv.saysEnd)))) 4 1954687338211)) (Gv.opens_list (sz := 4) (by_ := 72) (m := 1954687338211) Try.underlying53 (by kernel_rfl) (by kernel_rfl) (by decide) (by rfl) (Gv.opens_struct Try.underlying55 (by kernel_rfl) (Gv.opensFrom_at (i := 0) (o := 0) (sz := 1) (t := 3) (by kernel_rfl) (by kernel_rfl) (by decide) (Gv.opens_int Try.underlying3) (Gv.opensFrom_at (i := 1) (o := 1) (sz := 1) (t := 22) (by kernel_rfl) (by kernel_rfl) (by decide) (Gv.opens_words Try.underlying22 Try.underlying27 (by kernel_rfl) (by kernel_rfl)) (Gv.opensFrom_at (i := 2) (o := 2) (sz := 1) (t := 22) (by kernel_rfl) (by kernel_rfl) (by decide) (Gv.opens_words Try.underlying22 Try.underlying27 (by kernel_rfl) (by kernel_rfl)) (Gv.opensFrom_at (i := 3) (o := 3) (sz := 1) (t := 9) (by kernel_rfl) (by kernel_rfl) (by decide) (Gv.opens_str Try.underlying9) Gv.opensFrom_end)))))) h0 hsz (j := 0) rfl rfl
  simp only [Value.cells, List.cons.injEq, and_true, Value.slice.injEq] at ev0
  obtain ⟨rfl, rfl, rfl⟩ := ev0
  clear hA0 hval0 hsz0 hsz
  refine ((G.NatdivPlays_law z0 rfl) W rfl).mono fun e W' ⟨v, he, s, k, hv⟩ => ?_
  subst he
  subst hv
  have bel := Gv.below_of s k
  exact ⟨_, rfl, _, _, _, [], _, [], hW', trodAll_mk1 (shut_bool Try.underlying4 _), (trodAll_cons_mk (Below.trod laidOut (by kernel_rfl) (of_decide_eq_true (by kernel_rfl)) k0 bel lt0) trodAll_mk0), rfl, bel.frame _, fun h => by cases h⟩
theorem over : Rows.natdivPlaysRow.holds Try.pinned (OpenSpec.ofChange Rows.natdivPlaysSpec) :=
  OpenClaim.holds_of_wide 11 Try.f11 rfl rfl rfl rfl rfl rfl rfl ⟨rfl, rfl, rfl, rfl, rfl⟩ rfl rfl rfl rfl rfl (by kernel_rfl) Try.func11 (by kernel_rfl)
    (of_decide_eq_true (by kernel_rfl)) (by unfold Func.isWrapper; first | (rw [if_pos (by decide +kernel)]; kernel_rfl) | (rw [if_neg (by decide +kernel)]; exact ⟨rfl, rfl⟩))
    (fun os started H enc _ => lifted os started H enc)
end Go.Proofs.Ytdpkfipkjdlmlaa.natdivPlays
namespace Go.Proofs.Ytdpkfipkjdlmlaa
/-- The statement. -/
theorem natdivPlays_holds : Rows.NatdivPlaysSaid := natdivPlays.over
#print axioms natdivPlays_holds
end Go.Proofs.Ytdpkfipkjdlmlaa
