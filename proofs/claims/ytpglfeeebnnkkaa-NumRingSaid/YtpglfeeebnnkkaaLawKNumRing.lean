/- The statement NumRing: the law answers true whatever the input, and the input reads as it did. Conditions: none. -/
import Derived.Test.YtpglfeeebnnkkaaRows
import Derived.Test.YtpglfeeebnnkkaaKB
import Derived.Test.YtpglfeeebnnkkaaKC1
namespace Go.Proofs.Ytpglfeeebnnkkaa.numRing
open Go.ChangeShapes Go.WideShapes Go.ChangeAt Go.RowKit
open Go.ChangeMaps (open_string shut_string)
set_option linter.unusedVariables false
theorem own : ownKnob Try.prog.godebug = none := by kernel_rfl
theorem laidOut : laidOutB Try.prog = true := by kernel_rfl
set_option maxRecDepth 100000 in
theorem lifted (os : Os) (started : os.Started) (H : Type) (enc : TypeId × Value → H) :
    ReturnsInHanded {} Try.checked os 3 .any (Rows.numRingSpec.pre6 enc Try.prog Try.f3 Rows.numRingRow.domain false) (Rows.numRingSpec.post enc Try.prog Try.f3 false true false false) := by
  refine returnsInHanded_of_change_sized (C := Try.checked) own started (by kernel_rfl) Try.func3
    (ChangeSpec.witness6 (enc := enc) (C := Try.checked) false ⟨#[], #[.agg #[.bool false, .slice none 0 0], .agg #[.bool false, .slice none 0 0], .agg #[.bool false, .slice none 0 0]], []⟩ 8 (by kernel_rfl) (by kernel_rfl) (by kernel_rfl) (by kernel_rfl)) ?_
  intro W base args ds gs before hval0 hW hcnd hsz0 _
  have hsz : (DataW.weightsEach Try.prog (Try.f3.params.toList ++ Rows.numRingSpec.plain.varTypes Try.prog) (ds ++ gs)).all (· ≤ reachBytes) = true := hsz0
  have hval : ∀ (j : Nat) t v, Try.f3.params[j]? = some t → args[j]? = some v → Value.okWide Try.prog W .any base t v := hval0
  have hW' := hW
  obtain ⟨p, q, hA0, hV, rfl, hfz, hnd⟩ := hW
  have hA : DataW.TrodAll enc Try.prog W 0 (fun _ => true) true Try.f3.params.toList args.toList ds p := hA0
  rw [Try.params3] at hA hval hsz
  obtain ⟨v0, vs0, d0, ds0, p0, q0, hargs, rfl, rfl, h0, r0⟩ := trodAll_cons hA
  obtain ⟨v1, vs1, d1, ds1, p1, q1, rfl, rfl, rfl, h1, r1⟩ := trodAll_cons r0
  obtain ⟨v2, vs2, d2, ds2, p2, q2, rfl, rfl, rfl, h2, r2⟩ := trodAll_cons r1
  obtain ⟨rfl, rfl, rfl⟩ := trodAll_nil r2
  obtain rfl : args = #[v0, v1, v2] := by cases args; simp_all
  obtain ⟨rfl, rfl⟩ := trodVars_none hV
  have k0 := h0
  have lt0 : ∀ x ∈ p0, x.block < W.heap.size := by obtain ⟨m, hm⟩ := k0; exact DataW.trod_lt m _ _ _ hm
  obtain ⟨cs0, rfl, _⟩ := okWide_struct Try.underlying24 (hval 0 24 v0 rfl rfl)
  obtain ⟨xs0, z0⟩ := Gv.arg_open (S := (Gv.saysCons Gv.saysBool 1 (Gv.saysCons Gv.saysWords 1 Gv.saysEnd))) (Gv.opens_struct Try.underlying24 (by kernel_rfl) (Gv.opensFrom_at (i := 0) (o := 0) (sz := 1) (t := 4) (by kernel_rfl) (by kernel_rfl) (by decide) (Gv.opens_bool Try.underlying4) (Gv.opensFrom_at (i := 1) (o := 1) (sz := 1) (t := 22) (by kernel_rfl) (by kernel_rfl) (by decide) (Gv.opens_words Try.underlying22 Try.underlying53 (by kernel_rfl) (by kernel_rfl)) Gv.opensFrom_end))) h0 hsz (j := 0) rfl rfl
  have k1 := h1
  have lt1 : ∀ x ∈ p1, x.block < W.heap.size := by obtain ⟨m, hm⟩ := k1; exact DataW.trod_lt m _ _ _ hm
  obtain ⟨cs1, rfl, _⟩ := okWide_struct Try.underlying24 (hval 1 24 v1 rfl rfl)
  obtain ⟨xs1, z1⟩ := Gv.arg_open (S := (Gv.saysCons Gv.saysBool 1 (Gv.saysCons Gv.saysWords 1 Gv.saysEnd))) (Gv.opens_struct Try.underlying24 (by kernel_rfl) (Gv.opensFrom_at (i := 0) (o := 0) (sz := 1) (t := 4) (by kernel_rfl) (by kernel_rfl) (by decide) (Gv.opens_bool Try.underlying4) (Gv.opensFrom_at (i := 1) (o := 1) (sz := 1) (t := 22) (by kernel_rfl) (by kernel_rfl) (by decide) (Gv.opens_words Try.underlying22 Try.underlying53 (by kernel_rfl) (by kernel_rfl)) Gv.opensFrom_end))) h1 hsz (j := 1) rfl rfl
  have k2 := h2
  have lt2 : ∀ x ∈ p2, x.block < W.heap.size := by obtain ⟨m, hm⟩ := k2; exact DataW.trod_lt m _ _ _ hm
  obtain ⟨cs2, rfl, _⟩ := okWide_struct Try.underlying24 (hval 2 24 v2 rfl rfl)
  obtain ⟨xs2, z2⟩ := Gv.arg_open (S := (Gv.saysCons Gv.saysBool 1 (Gv.saysCons Gv.saysWords 1 Gv.saysEnd))) (Gv.opens_struct Try.underlying24 (by kernel_rfl) (Gv.opensFrom_at (i := 0) (o := 0) (sz := 1) (t := 4) (by kernel_rfl) (by kernel_rfl) (by decide) (Gv.opens_bool Try.underlying4) (Gv.opensFrom_at (i := 1) (o := 1) (sz := 1) (t := 22) (by kernel_rfl) (by kernel_rfl) (by decide) (Gv.opens_words Try.underlying22 Try.underlying53 (by kernel_rfl) (by kernel_rfl)) Gv.opensFrom_end))) h2 hsz (j := 2) rfl rfl
  clear hA0 hval0 hsz0 hsz
  refine ((G.NumRing_law z0 z1 z2) W rfl).mono fun e W' ⟨v, he, s, k, hv⟩ => ?_
  subst he
  subst hv
  have bel := Gv.below_of s k
  exact ⟨_, rfl, _, _, _, [], _, [], hW', trodAll_mk1 (shut_bool Try.underlying4 _), (trodAll_cons_mk (Below.trod laidOut (by kernel_rfl) (of_decide_eq_true (by kernel_rfl)) k0 bel lt0) (trodAll_cons_mk (Below.trod laidOut (by kernel_rfl) (of_decide_eq_true (by kernel_rfl)) k1 bel lt1) (trodAll_cons_mk (Below.trod laidOut (by kernel_rfl) (of_decide_eq_true (by kernel_rfl)) k2 bel lt2) trodAll_mk0))), rfl, bel.frame _, fun h => by cases h⟩
theorem over : Rows.numRingRow.holds Try.pinned (OpenSpec.ofChange Rows.numRingSpec) :=
  OpenClaim.holds_of_wide 3 Try.f3 rfl rfl rfl rfl rfl rfl rfl ⟨rfl, rfl, rfl, rfl, rfl⟩ rfl rfl rfl rfl rfl (by kernel_rfl) Try.func3 (by kernel_rfl)
    (of_decide_eq_true (by kernel_rfl)) (by unfold Func.isWrapper; first | (rw [if_pos (by decide +kernel)]; kernel_rfl) | (rw [if_neg (by decide +kernel)]; exact ⟨rfl, rfl⟩))
    (fun os started H enc _ => lifted os started H enc)
end Go.Proofs.Ytpglfeeebnnkkaa.numRing
namespace Go.Proofs.Ytpglfeeebnnkkaa
/-- The statement. -/
theorem numRing_holds : Rows.NumRingSaid := numRing.over
#print axioms numRing_holds
end Go.Proofs.Ytpglfeeebnnkkaa
