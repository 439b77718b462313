/- The statement NearpiAll: the law answers true whatever the input, and the input reads as it did. Conditions: none. -/
import Derived.Test.YtjijdlkpmngolaaGreatRows
import Derived.Test.YtjijdlkpmngolaaGreatKB
import Derived.Test.YtjijdlkpmngolaaGreatKC3
import Derived.Test.YtjijdlkpmngolaaGreatKC4
namespace Go.Proofs.YtjijdlkpmngolaaGreat.nearpiAll
open Go.ChangeShapes Go.WideShapes Go.ChangeAt Go.RowKit
open Go.ChangeMaps (open_string shut_string)
set_option linter.unusedVariables false
theorem own : ownKnob Tryz.prog.godebug = none := by kernel_rfl
theorem laidOut : laidOutB Tryz.prog = true := by kernel_rfl
set_option maxRecDepth 100000 in
theorem lifted (os : Os) (started : os.Started) (H : Type) (enc : TypeId × Value → H) :
    ReturnsInHanded {} Tryz.checked os 6 .any (Rows.nearpiAllSpec.pre6 enc Tryz.prog Tryz.f6 Rows.nearpiAllRow.domain false) (Rows.nearpiAllSpec.post enc Tryz.prog Tryz.f6 false true false false) := by
  refine returnsInHanded_of_change_sized (C := Tryz.checked) own started (by kernel_rfl) Tryz.func6
    (ChangeSpec.witness6 (enc := enc) (C := Tryz.checked) false ⟨#[], #[.slice none 0 0], []⟩ 8 (by kernel_rfl) (by kernel_rfl) (by kernel_rfl) (by kernel_rfl)) ?_
  intro W base args ds gs before hval0 hW hcnd hsz0 _
  have hsz : (DataW.weightsEach Tryz.prog (Tryz.f6.params.toList ++ Rows.nearpiAllSpec.plain.varTypes Tryz.prog) (ds ++ gs)).all (· ≤ reachBytes) = true := hsz0
  have hval : ∀ (j : Nat) t v, Tryz.f6.params[j]? = some t → args[j]? = some v → Value.okWide Tryz.prog W .any base t v := hval0
  have hW' := hW
  obtain ⟨p, q, hA0, hV, rfl, hfz, hnd⟩ := hW
  have hA : DataW.TrodAll enc Tryz.prog W 0 (fun _ => true) true Tryz.f6.params.toList args.toList ds p := hA0
  rw [Tryz.params6] at hA hval hsz
  obtain ⟨v0, vs0, d0, ds0, p0, q0, hargs, rfl, rfl, h0, r0⟩ := trodAll_cons hA
  obtain ⟨rfl, rfl, rfl⟩ := trodAll_nil r0
  obtain rfl : args = #[v0] := by cases args; simp_all
  obtain ⟨rfl, rfl⟩ := trodVars_none hV
  have k0 := h0
  have lt0 : ∀ x ∈ p0, x.block < W.heap.size := by obtain ⟨m, hm⟩ := k0; exact DataW.trod_lt m _ _ _ hm
  obtain ⟨a0, l0, c0, rfl⟩ := okWide_slice Tryz.underlying28 (hval 0 28 v0 rfl rfl)
  obtain ⟨xs0, a0', c0', ev0, z0⟩ := Gv.II (c6 := (Gv.D4 (Gv.qE (Gv.rH .i64) 1 (Gv.qE (Gv.rH .i64) 1 (Gv.qE (Gv.rH .i64) 1 Gv.zG))) 3 5864062014634)) (Gv.ID (fI := 3) (hV := 24) (m := 5864062014634) Tryz.underlying28 (by kernel_rfl) (by kernel_rfl) (by decide) (by rfl) (Gv.IH Tryz.underlying25 (by kernel_rfl) (Gv.Bn (O := 0) (aN := 0) (fI := 1) (t := 3) (by kernel_rfl) (by kernel_rfl) (by decide) (Gv.Bl Tryz.underlying3) (Gv.Bn (O := 1) (aN := 1) (fI := 1) (t := 3) (by kernel_rfl) (by kernel_rfl) (by decide) (Gv.Bl Tryz.underlying3) (Gv.Bn (O := 2) (aN := 2) (fI := 1) (t := 3) (by kernel_rfl) (by kernel_rfl) (by decide) (Gv.Bl Tryz.underlying3) Gv.IF))))) h0 hsz (aC := 0) rfl rfl
  simp only [Value.cells, List.cons.injEq, and_true, Value.slice.injEq] at ev0
  obtain ⟨rfl, rfl, rfl⟩ := ev0
  clear hA0 hval0 hsz0 hsz
  refine ((G.NH z0 rfl) W rfl).mono fun e W' ⟨v, he, s, k, bW⟩ => ?_
  subst he
  subst bW
  have bel := Gv.w5 s k
  exact ⟨_, rfl, _, _, _, [], _, [], hW', trodAll_mk1 (shut_bool Tryz.underlying4 _), (trodAll_cons_mk (Below.trod laidOut (by kernel_rfl) (of_decide_eq_true (by kernel_rfl)) k0 bel lt0) trodAll_mk0), rfl, bel.frame _, fun h => by cases h⟩
theorem over : Rows.nearpiAllRow.holds Tryz.pinned (OpenSpec.ofChange Rows.nearpiAllSpec) :=
  OpenClaim.holds_of_wide 6 Tryz.f6 rfl rfl rfl rfl rfl rfl rfl ⟨rfl, rfl, rfl, rfl, rfl⟩ rfl rfl rfl rfl rfl (by kernel_rfl) Tryz.func6 (by kernel_rfl)
    (of_decide_eq_true (by kernel_rfl)) (by unfold Func.isWrapper; first | (rw [if_pos (by decide +kernel)]; kernel_rfl) | (rw [if_neg (by decide +kernel)]; exact ⟨rfl, rfl⟩))
    (fun os started H enc _ => lifted os started H enc)
end Go.Proofs.YtjijdlkpmngolaaGreat.nearpiAll
namespace Go.Proofs.YtjijdlkpmngolaaGreat
theorem nearpiAll_holds : Rows.NearpiAllSaid := nearpiAll.over
#print axioms nearpiAll_holds
end Go.Proofs.YtjijdlkpmngolaaGreat
