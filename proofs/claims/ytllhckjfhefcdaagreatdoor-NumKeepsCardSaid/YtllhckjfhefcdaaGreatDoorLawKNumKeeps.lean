/- The statement NumKeeps: the law answers true whatever the input, and the input reads as it did. Conditions: none. -/
import Derived.Test.YtllhckjfhefcdaaGreatDoorRows
import Derived.Test.YtllhckjfhefcdaaGreatDoorTie
import Derived.Test.YtllhckjfhefcdaaGreatDoorCards
import Derived.ProofKit
import Derived.OpenShut
import Derived.LaidMore
import Derived.Lay
import Derived.SevenTiedAt
import Derived.Stop.Joined
import Derived.Test.YtllhckjfhefcdaaGreatDoorKB
import Derived.Test.YtllhckjfhefcdaaGreatDoorKC4
namespace Go.Proofs.YtllhckjfhefcdaaGreatDoor.numKeeps
open Go.ChangeShapes Go.WideShapes Go.ChangeAt Go.RowKit
open Go.ChangeMaps (open_string shut_string)
set_option linter.unusedVariables false
theorem own : ownKnob Tryz.prog.godebug = none := by kernel_rfl
theorem laidOut : laidOutB Tryz.prog = true := by kernel_rfl
theorem tab_of {W : World} (h : laidMetH Tryz.prog [("math/bits.deBruijn64tab", Rows.laid_math_bits_deBruijn64tab)] W) : G.gK W.heap := by
  intro r hr
  rw [MakeChecks.laidMetH_plain _ _ _ (by kernel_rfl)] at h
  obtain ⟨ps, ⟨g, t, cs, fuel, p, q, hg, ht, aU, aJ, _, _⟩, _, _⟩ := h
  obtain rfl := Option.some.inj ((show Tryz.prog.globalNamed "math/bits.deBruijn64tab" = some 0 by kernel_rfl).symm.trans hg)
  obtain rfl := Option.some.inj ((show (Tryz.prog.globals[0]?).map (·.type) = some 133 by kernel_rfl).symm.trans ht)
  obtain ⟨xs, m, _, ex, _, hl, hel⟩ := DataW.trod_array (show Tryz.prog.underlying 133 = some (.array 64 5) by kernel_rfl) aJ
  have c5 : Tryz.prog.cellsOf 5 = 1 := by kernel_rfl
  have hE := hel r hr
  rw [c5, Nat.mul_one, List.getElem?_eq_getElem (by omega)] at hE
  obtain ⟨z, e1, e2, _⟩ := DataW.trod_int (show Tryz.prog.underlying 5 = some (.int .u8) by kernel_rfl) hE
  have hlen : G.r9.length = 64 := by rfl
  have e3 : (xs.map (·.1)) = G.r9.map fun (n : Nat) => .lit (.int .u8 (n : Int)) := (DataW.agg.inj (Prod.mk.inj ex).1).symm
  have e4 : (xs.map (·.1))[r]? = (G.r9.map fun (n : Nat) => (DataW.lit (.int .u8 (n : Int)) : DataW Unit))[r]? := by rw [e3]
  rw [List.getElem?_map, List.getElem?_map, List.getElem?_eq_getElem (by omega : r < xs.length), List.getElem?_eq_getElem (by omega : r < G.r9.length), e2] at e4
  have hz : z = ((G.r9.getD r 0 : Nat) : Int) := by
    simp only [Option.map_some, Option.some.injEq, DataW.lit.injEq, Lit.int.injEq, true_and] at e4
    rw [e4, List.getD, List.getElem?_eq_getElem (by omega : r < G.r9.length)]; rfl
  show W.cell? ⟨0, r, none⟩ = _
  rw [World.var?_cell hg aU r, ← hz]
  have : cs.toList[r]? = some (.int .u8 z) := by
    have h0 : ((cs.toList.drop r).take 1)[0]? = some (.int .u8 z) := by rw [e1]; rfl
    simpa using h0
  simpa using this
set_option maxRecDepth 100000 in
theorem lifted (os : Os) (started : os.Started) (H : Type) (enc : TypeId × Value → H) :
    ReturnsInHanded {} Tryz.checked os 3 .any (fun w args => (Rows.numKeepsSpec.pre enc Tryz.prog Tryz.f3 Rows.numKeepsRow.domain false w args ∧ laidMetH Tryz.prog [("math/bits.deBruijn64tab", Rows.laid_math_bits_deBruijn64tab)] w) ∧ sizedMet enc Tryz.prog Tryz.f3 (OpenSpec.ofChange Rows.numKeepsSpec) false w args) (Rows.numKeepsSpec.post enc Tryz.prog Tryz.f3 false true false false) := by
  refine returnsInHanded_of_change_and (C := Tryz.checked) (X := fun w _ => laidMetH Tryz.prog [("math/bits.deBruijn64tab", Rows.laid_math_bits_deBruijn64tab)] w) (fun _ _ _ hh h => h.of_heap hh) own started (by kernel_rfl) Tryz.func3
    (ChangeSpec.witness_shaped (enc := enc) (C := Tryz.checked) (os := os) (X := fun w _ => laidMetH Tryz.prog [("math/bits.deBruijn64tab", Rows.laid_math_bits_deBruijn64tab)] w) false (World.laidAll Tryz.prog os [("math/bits.deBruijn64tab", Rows.laid_math_bits_deBruijn64tab)]) #[.slice none 0 0] 8 (World.laidAll_os _ _ _)
      (World.shaped_of_ZipB (by kernel_rfl) (by kernel_rfl)) (by kernel_rfl) (by kernel_rfl) (by kernel_rfl)
      (by rw [MakeChecks.laidMetH_plain _ _ _ (by kernel_rfl)]; exact laidMet_laidAll _ (by kernel_rfl) (by kernel_rfl))) ?_
  intro W base args ds gs before hval0 hW hcnd hsz0 hL _
  have hsz : (DataW.weightsEach Tryz.prog (Tryz.f3.params.toList ++ Rows.numKeepsSpec.plain.varTypes Tryz.prog) (ds ++ gs)).all (· ≤ reachBytes) = true := hsz0
  have hval : ∀ (j : Nat) t v, Tryz.f3.params[j]? = some t → args[j]? = some v → Value.okWide Tryz.prog W .any base t v := hval0
  have hW' := hW
  obtain ⟨p, q, hA0, hV, rfl, hfz, hnd⟩ := hW
  have hA : DataW.TrodAll enc Tryz.prog W 0 (fun _ => true) true Tryz.f3.params.toList args.toList ds p := hA0
  rw [Tryz.params3] at hA hval hsz
  obtain ⟨v0, vs0, d0, ds0, p0, q0, hargs, rfl, rfl, h0, r0⟩ := trodAll_cons hA
  obtain ⟨rfl, rfl, rfl⟩ := trodAll_nil r0
  obtain rfl : args = #[v0] := by cases args; simp_all
  obtain ⟨rfl, rfl⟩ := trodVars_none hV
  have aR := h0
  have lt0 : ∀ x ∈ p0, x.block < W.heap.size := by obtain ⟨m, hm⟩ := aR; exact DataW.trod_lt m _ _ _ hm
  obtain ⟨a0, l0, c0, rfl⟩ := okWide_slice Tryz.underlying22 (hval 0 22 v0 rfl rfl)
  obtain ⟨xs0, a0', c0', ev0, z0⟩ := Gv.Fw (dK := (Gv.Co (Gv.kI (Gv.u4 .i64) 1 (Gv.kI (Gv.kI Gv.u5 1 (Gv.kI Gv.v9 1 Gv.tH)) 2 (Gv.kI (Gv.kI Gv.u5 1 (Gv.kI Gv.v9 1 Gv.tH)) 2 (Gv.kI (Gv.u4 .i64) 1 Gv.tH)))) 6 1759218604390)) (Gv.Fu (eZ := 6) (hP := 80) (m := 1759218604390) Tryz.underlying22 (by kernel_rfl) (by kernel_rfl) (by decide) (by rfl) (Gv.Ah Tryz.underlying29 (by kernel_rfl) (Gv.rX (Q := 0) (q := 0) (eZ := 1) (t := 3) (by kernel_rfl) (by kernel_rfl) (by decide) (Gv.Cr Tryz.underlying3) (Gv.rX (Q := 1) (q := 1) (eZ := 2) (t := 25) (by kernel_rfl) (by kernel_rfl) (by decide) (Gv.Ah Tryz.underlying25 (by kernel_rfl) (Gv.rX (Q := 0) (q := 0) (eZ := 1) (t := 4) (by kernel_rfl) (by kernel_rfl) (by decide) (Gv.Cs Tryz.underlying4) (Gv.rX (Q := 1) (q := 1) (eZ := 1) (t := 23) (by kernel_rfl) (by kernel_rfl) (by decide) (Gv.Cu Tryz.underlying23 Tryz.underlying27 (by kernel_rfl) (by kernel_rfl)) Gv.Ag))) (Gv.rX (Q := 2) (q := 3) (eZ := 2) (t := 25) (by kernel_rfl) (by kernel_rfl) (by decide) (Gv.Ah Tryz.underlying25 (by kernel_rfl) (Gv.rX (Q := 0) (q := 0) (eZ := 1) (t := 4) (by kernel_rfl) (by kernel_rfl) (by decide) (Gv.Cs Tryz.underlying4) (Gv.rX (Q := 1) (q := 1) (eZ := 1) (t := 23) (by kernel_rfl) (by kernel_rfl) (by decide) (Gv.Cu Tryz.underlying23 Tryz.underlying27 (by kernel_rfl) (by kernel_rfl)) Gv.Ag))) (Gv.rX (Q := 3) (q := 5) (eZ := 1) (t := 3) (by kernel_rfl) (by kernel_rfl) (by decide) (Gv.Cr Tryz.underlying3) Gv.Ag)))))) h0 hsz (C := 0) rfl rfl
  simp only [Value.cells, List.cons.injEq, and_true, Value.slice.injEq] at ev0
  obtain ⟨rfl, rfl, rfl⟩ := ev0
  clear hA0 hval0 hsz0 hsz
  refine ((G.JG z0 rfl (tab_of hL)) W rfl).mono fun e W' ⟨v, he, s, k, aU⟩ => ?_
  subst he
  subst aU
  have bel := Gv.Fq s k
  exact ⟨_, rfl, _, _, _, [], _, [], hW', trodAll_mk1 (shut_bool Tryz.underlying4 _), (trodAll_cons_mk (Below.trod laidOut (by kernel_rfl) (of_decide_eq_true (by kernel_rfl)) aR bel lt0) trodAll_mk0), rfl, bel.frame _, fun h => by cases h⟩
theorem over : Rows.numKeepsRow.holds Tryz.pinned (OpenSpec.ofChange Rows.numKeepsSpec) :=
  OpenClaim.holds_of_wide 3 Tryz.f3 rfl rfl rfl rfl rfl rfl rfl ⟨rfl, rfl, rfl, rfl, rfl⟩ rfl rfl rfl rfl rfl (by kernel_rfl) Tryz.func3 (by kernel_rfl)
    (of_decide_eq_true (by kernel_rfl)) (by unfold Func.isWrapper; first | (rw [if_pos (by decide +kernel)]; kernel_rfl) | (rw [if_neg (by decide +kernel)]; exact ⟨rfl, rfl⟩))
    (fun os started H enc _ => lifted os started H enc)
end Go.Proofs.YtllhckjfhefcdaaGreatDoor.numKeeps
namespace Go.Proofs.YtllhckjfhefcdaaGreatDoor
theorem numKeeps_holds : Rows.NumKeepsCardSaid :=
  Claim7.holds_tied_plain_at .later [] [.data] true (true, "7e6bd4840b776e06b0aa60a5f979ebf1f76a33ba73b36d44525089d1e5bf693c") false numKeeps.over (fun _ h => by cases h) (by kernel_rfl) (fun _ h => by cases h) numKeeps_row_tie rfl ⟨rfl, rfl⟩ (by kernel_rfl) rfl
    (fun f fn dJ hfn => by
      obtain rfl : f = 3 := Option.some.inj ((show Tryz.prog.funcNamed "gnomon/gnomonlaw04.NumKeeps" = some 3 by kernel_rfl).symm.trans dJ) |>.symm
      obtain rfl : fn = Tryz.f3 := (Option.some.inj (Tryz.func3.symm.trans hfn)).symm
      exact ⟨by kernel_rfl, fun j t ht => by
        rw [Tryz.params3] at ht
        have hm : t ∈ [22] := by simpa using Array.mem_of_getElem? ht
        have hall : ([22].all fun u => !Tryz.prog.wantsStandIn u) = true := by kernel_rfl
        exact (show Tryz.prog.wantsStandIn t = false by simpa using List.all_eq_true.1 hall t hm)⟩)
    (by kernel_rfl)
#print axioms numKeeps_holds
end Go.Proofs.YtllhckjfhefcdaaGreatDoor
