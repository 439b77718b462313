/- The statement NumQuotients: the law answers true whatever the input, and the input reads as it did. Conditions: none. -/
import Derived.Test.YtanlcacaihdceaaGreatDoorRows
import Derived.Test.YtanlcacaihdceaaGreatDoorTie
import Derived.Test.YtanlcacaihdceaaGreatDoorCards
import Derived.ProofKit
import Derived.OpenShut
import Derived.LaidMore
import Derived.Lay
import Derived.SevenTiedAt
import Derived.Stop.Joined
import Derived.Test.YtanlcacaihdceaaGreatDoorKB
import Derived.Test.YtanlcacaihdceaaGreatDoorKC2
namespace Go.Proofs.YtanlcacaihdceaaGreatDoor.numQuotients
open Go.ChangeShapes Go.WideShapes Go.ChangeAt Go.RowKit
open Go.ChangeMaps (open_string shut_string)
set_option linter.unusedVariables false
theorem own : ownKnob Tryz.prog.godebug = none := by kernel_rfl
theorem laidOut : laidOutB Tryz.prog = true := by kernel_rfl
theorem tab_of {W : World} (h : laidMetH Tryz.prog [("math/bits.deBruijn64tab", Rows.laid_math_bits_deBruijn64tab)] W) : G.Tab W.heap := by
  intro r hr
  rw [MakeChecks.laidMetH_plain _ _ _ (by kernel_rfl)] at h
  obtain ⟨ps, ⟨g, t, cs, fuel, p, q, hg, ht, hv, hd, _, _⟩, _, _⟩ := h
  obtain rfl := Option.some.inj ((show Tryz.prog.globalNamed "math/bits.deBruijn64tab" = some 0 by kernel_rfl).symm.trans hg)
  obtain rfl := Option.some.inj ((show (Tryz.prog.globals[0]?).map (·.type) = some 115 by kernel_rfl).symm.trans ht)
  obtain ⟨xs, m, _, ex, _, hl, hel⟩ := DataW.trod_array (show Tryz.prog.underlying 115 = some (.array 64 5) by kernel_rfl) hd
  have c5 : Tryz.prog.cellsOf 5 = 1 := by kernel_rfl
  have hE := hel r hr
  rw [c5, Nat.mul_one, List.getElem?_eq_getElem (by omega)] at hE
  obtain ⟨z, e1, e2, _⟩ := DataW.trod_int (show Tryz.prog.underlying 5 = some (.int .u8) by kernel_rfl) hE
  have hlen : G.dbTab.length = 64 := by rfl
  have e3 : (xs.map (·.1)) = G.dbTab.map fun (n : Nat) => .lit (.int .u8 (n : Int)) := (DataW.agg.inj (Prod.mk.inj ex).1).symm
  have e4 : (xs.map (·.1))[r]? = (G.dbTab.map fun (n : Nat) => (DataW.lit (.int .u8 (n : Int)) : DataW Unit))[r]? := by rw [e3]
  rw [List.getElem?_map, List.getElem?_map, List.getElem?_eq_getElem (by omega : r < xs.length), List.getElem?_eq_getElem (by omega : r < G.dbTab.length), e2] at e4
  have hz : z = ((G.dbTab.getD r 0 : Nat) : Int) := by
    simp only [Option.map_some, Option.some.injEq, DataW.lit.injEq, Lit.int.injEq, true_and] at e4
    rw [e4, List.getD, List.getElem?_eq_getElem (by omega : r < G.dbTab.length)]; rfl
  show W.cell? ⟨0, r, none⟩ = _
  rw [World.var?_cell hg hv r, ← hz]
  have : cs.toList[r]? = some (.int .u8 z) := by
    have h0 : ((cs.toList.drop r).take 1)[0]? = some (.int .u8 z) := by rw [e1]; rfl
    simpa using h0
  simpa using this
set_option maxRecDepth 100000 in
theorem lifted (os : Os) (started : os.Started) (H : Type) (enc : TypeId × Value → H) :
    ReturnsInHanded {} Tryz.checked os 6 .any (fun w args => (Rows.numQuotientsSpec.pre enc Tryz.prog Tryz.f6 Rows.numQuotientsRow.domain false w args ∧ laidMetH Tryz.prog [("math/bits.deBruijn64tab", Rows.laid_math_bits_deBruijn64tab)] w) ∧ sizedMet enc Tryz.prog Tryz.f6 (OpenSpec.ofChange Rows.numQuotientsSpec) false w args) (Rows.numQuotientsSpec.post enc Tryz.prog Tryz.f6 false true false false) := by
  refine returnsInHanded_of_change_and (C := Tryz.checked) (X := fun w _ => laidMetH Tryz.prog [("math/bits.deBruijn64tab", Rows.laid_math_bits_deBruijn64tab)] w) (fun _ _ _ hh h => h.of_heap hh) own started (by kernel_rfl) Tryz.func6
    (ChangeSpec.witness_shaped (enc := enc) (C := Tryz.checked) (os := os) (X := fun w _ => laidMetH Tryz.prog [("math/bits.deBruijn64tab", Rows.laid_math_bits_deBruijn64tab)] w) false (World.laidAll Tryz.prog os [("math/bits.deBruijn64tab", Rows.laid_math_bits_deBruijn64tab)]) #[.slice none 0 0] 8 (World.laidAll_os _ _ _)
      (World.shaped_of_ZipB (by kernel_rfl) (by kernel_rfl)) (by kernel_rfl) (by kernel_rfl) (by kernel_rfl)
      (by rw [MakeChecks.laidMetH_plain _ _ _ (by kernel_rfl)]; exact laidMet_laidAll _ (by kernel_rfl) (by kernel_rfl))) ?_
  intro W base args ds gs before hval0 hW hcnd hsz0 hL _
  have hsz : (DataW.weightsEach Tryz.prog (Tryz.f6.params.toList ++ Rows.numQuotientsSpec.plain.varTypes Tryz.prog) (ds ++ gs)).all (· ≤ reachBytes) = true := hsz0
  have hval : ∀ (j : Nat) t v, Tryz.f6.params[j]? = some t → args[j]? = some v → Value.okWide Tryz.prog W .any base t v := hval0
  have hW' := hW
  obtain ⟨p, q, hA0, hV, rfl, hfz, hnd⟩ := hW
  have hA : DataW.TrodAll enc Tryz.prog W 0 (fun _ => true) true Tryz.f6.params.toList args.toList ds p := hA0
  rw [Tryz.params6] at hA hval hsz
  obtain ⟨v0, vs0, d0, ds0, p0, q0, hargs, rfl, rfl, h0, r0⟩ := trodAll_cons hA
  obtain ⟨rfl, rfl, rfl⟩ := trodAll_nil r0
  obtain rfl : args = #[v0] := by cases args; simp_all
  obtain ⟨rfl, rfl⟩ := trodVars_none hV
  have k0 := h0
  have lt0 : ∀ x ∈ p0, x.block < W.heap.size := by obtain ⟨m, hm⟩ := k0; exact DataW.trod_lt m _ _ _ hm
  obtain ⟨a0, l0, c0, rfl⟩ := okWide_slice Tryz.underlying22 (hval 0 22 v0 rfl rfl)
  obtain ⟨xs0, a0', c0', ev0, z0⟩ := Gv.arg_open (S := (Gv.saysList (Gv.saysCons (Gv.saysInt .i64) 1 (Gv.saysCons (Gv.saysCons Gv.saysBool 1 (Gv.saysCons Gv.saysWords 1 Gv.saysEnd)) 2 (Gv.saysCons (Gv.saysCons Gv.saysBool 1 (Gv.saysCons Gv.saysWords 1 Gv.saysEnd)) 2 (Gv.saysCons (Gv.saysInt .i64) 1 Gv.saysEnd)))) 6 1759218604390)) (Gv.opens_list (sz := 6) (by_ := 80) (m := 1759218604390) Tryz.underlying22 (by kernel_rfl) (by kernel_rfl) (by decide) (by rfl) (Gv.opens_struct Tryz.underlying38 (by kernel_rfl) (Gv.opensFrom_at (i := 0) (o := 0) (sz := 1) (t := 3) (by kernel_rfl) (by kernel_rfl) (by decide) (Gv.opens_int Tryz.underlying3) (Gv.opensFrom_at (i := 1) (o := 1) (sz := 2) (t := 28) (by kernel_rfl) (by kernel_rfl) (by decide) (Gv.opens_struct Tryz.underlying28 (by kernel_rfl) (Gv.opensFrom_at (i := 0) (o := 0) (sz := 1) (t := 4) (by kernel_rfl) (by kernel_rfl) (by decide) (Gv.opens_bool Tryz.underlying4) (Gv.opensFrom_at (i := 1) (o := 1) (sz := 1) (t := 26) (by kernel_rfl) (by kernel_rfl) (by decide) (Gv.opens_words Tryz.underlying26 Tryz.underlying48 (by kernel_rfl) (by kernel_rfl)) Gv.opensFrom_end))) (Gv.opensFrom_at (i := 2) (o := 3) (sz := 2) (t := 28) (by kernel_rfl) (by kernel_rfl) (by decide) (Gv.opens_struct Tryz.underlying28 (by kernel_rfl) (Gv.opensFrom_at (i := 0) (o := 0) (sz := 1) (t := 4) (by kernel_rfl) (by kernel_rfl) (by decide) (Gv.opens_bool Tryz.underlying4) (Gv.opensFrom_at (i := 1) (o := 1) (sz := 1) (t := 26) (by kernel_rfl) (by kernel_rfl) (by decide) (Gv.opens_words Tryz.underlying26 Tryz.underlying48 (by kernel_rfl) (by kernel_rfl)) Gv.opensFrom_end))) (Gv.opensFrom_at (i := 3) (o := 5) (sz := 1) (t := 3) (by kernel_rfl) (by kernel_rfl) (by decide) (Gv.opens_int Tryz.underlying3) Gv.opensFrom_end)))))) h0 hsz (j := 0) rfl rfl
  simp only [Value.cells, List.cons.injEq, and_true, Value.slice.injEq] at ev0
  obtain ⟨rfl, rfl, rfl⟩ := ev0
  clear hA0 hval0 hsz0 hsz
  refine ((G.NumQuotients_law z0 rfl (tab_of hL)) W rfl).mono fun e W' ⟨v, he, s, k, hv⟩ => ?_
  subst he
  subst hv
  have bel := Gv.below_of s k
  exact ⟨_, rfl, _, _, _, [], _, [], hW', trodAll_mk1 (shut_bool Tryz.underlying4 _), (trodAll_cons_mk (Below.trod laidOut (by kernel_rfl) (of_decide_eq_true (by kernel_rfl)) k0 bel lt0) trodAll_mk0), rfl, bel.frame _, fun h => by cases h⟩
theorem over : Rows.numQuotientsRow.holds Tryz.pinned (OpenSpec.ofChange Rows.numQuotientsSpec) :=
  OpenClaim.holds_of_wide 6 Tryz.f6 rfl rfl rfl rfl rfl rfl rfl ⟨rfl, rfl, rfl, rfl, rfl⟩ rfl rfl rfl rfl rfl (by kernel_rfl) Tryz.func6 (by kernel_rfl)
    (of_decide_eq_true (by kernel_rfl)) (by unfold Func.isWrapper; first | (rw [if_pos (by decide +kernel)]; kernel_rfl) | (rw [if_neg (by decide +kernel)]; exact ⟨rfl, rfl⟩))
    (fun os started H enc _ => lifted os started H enc)
end Go.Proofs.YtanlcacaihdceaaGreatDoor.numQuotients
namespace Go.Proofs.YtanlcacaihdceaaGreatDoor
/-- The statement: the tied card. -/
theorem numQuotients_holds : Rows.NumQuotientsCardSaid :=
  Claim7.holds_tied_plain_at .later [] [.data] true (true, "c16a45155301207d3c5f4b9ac1f9eda41142fea2ac98101ea8bef24163a19df6") false numQuotients.over (fun _ h => by cases h) (by kernel_rfl) (fun _ h => by cases h) numQuotients_row_tie rfl ⟨rfl, rfl⟩ (by kernel_rfl) rfl
    (fun f fn hf hfn => by
      obtain rfl : f = 6 := Option.some.inj ((show Tryz.prog.funcNamed "gnomon/gnomonlaw04.NumQuotients" = some 6 by kernel_rfl).symm.trans hf) |>.symm
      obtain rfl : fn = Tryz.f6 := (Option.some.inj (Tryz.func6.symm.trans hfn)).symm
      exact ⟨by kernel_rfl, fun j t ht => by
        rw [Tryz.params6] at ht
        have hm : t ∈ [22] := by simpa using Array.mem_of_getElem? ht
        have hall : ([22].all fun u => !Tryz.prog.wantsStandIn u) = true := by kernel_rfl
        exact (show Tryz.prog.wantsStandIn t = false by simpa using List.all_eq_true.1 hall t hm)⟩)
    (by kernel_rfl)
#print axioms numQuotients_holds
end Go.Proofs.YtanlcacaihdceaaGreatDoor
