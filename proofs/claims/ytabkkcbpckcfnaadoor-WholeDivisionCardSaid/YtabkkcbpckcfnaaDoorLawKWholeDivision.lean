/- The statement WholeDivision: the law answers true whatever the input, and the input reads as it did. Conditions: none. -/
import Derived.Test.YtabkkcbpckcfnaaDoorRows
import Derived.Test.YtabkkcbpckcfnaaDoorTie
import Derived.Test.YtabkkcbpckcfnaaDoorCards
import Derived.ProofKit
import Derived.OpenShut
import Derived.LaidMore
import Derived.Lay
import Derived.SevenTiedAt
import Derived.Stop.Joined
import Derived.Test.YtabkkcbpckcfnaaDoorKB
import Derived.Test.YtabkkcbpckcfnaaDoorKC2
namespace Go.Proofs.YtabkkcbpckcfnaaDoor.wholeDivision
open Go.ChangeShapes Go.WideShapes Go.ChangeAt Go.RowKit
open Go.ChangeMaps (open_string shut_string)
set_option linter.unusedVariables false
theorem own : ownKnob Tryd.prog.godebug = none := by kernel_rfl
theorem laidOut : laidOutB Tryd.prog = true := by kernel_rfl
theorem tab_of {W : World} (h : laidMetH Tryd.prog [("math/bits.deBruijn64tab", Rows.laid_math_bits_deBruijn64tab)] W) : G.Tab W.heap := by
  intro r hr
  rw [MakeChecks.laidMetH_plain _ _ _ (by kernel_rfl)] at h
  obtain ⟨ps, ⟨g, t, cs, fuel, p, q, hg, ht, hv, hd, _, _⟩, _, _⟩ := h
  obtain rfl := Option.some.inj ((show Tryd.prog.globalNamed "math/bits.deBruijn64tab" = some 2 by kernel_rfl).symm.trans hg)
  obtain rfl := Option.some.inj ((show (Tryd.prog.globals[2]?).map (·.type) = some 96 by kernel_rfl).symm.trans ht)
  obtain ⟨xs, m, _, ex, _, hl, hel⟩ := DataW.trod_array (show Tryd.prog.underlying 96 = some (.array 64 5) by kernel_rfl) hd
  have c5 : Tryd.prog.cellsOf 5 = 1 := by kernel_rfl
  have hE := hel r hr
  rw [c5, Nat.mul_one, List.getElem?_eq_getElem (by omega)] at hE
  obtain ⟨z, e1, e2, _⟩ := DataW.trod_int (show Tryd.prog.underlying 5 = some (.int .u8) by kernel_rfl) hE
  have hlen : G.dbTab.length = 64 := by rfl
  have e3 : (xs.map (·.1)) = G.dbTab.map fun (n : Nat) => .lit (.int .u8 (n : Int)) := (DataW.agg.inj (Prod.mk.inj ex).1).symm
  have e4 : (xs.map (·.1))[r]? = (G.dbTab.map fun (n : Nat) => (DataW.lit (.int .u8 (n : Int)) : DataW Unit))[r]? := by rw [e3]
  rw [List.getElem?_map, List.getElem?_map, List.getElem?_eq_getElem (by omega : r < xs.length), List.getElem?_eq_getElem (by omega : r < G.dbTab.length), e2] at e4
  have hz : z = ((G.dbTab.getD r 0 : Nat) : Int) := by
    simp only [Option.map_some, Option.some.injEq, DataW.lit.injEq, Lit.int.injEq, true_and] at e4
    rw [e4, List.getD, List.getElem?_eq_getElem (by omega : r < G.dbTab.length)]; rfl
  show W.cell? ⟨2, r, none⟩ = _
  rw [World.var?_cell hg hv r, ← hz]
  have : cs.toList[r]? = some (.int .u8 z) := by
    have h0 : ((cs.toList.drop r).take 1)[0]? = some (.int .u8 z) := by rw [e1]; rfl
    simpa using h0
  simpa using this
set_option maxRecDepth 100000 in
theorem lifted (os : Os) (started : os.Started) (H : Type) (enc : TypeId × Value → H) :
    ReturnsInHanded {} Tryd.checked os 3 .any (fun w args => (Rows.wholeDivisionSpec.pre enc Tryd.prog Tryd.f3 Rows.wholeDivisionRow.domain false w args ∧ laidMetH Tryd.prog [("math/bits.deBruijn64tab", Rows.laid_math_bits_deBruijn64tab)] w) ∧ sizedMet enc Tryd.prog Tryd.f3 (OpenSpec.ofChange Rows.wholeDivisionSpec) false w args) (Rows.wholeDivisionSpec.post enc Tryd.prog Tryd.f3 false true false false) := by
  refine returnsInHanded_of_change_and (C := Tryd.checked) (X := fun w _ => laidMetH Tryd.prog [("math/bits.deBruijn64tab", Rows.laid_math_bits_deBruijn64tab)] w) (fun _ _ _ hh h => h.of_heap hh) own started (by kernel_rfl) Tryd.func3
    (ChangeSpec.witness_shaped (enc := enc) (C := Tryd.checked) (os := os) (X := fun w _ => laidMetH Tryd.prog [("math/bits.deBruijn64tab", Rows.laid_math_bits_deBruijn64tab)] w) false (World.laidAll Tryd.prog os [("math/bits.deBruijn64tab", Rows.laid_math_bits_deBruijn64tab)]) #[.agg #[.slice none 0 0, .slice none 0 0, .bool false, .bool false, .int .i64 0]] 8 (World.laidAll_os _ _ _)
      (World.shaped_of_ZipB (by kernel_rfl) (by kernel_rfl)) (by kernel_rfl) (by kernel_rfl) (by kernel_rfl)
      (by rw [MakeChecks.laidMetH_plain _ _ _ (by kernel_rfl)]; exact laidMet_laidAll _ (by kernel_rfl) (by kernel_rfl))) ?_
  intro W base args ds gs before hval0 hW hcnd hsz0 hL _
  have hsz : (DataW.weightsEach Tryd.prog (Tryd.f3.params.toList ++ Rows.wholeDivisionSpec.plain.varTypes Tryd.prog) (ds ++ gs)).all (· ≤ reachBytes) = true := hsz0
  have hval : ∀ (j : Nat) t v, Tryd.f3.params[j]? = some t → args[j]? = some v → Value.okWide Tryd.prog W .any base t v := hval0
  have hW' := hW
  obtain ⟨p, q, hA0, hV, rfl, hfz, hnd⟩ := hW
  have hA : DataW.TrodAll enc Tryd.prog W 0 (fun _ => true) true Tryd.f3.params.toList args.toList ds p := hA0
  rw [Tryd.params3] at hA hval hsz
  obtain ⟨v0, vs0, d0, ds0, p0, q0, hargs, rfl, rfl, h0, r0⟩ := trodAll_cons hA
  obtain ⟨rfl, rfl, rfl⟩ := trodAll_nil r0
  obtain rfl : args = #[v0] := by cases args; simp_all
  obtain ⟨rfl, rfl⟩ := trodVars_none hV
  have k0 := h0
  have lt0 : ∀ x ∈ p0, x.block < W.heap.size := by obtain ⟨m, hm⟩ := k0; exact DataW.trod_lt m _ _ _ hm
  obtain ⟨cs0, rfl, _⟩ := okWide_struct Tryd.underlying24 (hval 0 24 v0 rfl rfl)
  obtain ⟨xs0, z0⟩ := Gv.arg_open (S := (Gv.saysCons Gv.saysWords 1 (Gv.saysCons Gv.saysWords 1 (Gv.saysCons Gv.saysBool 1 (Gv.saysCons Gv.saysBool 1 (Gv.saysCons (Gv.saysInt .i64) 1 Gv.saysEnd)))))) (Gv.opens_struct Tryd.underlying24 (by kernel_rfl) (Gv.opensFrom_at (i := 0) (o := 0) (sz := 1) (t := 22) (by kernel_rfl) (by kernel_rfl) (by decide) (Gv.opens_words Tryd.underlying22 Tryd.underlying28 (by kernel_rfl) (by kernel_rfl)) (Gv.opensFrom_at (i := 1) (o := 1) (sz := 1) (t := 22) (by kernel_rfl) (by kernel_rfl) (by decide) (Gv.opens_words Tryd.underlying22 Tryd.underlying28 (by kernel_rfl) (by kernel_rfl)) (Gv.opensFrom_at (i := 2) (o := 2) (sz := 1) (t := 4) (by kernel_rfl) (by kernel_rfl) (by decide) (Gv.opens_bool Tryd.underlying4) (Gv.opensFrom_at (i := 3) (o := 3) (sz := 1) (t := 4) (by kernel_rfl) (by kernel_rfl) (by decide) (Gv.opens_bool Tryd.underlying4) (Gv.opensFrom_at (i := 4) (o := 4) (sz := 1) (t := 3) (by kernel_rfl) (by kernel_rfl) (by decide) (Gv.opens_int Tryd.underlying3) Gv.opensFrom_end)))))) h0 hsz (j := 0) rfl rfl
  clear hA0 hval0 hsz0 hsz
  refine ((G.WholeDivision_law z0 (tab_of hL)) W rfl).mono fun e W' ⟨v, he, s, k, hv⟩ => ?_
  subst he
  subst hv
  have bel := Gv.below_of s k
  exact ⟨_, rfl, _, _, _, [], _, [], hW', trodAll_mk1 (shut_bool Tryd.underlying4 _), (trodAll_cons_mk (Below.trod laidOut (by kernel_rfl) (of_decide_eq_true (by kernel_rfl)) k0 bel lt0) trodAll_mk0), rfl, bel.frame _, fun h => by cases h⟩
theorem over : Rows.wholeDivisionRow.holds Tryd.pinned (OpenSpec.ofChange Rows.wholeDivisionSpec) :=
  OpenClaim.holds_of_wide 3 Tryd.f3 rfl rfl rfl rfl rfl rfl rfl ⟨rfl, rfl, rfl, rfl, rfl⟩ rfl rfl rfl rfl rfl (by kernel_rfl) Tryd.func3 (by kernel_rfl)
    (of_decide_eq_true (by kernel_rfl)) (by unfold Func.isWrapper; first | (rw [if_pos (by decide +kernel)]; kernel_rfl) | (rw [if_neg (by decide +kernel)]; exact ⟨rfl, rfl⟩))
    (fun os started H enc _ => lifted os started H enc)
end Go.Proofs.YtabkkcbpckcfnaaDoor.wholeDivision
namespace Go.Proofs.YtabkkcbpckcfnaaDoor
/-- The statement: the tied card. -/
theorem wholeDivision_holds : Rows.WholeDivisionCardSaid :=
  Claim7.holds_tied_plain_at .later [] [.data] true (true, "912d65b74c22a5d62e379bb7b65e6ccd0e275d5b953589d737c508815851b354") false wholeDivision.over (fun _ h => by cases h) (by kernel_rfl) (fun _ h => by cases h) wholeDivision_row_tie rfl ⟨rfl, rfl⟩ (by kernel_rfl) rfl
    (fun f fn hf hfn => by
      obtain rfl : f = 3 := Option.some.inj ((show Tryd.prog.funcNamed "gnomon/gnomontop.WholeDivision" = some 3 by kernel_rfl).symm.trans hf) |>.symm
      obtain rfl : fn = Tryd.f3 := (Option.some.inj (Tryd.func3.symm.trans hfn)).symm
      exact ⟨by kernel_rfl, fun j t ht => by
        rw [Tryd.params3] at ht
        have hm : t ∈ [24] := by simpa using Array.mem_of_getElem? ht
        have hall : ([24].all fun u => !Tryd.prog.wantsStandIn u) = true := by kernel_rfl
        exact (show Tryd.prog.wantsStandIn t = false by simpa using List.all_eq_true.1 hall t hm)⟩)
    (by kernel_rfl)
#print axioms wholeDivision_holds
end Go.Proofs.YtabkkcbpckcfnaaDoor
