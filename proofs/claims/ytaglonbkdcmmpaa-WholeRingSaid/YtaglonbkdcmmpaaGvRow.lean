/- From a row's arguments to lists of words in the heap, and back to the row's frame. -/
import Derived.Carry
import Derived.ChangeSlices
import Derived.WalkKit
import Derived.ProofKit
import Derived.OpenShut
import Derived.ShutString
import Derived.ChangeOld
import Derived.Below
import Derived.SizedLaws
import Derived.Test.YtaglonbkdcmmpaaGvWords
namespace Go.Gv
open Go.ChangeShapes Go.WideShapes Go.ChangeAt Go.RowKit
theorem below_of {w w' : World} (s : Same w w') (k : Keep w.heap w'.heap) : Below w.heap.size w w' := ⟨s.os, s.tape, s.output, k.le, fun i hi => k.pre i hi⟩
theorem wf_i64 {n : Int} (h : (Lit.int .i64 n).wf = true) : -9223372036854775808 ≤ n ∧ n < 9223372036854775808 := by
  simp only [Lit.wf, Bool.and_eq_true, decide_eq_true_eq, IntKind.min, IntKind.max, IntKind.signed, IntKind.bits, if_true] at h
  have e1 : (2 : Int) ^ (64 - 1) = 9223372036854775808 := by decide
  rw [e1] at h; omega
theorem wf_u64 {n : Int} (h : (Lit.int .u64 n).wf = true) : 0 ≤ n ∧ n < 18446744073709551616 := by
  simp only [Lit.wf, Bool.and_eq_true, decide_eq_true_eq, IntKind.min, IntKind.max, IntKind.signed, IntKind.bits, Bool.false_eq_true, if_false] at h
  have e1 : (2 : Int) ^ 64 = 18446744073709551616 := by decide
  rw [e1] at h; omega
theorem slice_open {H : Type} {enc : TypeId × Value → H} {P : Program} {W : World} {r : Reach} {base : Nat} {t e : TypeId} (ht : P.underlying t = some (.slice e)) (he : P.underlying e = some (.int .u64)) (hc : P.cellsOf e = 1) (hb : P.bytesOf e = 8) {v : Value} {d : DataW H} {p : List MemPlace}
    (hv : Value.okWide P W r base t v) (h : DataW.Trod enc P W 0 (fun _ => true) true t v d p) {ts : List TypeId} {ds : List (DataW H)} (hsz : (DataW.weightsEach P ts ds).all (· ≤ reachBytes) = true) {j : Nat} (htj : ts[j]? = some t) (hdj : ds[j]? = some d) :
    ∃ a c xs, v = .slice a xs.length c ∧ Rd W.heap a c xs := by
  obtain ⟨a, len, cap, rfl⟩ := okWide_slice ht hv
  obtain ⟨fuel, hf⟩ := h
  rcases open_ints ht he hc hf with ⟨hcs, _⟩ | ⟨x, l, c, zs, hcs, _, hl, hm, hz, hx, hcell, hwz⟩
  · simp [Value.cells] at hcs
    obtain ⟨rfl, rfl, rfl⟩ := hcs
    exact ⟨none, 0, [], rfl, Rd.nil _ _ _⟩
  · simp [Value.cells] at hcs
    obtain ⟨rfl, rfl, rfl⟩ := hcs
    have hd : d = .slice (lits .u64 (zs.take len)) (lits .u64 (zs.drop len)) := congrArg Prod.fst hx
    subst hd
    have hs := sized_slice hsz htj hdj ht
    rw [hb] at hs
    have hz' : zs.length = cap := by simpa using hz
    have hlz : (lits (H := H) .u64 (zs.take len)).length + (lits (H := H) .u64 (zs.drop len)).length = zs.length := by
      simp [lits]; omega
    rw [hlz, hz'] at hs
    have hr : reachBytes = 140737488351232 := rfl
    have nn : ∀ n ∈ zs, 0 ≤ n ∧ n < 18446744073709551616 := by
      intro n hn
      have := hwz n hn
      simp only [Lit.wf, Bool.and_eq_true, decide_eq_true_eq, IntKind.min, IntKind.max, IntKind.signed, IntKind.bits, Bool.false_eq_true, if_false] at this
      have e1 : (2 : Int) ^ 64 = 18446744073709551616 := by decide
      rw [e1] at this; omega
    refine ⟨some x, cap, (zs.take len).map Int.toNat, by simp; omega, ?_, ?_, ?_, ?_⟩
    · simp; omega
    · simp; omega
    · intro y hy
      obtain ⟨n, hn, rfl⟩ := List.mem_map.mp hy
      have := nn n (List.mem_of_mem_take hn); omega
    · intro i hi
      have hi' : i < len := by simp at hi; omega
      refine ⟨x, rfl, ?_⟩
      have hc1 := hcell i (by omega)
      rw [cell?_eq] at hc1
      rw [hc1]
      have e1 : ((zs.take len).map Int.toNat).getD i 0 = (zs.getD i 0).toNat := by
        simp [List.getD, hi', show i < zs.length by omega]
      rw [e1]
      have e2 : zs.getD i 0 = zs[i]'(by omega) := by simp [List.getD, show i < zs.length by omega]
      have := nn _ (List.getElem_mem (show i < zs.length by omega))
      rw [e2]
      show some (Value.int .u64 zs[i]) = some (.int .u64 ((zs[i].toNat : Nat) : Int))
      rw [Int.toNat_of_nonneg this.1]
end Go.Gv
