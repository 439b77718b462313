/- The laws of layer 1 that hold the document's answers: true. -/
import Derived.Test.YtnbpbojcjihboaaDoorNatLaws
namespace Go.Proofs.YtnbpbojcjihboaaDoor.G
open Go.Gv
set_option maxRecDepth 100000
/-- Digits of a number that is written out, by so many steps. -/
def digsF : Nat → Nat → List Nat
  | 0, _ => []
  | f + 1, n => if n = 0 then [] else n % 18446744073709551616 :: digsF f (n / 18446744073709551616)
theorem digs_eval : ∀ (f : Nat) {n : Nat}, n < 18446744073709551616 ^ f → digs n = digsF f n
  | 0, n, h => by have : n = 0 := by simpa using h
                  subst this; rw [digs_zero]; rfl
  | f + 1, n, h => by
    unfold digsF
    by_cases h0 : n = 0
    · subst h0; rw [digs_zero]; simp
    · rw [digs_pos h0, if_neg h0, digs_eval f (by rw [Nat.pow_succ] at h; exact Nat.div_lt_of_lt_mul (by rw [Nat.mul_comm]; exact h))]
theorem lim_eval (f : Nat) {n : Nat} (h : n < 18446744073709551616 ^ f) : lim n = if (digsF f n).length ≤ 8192 then (digsF f n, 0) else ([], 5) := by
  unfold lim; rw [digs_eval f h]
theorem awake_true : gnomonlaw01_awake.v = true := by
  have f1 : Frm [18446744073709551615] := by decide
  have f2 : Frm [1] := by decide
  have f3 : Frm [0, 1] := by decide
  have e1 : addS [18446744073709551615] [1] = ([0, 1], 0) := by
    unfold addS; rw [if_pos ⟨f1, f2⟩, lim_eval 2 (by decide)]; decide
  have e2 : subS [0, 1] [1] = ([18446744073709551615], 0) := by
    unfold subS; rw [if_pos ⟨f3, f2⟩, if_neg (by decide), lim_eval 2 (by decide)]; decide
  have e3 : blen (val [0, 1]) = 65 := by decide
  have e4 : cmpI (val [2]) (val [1]) = 1 := by decide
  simp [gnomonlaw01_awake.v, gnomonlaw01_awake.D1.v, gnomonlaw01_awake.D2.v, gnomonlaw01_awake.D3.v, letV, e1, e2, e3, e4]
theorem forms_true (os : List Op1) : gnomonlaw01_NatForms.v os = true := by
  have e1 : lim (val [5, 0]) = ([5], 0) := by rw [lim_eval 2 (by decide)]; decide
  have e2 : digs 7 = [7] := by rw [digs_eval 1 (by decide)]; decide
  have e3 : Frm [0, 1] := by decide
  simp [gnomonlaw01_NatForms.v, gnomonlaw01_NatForms.D1.v, letV, e1, e2, e3, told_same]
theorem asks_true (os : List Op1) : gnomonlaw01_NatAsks.v os = true := by
  have e1 : blen (val [0, 6]) = 67 := by decide
  have e2 : ctz (val [0, 6]) = 65 := ctz_of (by decide) (by decide)
  have e3 : bitS (val [0, 6]) 66 = 1 := by decide
  have e4 : cmpI (val [0, 6]) (val [9]) = 1 := by decide
  simp [gnomonlaw01_NatAsks.v, gnomonlaw01_NatAsks.D1.v, e1, e2, e3, e4]
theorem sums_true (os : List Op1) : gnomonlaw01_NatSums.v os = true := by
  simp [gnomonlaw01_NatSums.v, gnomonlaw01_NatSums.D1.v, letV, awake_true]
theorem shifts_true (os : List Op1) : gnomonlaw01_NatShifts.v os = true := by
  have e1 : shlS [1] 65 = ([0, 2], 0) := by
    unfold shlS; rw [if_neg (by decide), if_pos (by decide), lim_eval 2 (by decide)]; decide
  have e2 : shrS [0, 6] 65 = ([3], 0) := by
    unfold shrS; rw [if_neg (by decide), if_pos (by decide), lim_eval 2 (by decide)]; decide
  have e3 : lowS [13] 3 = ([5], 0) := by
    unfold lowS; rw [if_neg (by decide), if_pos (by decide), lim_eval 2 (by decide)]; decide
  simp [gnomonlaw01_NatShifts.v, gnomonlaw01_NatShifts.D1.v, letV, e1, e2, e3, told_same]
theorem words_true (os : List Op1) : gnomonlaw01_NatWords.v os = true := by
  have e1 : mulWS [18446744073709551615] 18446744073709551615 = ([1, 18446744073709551614], 0) := by
    unfold mulWS; rw [if_pos (by decide), lim_eval 3 (by decide)]; decide
  have e2 : divWS [0, 1] 10 = ([1844674407370955161], 6, 0) := by
    unfold divWS; rw [if_pos (by decide), if_neg (by decide), digs_eval 2 (by decide)]; decide
  simp [gnomonlaw01_NatWords.v, gnomonlaw01_NatWords.D1.v, letV, e1, e2, told_same]
section
variable {h : Hp} {a : Option Addr} {c l : Nat} {os : List Op1}
theorem NatForms_law (r : RdOps1 h a c os) (e : l = os.length) (tb : Tab h) : HC gnomonlaw01_NatForms.id #[.slice a l c] h fun v h' => Keep h h' ∧ v = .bool true := by
  have := gnomonlaw01_NatForms.hv r e tb
  rw [forms_true] at this; exact this
theorem NatAsks_law (r : RdOps1 h a c os) (e : l = os.length) (tb : Tab h) : HC gnomonlaw01_NatAsks.id #[.slice a l c] h fun v h' => Keep h h' ∧ v = .bool true := by
  have := gnomonlaw01_NatAsks.hv r e tb
  rw [asks_true] at this; exact this
theorem NatSums_law (r : RdOps1 h a c os) (e : l = os.length) (tb : Tab h) : HC gnomonlaw01_NatSums.id #[.slice a l c] h fun v h' => Keep h h' ∧ v = .bool true := by
  have := gnomonlaw01_NatSums.hv r e tb
  rw [sums_true] at this; exact this
theorem NatShifts_law (r : RdOps1 h a c os) (e : l = os.length) (tb : Tab h) : HC gnomonlaw01_NatShifts.id #[.slice a l c] h fun v h' => Keep h h' ∧ v = .bool true := by
  have := gnomonlaw01_NatShifts.hv r e tb
  rw [shifts_true] at this; exact this
theorem NatWords_law (r : RdOps1 h a c os) (e : l = os.length) (tb : Tab h) : HC gnomonlaw01_NatWords.id #[.slice a l c] h fun v h' => Keep h h' ∧ v = .bool true := by
  have := gnomonlaw01_NatWords.hv r e tb
  rw [words_true] at this; exact this
end
end Go.Proofs.YtnbpbojcjihboaaDoor.G
