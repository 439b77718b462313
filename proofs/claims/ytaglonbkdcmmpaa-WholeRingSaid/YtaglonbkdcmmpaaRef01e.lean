/- What the digits' calls of the reference answer: DivMod. -/
import Derived.Test.YtaglonbkdcmmpaaRef01d
namespace Go.Proofs.Ytaglonbkdcmmpaa.G
open Go.Gv
set_option maxRecDepth 100000
set_option linter.unusedVariables false
/-- quotient and rest, as the reference gives them. -/
def dmS (X Y : Nat) : Nat × Nat := if Y = 0 then (0, 0) else (X / Y, X % Y)
theorem drop_small {us : List Nat} {k V : Nat} (hV : V ≤ 2 ^ (32 * k)) (h : D.val us < V) (hw : D.Words us) : D.val (us.drop k) = 0 ∧ D.val (us.take k) = D.val us := by
  have e : D.val us = D.val (us.take k) + 2 ^ (32 * k) * D.val (us.drop k) := by
    by_cases hk : k ≤ us.length
    · conv => lhs; rw [← List.take_append_drop k us]
      rw [D.val_append, List.length_take, Nat.min_eq_left hk]
    · rw [List.take_of_length_le (by omega), List.drop_of_length_le (by omega)]; simp [D.val]
  have h0 : D.val (us.drop k) = 0 := by
    rw [D.val_drop hw]; exact Nat.div_eq_of_lt (by omega)
  rw [h0] at e
  exact ⟨h0, by omega⟩
theorem digs_len_eq {X n : Nat} (h : blen X = 32 * n) (hn : 0 < n) : (D.digs X).length = n := by
  refine Nat.le_antisymm ((D.lim_blen' n).mp (by omega)) ?_
  rcases Nat.lt_or_ge (D.digs X).length n with hh | hh
  · have := (D.lim_blen' (v := X) (n - 1)).mpr (by omega)
    omega
  · exact hh
end Go.Proofs.Ytaglonbkdcmmpaa.G
