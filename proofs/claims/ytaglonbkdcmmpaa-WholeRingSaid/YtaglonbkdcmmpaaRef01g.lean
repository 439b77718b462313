/- The lowest one bit, by the program and by the reference; single bits. -/
import Derived.Test.YtaglonbkdcmmpaaRef01f
namespace Go.Proofs.Ytaglonbkdcmmpaa.G
open Go.Gv
set_option maxRecDepth 100000
set_option linter.unusedVariables false
/-! ### how often 2 divides -/
def ctz (n : Nat) : Nat := if h : n = 0 then 0 else if n % 2 = 0 then ctz (n / 2) + 1 else 0
  termination_by n
  decreasing_by omega
theorem ctz_odd (m : Nat) : ctz (2 * m + 1) = 0 := by unfold ctz; rw [dif_neg (by omega), if_neg (by omega)]
theorem ctz_two {n : Nat} (h : n ≠ 0) : ctz (2 * n) = ctz n + 1 := by
  rw [ctz, dif_neg (by omega), if_pos (by omega), show 2 * n / 2 = n by omega]
theorem ctz_pow (k m : Nat) : ctz (2 ^ k * (2 * m + 1)) = k := by
  induction k with
  | zero => simp [ctz_odd]
  | succ k ih =>
    rw [Nat.pow_succ, Nat.mul_comm (2 ^ k), Nat.mul_assoc, ctz_two, ih]
    have := Nat.pow_pos (a := 2) (n := k) (by decide)
    exact Nat.mul_ne_zero (by omega) (by omega)
theorem ctz_form : ∀ {n : Nat}, n ≠ 0 → ∃ m, n = 2 ^ ctz n * (2 * m + 1) := by
  intro n
  induction n using Nat.strongRecOn with
  | _ n ih =>
    intro h
    by_cases e : n % 2 = 0
    · obtain ⟨m, hm⟩ := ih (n / 2) (by omega) (by omega)
      refine ⟨m, ?_⟩
      rw [ctz, dif_neg h, if_pos e, Nat.pow_succ, Nat.mul_comm (2 ^ ctz (n / 2)) 2, Nat.mul_assoc, ← hm]; omega
    · refine ⟨n / 2, ?_⟩
      rw [ctz, dif_neg h, if_neg e]; omega
theorem ctz_shift {n : Nat} (k : Nat) (h : n ≠ 0) : ctz (2 ^ k * n) = k + ctz n := by
  obtain ⟨m, hm⟩ := ctz_form h
  conv => lhs; rw [hm, ← Nat.mul_assoc, ← Nat.pow_add]
  exact ctz_pow _ _
theorem ctz_lt {a w : Nat} (h0 : a ≠ 0) (h : a < 2 ^ w) : ctz a < w := by
  obtain ⟨m, hm⟩ := ctz_form h0
  refine Nat.lt_of_not_le fun hh => ?_
  have h1 : 2 ^ w ≤ 2 ^ ctz a := Nat.pow_le_pow_right (by decide) hh
  have h2 : 2 ^ ctz a * 1 ≤ 2 ^ ctz a * (2 * m + 1) := Nat.mul_le_mul_left _ (by omega)
  omega
theorem ctz_low {a w r : Nat} (h0 : a ≠ 0) (h : a < 2 ^ w) : ctz (a + 2 ^ w * r) = ctz a := by
  have hl := ctz_lt h0 h
  obtain ⟨m, hm⟩ := ctz_form h0
  generalize ctz a = k at *
  have e : a + 2 ^ w * r = 2 ^ k * (2 * (m + 2 ^ (w - k - 1) * r) + 1) := by
    rw [hm, show 2 ^ w = 2 ^ k * (2 * 2 ^ (w - k - 1)) by rw [← Nat.pow_succ', ← Nat.pow_add, show k + (w - k - 1 + 1) = w by omega], Nat.mul_assoc, ← Nat.mul_add]
    congr 1; rw [Nat.mul_assoc]; omega
  rw [e, ctz_pow]
theorem ctz_of {X n : Nat} (h1 : X % 2 ^ n = 0) (h2 : X / 2 ^ n % 2 = 1) : ctz X = n := by
  have e : X = 2 ^ n * (2 * (X / 2 ^ n / 2) + 1) := by
    have := Nat.div_add_mod X (2 ^ n)
    rw [h1, Nat.add_zero] at this
    rw [show 2 * (X / 2 ^ n / 2) + 1 = X / 2 ^ n by omega]; exact this.symm
  rw [e, ctz_pow]
/-! ### the table -/
def dbTab : List Nat := [0, 1, 56, 2, 57, 49, 28, 3, 61, 58, 42, 50, 38, 29, 17, 4, 62, 47, 59, 36, 45, 43, 51, 22, 53, 39, 33, 30, 24, 18, 12, 5, 63, 55, 48, 27, 60, 41, 37, 16, 46, 35, 44, 21, 52, 32, 23, 11, 54, 26, 40, 15, 34, 20, 31, 10, 25, 14, 19, 9, 13, 8, 7, 6]
def Tab (h : Hp) : Prop := ∀ i, i < 64 → cellH h ⟨0, i, none⟩ = some (.int .u8 ((dbTab.getD i 0 : Nat) : Int))
theorem Tab.keep {h h' : Hp} (t : Tab h) (k : Keep h h') : Tab h' := fun i hi => k.cell (t i hi)
theorem db_ok : (List.range 64).all (fun k => decide (dbTab.getD (2 ^ k * 285870213051353865 % 18446744073709551616 / 288230376151711744) 0 = k ∧ 2 ^ k * 285870213051353865 % 18446744073709551616 / 288230376151711744 < 64)) = true := by decide +kernel
theorem and_neg {x : Nat} (h0 : x ≠ 0) (h : x < 18446744073709551616) : x &&& (18446744073709551616 - x) = 2 ^ ctz x := by
  have hl : ctz x < 64 := ctz_lt h0 h
  obtain ⟨m, hm⟩ := ctz_form h0
  generalize ctz x = k at *
  have hp : 18446744073709551616 = 2 ^ k * (2 * 2 ^ (63 - k)) := by
    rw [← Nat.pow_succ', ← Nat.pow_add, show k + (63 - k + 1) = 64 by omega]
  have hmlt : m < 2 ^ (63 - k) := by
    rw [hm, hp] at h
    have := Nat.lt_of_mul_lt_mul_left h
    omega
  have e : 18446744073709551616 - x = 2 ^ k * (2 * (2 ^ (63 - k) - (m + 1)) + 1) := by
    rw [hm]
    conv => lhs; rw [hp]
    rw [← Nat.mul_sub]; congr 1; omega
  rw [e]
  conv => lhs; rw [hm]
  refine Nat.eq_of_testBit_eq fun i => ?_
  rw [Nat.testBit_and, Nat.testBit_two_pow_mul, Nat.testBit_two_pow_mul, Nat.testBit_two_pow]
  by_cases hi : k ≤ i
  · simp only [hi, decide_true, Bool.true_and]
    obtain ⟨j, hj⟩ : ∃ j, j = i - k := ⟨_, rfl⟩
    rw [← hj]
    cases j with
    | zero =>
      have : k = i := by omega
      simp [this, Nat.testBit_zero]
    | succ j =>
      rw [Nat.testBit_succ, Nat.testBit_succ, show (2 * m + 1) / 2 = m by omega, show (2 * (2 ^ (63 - k) - (m + 1)) + 1) / 2 = 2 ^ (63 - k) - (m + 1) by omega, Nat.testBit_two_pow_sub_succ hmlt]
      have : ¬ k = i := by omega
      cases m.testBit j <;> simp [this]
  · have : ¬ k = i := by omega
    simp [hi, this]
theorem zeros_val {xs : List Nat} {i : Nat} (h : ∀ j, j < i → xs.getD j 0 = 0) : val xs = 2 ^ (64 * i) * val (xs.drop i) := by
  induction i with
  | zero => simp
  | succ i ih =>
    rw [ih (fun j hj => h j (by omega)), val_getD_drop, h i (by omega), pow_step, Nat.zero_add]
    rw [Nat.mul_left_comm, Nat.mul_assoc]
/-! ### Bit -/
theorem nat_bit {xs : List Nat} (hw : Words xs) (n : Nat) : val xs / 2 ^ n % 2 = xs.getD (n / 64) 0 / 2 ^ (n % 64) % 2 := by
  have e1 : val xs / 2 ^ n = val (xs.drop (n / 64)) / 2 ^ (n % 64) := by
    rw [val_drop hw, Nat.div_div_eq_div_mul, ← Nat.pow_add, Nat.div_add_mod]
  rw [e1, val_getD_drop]
  have e : (18446744073709551616 : Nat) = 2 ^ (n % 64) * (2 * 2 ^ (63 - n % 64)) := by
    rw [← Nat.pow_succ', ← Nat.pow_add, show n % 64 + (63 - n % 64 + 1) = 64 by omega]
  rw [e, Nat.mul_assoc, Nat.add_mul_div_left _ _ (Nat.pow_pos (by decide)), Nat.mul_assoc]
  omega
/-! ### Zeros -/
end Go.Proofs.Ytaglonbkdcmmpaa.G
