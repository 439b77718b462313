/- What the digits' calls of the reference answer: Sub, MulSmall, Shl, Bit, Fits. -/
import Derived.Test.YtaglonbkdcmmpaaRef01b
namespace Go.Proofs.Ytaglonbkdcmmpaa.G
open Go.Gv
set_option maxRecDepth 100000
set_option linter.unusedVariables false
/-! ### Sub -/
theorem rsub_step {zs xs ys : List Nat} {i x y t o o' : Nat} (hz : zs.length = i) (h : x + 4294967296 * o' = t + y + o) (hi : D.val zs + D.val (ys.take i) = D.val (xs.take i) + o * 2 ^ (32 * i)) (hx : D.val (xs.take (i + 1)) = D.val (xs.take i) + 2 ^ (32 * i) * x) (hy : D.val (ys.take (i + 1)) = D.val (ys.take i) + 2 ^ (32 * i) * y) :
    D.val (zs ++ [t]) + D.val (ys.take (i + 1)) = D.val (xs.take (i + 1)) + o' * 2 ^ (32 * (i + 1)) := by
  rw [D.val_append, hz, hx, hy, D.pow_step]
  simp only [D.val, Nat.mul_zero, Nat.add_zero]
  generalize 2 ^ (32 * i) = P at *
  have e : P * (x + 4294967296 * o') = P * (t + y + o) := by rw [h]
  have e1 : P * (x + 4294967296 * o') = P * x + o' * (4294967296 * P) := by rw [Nat.mul_add, Nat.mul_left_comm, Nat.mul_comm P o', Nat.mul_left_comm]
  have e2 : P * (t + y + o) = P * t + P * y + o * P := by rw [Nat.mul_add, Nat.mul_add, Nat.mul_comm P o]
  omega
theorem take_val {xs : List Nat} {i : Nat} : D.val (xs.take (i + 1)) = D.val (xs.take i) + 2 ^ (32 * i) * xs.getD i 0 := by
  by_cases h : i < xs.length
  · rw [take_snoc h, D.val_append, List.length_take, Nat.min_eq_left (by omega)]; simp [D.val]
  · rw [List.take_of_length_le (by omega), List.take_of_length_le (by omega)]
    simp [List.getD, show xs.length ≤ i by omega]
/-! ### MulSmall -/
/-! ### Shl -/
theorem dlen_mul {X w k : Nat} (hX : (D.digs X).length ≤ k) (hw : w < 4294967296) : (D.digs (X * w)).length ≤ k + 1 := by
  rw [D.digs_len] at hX ⊢
  rw [D.pow_step]
  rcases Nat.eq_zero_or_pos w with h | h
  · subst h; simp [Nat.pow_pos]
  · calc X * w < 2 ^ (32 * k) * w := Nat.mul_lt_mul_of_pos_right hX h
      _ ≤ 2 ^ (32 * k) * 4294967296 := Nat.mul_le_mul_left _ (Nat.le_of_lt hw)
      _ = 4294967296 * 2 ^ (32 * k) := Nat.mul_comm _ _
/-! ### Bit -/
theorem bit_digit {X k m : Nat} (hk : k < 32) : X / 2 ^ (32 * m + k) % 2 = (X / 2 ^ (32 * m) % 4294967296) / 2 ^ k % 2 := by
  rw [Nat.pow_add, ← Nat.div_div_eq_div_mul]
  generalize X / 2 ^ (32 * m) = Y
  have e : (4294967296 : Nat) = 2 ^ k * (2 * 2 ^ (31 - k)) := by
    rw [← Nat.pow_succ', ← Nat.pow_add, show k + (31 - k + 1) = 32 by omega]
  rw [e, Nat.mod_mul, Nat.add_comm, Nat.mul_add_div (Nat.pow_pos (by decide)), Nat.div_eq_of_lt (Nat.mod_lt _ (Nat.pow_pos (by decide))), Nat.add_zero, Nat.mod_mul_right_mod]
theorem D.getD_val {xs : List Nat} (hw : D.Words xs) (m : Nat) : xs.getD m 0 = D.val xs / 2 ^ (32 * m) % 4294967296 := by
  rw [← D.val_drop hw, D.val_getD_drop, Nat.add_mul_mod_self_left]
  exact (Nat.mod_eq_of_lt (getD_ltB (by decide) hw m)).symm
theorem shr_u32 {x y : Int} {n k : Nat} (hx : x = (n : Int)) (hy : y = (k : Int)) (hk : k < 32) {K : Int → Prop} (g : K ((n / 2 ^ k : Nat) : Int)) : 0 ≤ y ∧ letK (shrI .u32 x y) K := by
  subst hx; subst hy
  refine ⟨by omega, ⟨?_⟩⟩
  show K (Int.fdiv (n : Int) (2 ^ (min (k : Int).toNat 32)))
  have e : min (k : Int).toNat 32 = k := by omega
  rw [e]
  have e2 : Int.fdiv (n : Int) (2 ^ k) = ((n / 2 ^ k : Nat) : Int) := by
    rw [Int.fdiv_eq_ediv_of_nonneg _ (Int.le_of_lt (Int.pow_pos (by decide)))]
    norm_cast
  rw [e2]; exact g
theorem and_one32 {x : Int} {n : Nat} (hx : x = (n : Int)) (hn : n < 4294967296) {K : Int → Prop} (g : K ((n % 2 : Nat) : Int)) : letK (andI .u32 x 1) K := by
  subst hx
  refine ⟨?_⟩
  show K (IntKind.u32.wrap (BitVec.ofInt 32 (n : Int) &&& BitVec.ofInt 32 1).toNat)
  have e : (BitVec.ofInt 32 (n : Int) &&& BitVec.ofInt 32 1).toNat = n % 2 := by
    have e1 : BitVec.ofInt 32 (1 : Int) = BitVec.ofNat 32 1 := rfl
    rw [BitVec.ofInt_natCast, e1, BitVec.toNat_and, BitVec.toNat_ofNat, BitVec.toNat_ofNat, Nat.mod_eq_of_lt (by omega)]
    exact Nat.and_two_pow_sub_one_eq_mod n 1
  have hlt : n % 2 < 2 := Nat.mod_lt _ (by decide)
  have e3 : IntKind.u32.wrap ((n % 2 : Nat) : Int) = ((n % 2 : Nat) : Int) := by
    simp only [IntKind.wrap, IntKind.bits, IntKind.signed, Bool.false_and, Bool.false_eq_true, if_false]; omega
  rw [e, e3]; exact g
/-- The bit i of X, as the reference tells it. -/
def bitS (X : Nat) (i : Int) : Int := if i < 0 then 0 else ((X / 2 ^ i.toNat % 2 : Nat) : Int)
/-! ### Fits -/
def fitsS (X : Nat) : Int × Bool := if X < 18446744073709551616 then ((X : Int), true) else (0, false)
theorem digs_one {X : Nat} (h0 : X ≠ 0) (h : X < 18446744073709551616) : digs X = [X] := by
  rw [digs_pos h0, show X / 18446744073709551616 = 0 by omega, digs_zero, Nat.mod_eq_of_lt h]
end Go.Proofs.Ytaglonbkdcmmpaa.G
