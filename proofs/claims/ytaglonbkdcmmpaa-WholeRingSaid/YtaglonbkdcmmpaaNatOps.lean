/- Steps with bits of words. -/
import Derived.Test.YtaglonbkdcmmpaaNatBits
namespace Go.Proofs.Ytaglonbkdcmmpaa.G
open Go.Gv
set_option maxRecDepth 100000
/-! ### words and their bits -/
theorem shl_k {x y : Int} {n : Nat} (hx : x = (n : Int)) (s p : Nat) (hs : s ≤ 64) (hp : p = 2 ^ s) (hy : y = (s : Int)) {K : Int → Prop} (g : K ((n * p % 18446744073709551616 : Nat) : Int)) : 0 ≤ y ∧ letK (shlI .u64 x y) K := by
  subst hx; subst hy; subst hp
  refine ⟨by omega, ⟨?_⟩⟩
  show K (IntKind.u64.wrap ((n : Int) * 2 ^ (min (s : Int).toNat 64)))
  have e : min (s : Int).toNat 64 = s := by omega
  rw [e, wrap_u64]
  have e2 : ((n : Int) * 2 ^ s) % 18446744073709551616 = ((n * 2 ^ s % 18446744073709551616 : Nat) : Int) := by
    have e3 : (2 : Int) ^ s = ((2 ^ s : Nat) : Int) := by rw [Int.natCast_pow]; rfl
    rw [e3, ← Int.natCast_mul]; omega
  rw [e2]; exact g
theorem shr_k' {x y : Int} {n : Nat} (hx : x = (n : Int)) (s p : Nat) (hs : s ≤ 64) (hp : p = 2 ^ s) (hy : y = (s : Int)) {K : Int → Prop} (g : K ((n / p : Nat) : Int)) : 0 ≤ y ∧ letK (shrI .u64 x y) K :=
  ⟨by omega, shr_k hx s p hs hp hy g⟩
theorem bv_nat (a : Nat) : BitVec.ofInt 64 (a : Int) = BitVec.ofNat 64 a := BitVec.ofInt_natCast 64 a
theorem or_k {x y : Int} {a b : Nat} (hx : x = (a : Int)) (hy : y = (b : Int)) (ha : a < 18446744073709551616) (hb : b < 18446744073709551616) {K : Int → Prop} (g : K ((a ||| b : Nat) : Int)) : letK (orI .u64 x y) K := by
  subst hx; subst hy
  refine ⟨?_⟩
  show K (IntKind.u64.wrap (BitVec.ofInt 64 (a : Int) ||| BitVec.ofInt 64 (b : Int)).toNat)
  have e : (BitVec.ofInt 64 (a : Int) ||| BitVec.ofInt 64 (b : Int)).toNat = a ||| b := by
    rw [bv_nat, bv_nat, BitVec.toNat_or, BitVec.toNat_ofNat, BitVec.toNat_ofNat, Nat.mod_eq_of_lt (by omega), Nat.mod_eq_of_lt (by omega)]
  have hlt : a ||| b < 18446744073709551616 := Nat.or_lt_two_pow (n := 64) ha hb
  rw [e, wrap_u64' (by omega) (by omega)]; exact g
theorem and_k {x y : Int} {a b : Nat} (hx : x = (a : Int)) (hy : y = (b : Int)) (ha : a < 18446744073709551616) (hb : b < 18446744073709551616) {K : Int → Prop} (g : K ((a &&& b : Nat) : Int)) : letK (andI .u64 x y) K := by
  subst hx; subst hy
  refine ⟨?_⟩
  show K (IntKind.u64.wrap (BitVec.ofInt 64 (a : Int) &&& BitVec.ofInt 64 (b : Int)).toNat)
  have e : (BitVec.ofInt 64 (a : Int) &&& BitVec.ofInt 64 (b : Int)).toNat = a &&& b := by
    rw [bv_nat, bv_nat, BitVec.toNat_and, BitVec.toNat_ofNat, BitVec.toNat_ofNat, Nat.mod_eq_of_lt (by omega), Nat.mod_eq_of_lt (by omega)]
  have hlt : a &&& b ≤ a := Nat.and_le_left
  rw [e, wrap_u64' (by omega) (by omega)]; exact g
theorem or_add {i a b : Nat} (h : b < 2 ^ i) : b ||| (2 ^ i * a) = 2 ^ i * a + b := by
  rw [Nat.or_comm, Nat.two_pow_add_eq_or_of_lt h]
theorem k_u64 {x : Int} (y : Nat) (e : x = (y : Int)) (h : y < 18446744073709551616) {K : Int → Prop} (g : K (y : Int)) : letK (IntKind.u64.wrap x) K := by
  subst e; refine ⟨?_⟩; show K _; rw [wrap_u64' (by omega) (by omega)]; exact g
theorem tdiv_nat (n m : Nat) : Int.tdiv (n : Int) (m : Int) = ((n / m : Nat) : Int) := by
  rw [Int.tdiv_eq_ediv_of_nonneg (by omega)]; norm_cast
theorem tmod_nat (n m : Nat) : Int.tmod (n : Int) (m : Int) = ((n % m : Nat) : Int) := by
  rw [Int.tmod_eq_emod_of_nonneg (by omega)]; norm_cast
theorem mul_lt32 {a b : Nat} (ha : a < 4294967296) (hb : b < 4294967296) : a * b ≤ 18446744065119617025 := Nat.mul_le_mul (show a ≤ 4294967295 by omega) (show b ≤ 4294967295 by omega)
theorem and32 {x : Int} {n : Nat} (hx : x = (n : Int)) (hn : n < 18446744073709551616) {K : Int → Prop} (g : K ((n % 4294967296 : Nat) : Int)) : letK (andI .u64 x 4294967295) K := by
  refine and_k (b := 4294967295) hx rfl hn (by decide) ?_
  have : n &&& 4294967295 = n % 4294967296 := Nat.and_two_pow_sub_one_eq_mod n 32
  rw [this]; exact g
end Go.Proofs.Ytaglonbkdcmmpaa.G
