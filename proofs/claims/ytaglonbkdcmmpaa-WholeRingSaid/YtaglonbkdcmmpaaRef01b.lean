/- What the digits' calls of the reference answer: Bits, Bit, Mul, DivSmall, Shr, Low. -/
import Derived.Test.YtaglonbkdcmmpaaRef01a
namespace Go.Proofs.Ytaglonbkdcmmpaa.G
open Go.Gv
set_option maxRecDepth 100000
set_option linter.unusedVariables false
theorem put32 {h0 h : Hp} {b l : Nat} {zs : List Nat} (o : BlkE eU32 h b zs) (kp : Keep h0 h) (hb : h0.size ≤ b) {i : Int} {j : Nat} (hi : i = (j : Int)) (hl : l = zs.length) (hj : j < zs.length) {x : Int} {v : Nat} (hx : x = (v : Int)) (hv : v < 4294967296) {K : Hp → Prop}
    (g : ∀ h', BlkE eU32 h' b (zs.set j v) → Keep h0 h' → K h') : idxK (some ⟨b, 0, none⟩) l i 1 fun q => stK h q (.int .u32 x) K :=
  putE0 o hi (by omega) hj (by rw [hx]; rfl) hv fun o2 k2 => g _ o2 (k2.keep kp hb)
/-! ### Bits -/
theorem blen_half {w : Nat} (h : w ≠ 0) : blen w = blen (w / 2) + 1 := by
  have h1 := blen_div w 1
  have h2 := blen_pos h
  rw [show w / 2 = w / 2 ^ 1 by rfl]; omega
/-! ### Mul -/
theorem rgetD_set_ne {zs : List Nat} {i t v : Nat} (h : i ≠ t) : (zs.set i v).getD t 0 = zs.getD t 0 := by
  simp [List.getD, h]
theorem D.getD_replicate (n t : Nat) : (List.replicate n 0).getD t 0 = 0 := by
  simp only [List.getD, List.getElem?_replicate]; split <;> rfl
/-! ### DivSmall -/
/-! ### Shr, Low -/
theorem pow_lt32 {k : Nat} (hk : k < 32) : 2 ^ k < 4294967296 := Nat.pow_lt_pow_right (a := 2) (by decide) hk
theorem one_shl {k : Nat} (hk : k < 32) {x : Int} (hx : x = (k : Int)) {K : Int → Prop} (g : K ((2 ^ k : Nat) : Int)) : 0 ≤ x ∧ letK (shlI .u32 1 x) K := by
  subst hx
  refine ⟨by omega, ⟨?_⟩⟩
  show K (IntKind.u32.wrap (1 * 2 ^ (min (k : Int).toNat 32)))
  have e : min (k : Int).toNat 32 = k := by omega
  have hp : 2 ^ k < 4294967296 := Nat.pow_lt_pow_right (a := 2) (by decide) hk
  have e3 : (1 : Int) * 2 ^ k = ((2 ^ k : Nat) : Int) := by rw [Int.natCast_pow, Int.one_mul]; rfl
  rw [e, e3]
  have : IntKind.u32.wrap ((2 ^ k : Nat) : Int) = ((2 ^ k : Nat) : Int) := by
    simp only [IntKind.wrap, IntKind.bits, IntKind.signed, Bool.false_and, Bool.false_eq_true, if_false]
    generalize 2 ^ k = p at *
    omega
  rw [this]; exact g
theorem div32_i64 {n : Nat} (hn : n < 9223372036854775808) {x : Int} (hx : x = (n : Int)) {K : Int → Prop} (g : K ((n / 32 : Nat) : Int)) : (32 : Int) ≠ 0 ∧ letK (IntKind.i64.wrap (Int.tdiv x 32)) K := by
  subst hx
  refine ⟨by decide, ?_⟩
  have e : Int.tdiv (n : Int) 32 = ((n / 32 : Nat) : Int) := tdiv_nat n 32
  rw [e]; exact k_i64 _ rfl (by omega) (by omega) g
theorem mod32_i64 {n : Nat} {x : Int} (hx : x = (n : Int)) {K : Int → Prop} (g : K ((n % 32 : Nat) : Int)) : (32 : Int) ≠ 0 ∧ letK (Int.tmod x 32) K := by
  subst hx
  refine ⟨by decide, ?_⟩
  have e : Int.tmod (n : Int) 32 = ((n % 32 : Nat) : Int) := tmod_nat n 32
  rw [e]; exact ⟨g⟩
theorem pow_split (n : Nat) : 2 ^ n = 2 ^ (32 * (n / 32)) * 2 ^ (n % 32) := by rw [← Nat.pow_add, Nat.div_add_mod]
theorem D.val_zeros : ∀ (zs : List Nat) (m : Nat), D.val (zs ++ List.replicate m 0) = D.val zs := by
  intro zs m; rw [D.val_append, D.val_replicate]; simp
end Go.Proofs.Ytaglonbkdcmmpaa.G
