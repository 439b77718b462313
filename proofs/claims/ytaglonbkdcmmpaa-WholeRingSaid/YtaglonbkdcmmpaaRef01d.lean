/- What the digits' calls of the reference answer: digit, DivMod. -/
import Derived.Test.YtaglonbkdcmmpaaRef01c
namespace Go.Proofs.Ytaglonbkdcmmpaa.G
open Go.Gv
set_option maxRecDepth 100000
set_option linter.unusedVariables false
/-! ### windows of blocks -/
theorem win_at {h : Hp} {q off l : Nat} {A W B : List Nat} (o : BlkE eU32 h q (A ++ (W ++ B))) (hA : A.length = off) (hl : l = W.length) (hlen : W.length ≤ 70368744177656) {i : Int} {j : Nat} (hi : i = (j : Int)) (hj : j < W.length) {K : Int → Prop}
    (g : K (W.getD j 0 : Nat)) : idxK (some ⟨q, off, none⟩) l i 1 fun q => ldK h q fun v => gInt .u32 v K := by
  have r := o.rdAt (off := off) (n := W.length) (c := W.length) hlen (by simp; omega) (Nat.le_refl _)
  have e : ((A ++ (W ++ B)).drop off).take W.length = W := by rw [← hA, List.drop_left, List.take_left]
  rw [e] at r
  exact at32 r hi hl hj g
/-- A heap that was reached by writing into one block alone. -/
def KK (hv : Hp) (q : Nat) (h1 h : Hp) : Prop := Keep hv h ∧ KeepB q h1 h
theorem win_put {h hv h1 : Hp} {q off l : Nat} {A W B : List Nat} (o : BlkE eU32 h q (A ++ (W ++ B))) (hA : A.length = off) (hl : l = W.length) (kp : KK hv q h1 h) (hq : hv.size ≤ q) {i : Int} {j : Nat} (hi : i = (j : Int)) (hj : j < W.length) {x : Int} {v : Nat} (hx : x = (v : Int)) (hvv : v < 4294967296) {K : Hp → Prop}
    (g : ∀ h', BlkE eU32 h' q (A ++ (W.set j v ++ B)) → KK hv q h1 h' → K h') : idxK (some ⟨q, off, none⟩) l i 1 fun q => stK h q (.int .u32 x) K := by
  refine putE o hi (by omega) (by simp; omega) (by rw [hx]; rfl) hvv fun o2 k2 => ?_
  refine g _ ?_ ⟨k2.keep kp.1 hq, kp.2.trans k2⟩
  have e : (A ++ (W ++ B)).set (off + j) v = A ++ (W.set j v ++ B) := by
    rw [← hA, List.set_append_right _ _ (by omega), Nat.add_sub_cancel_left, List.set_append_left _ _ hj]
  rw [e] at o2; exact o2
/-! ### digit -/
theorem dig_step {W ys : List Nat} {j w U c o c' o' t : Nat} (hj : j < W.length) (h1 : c + w * ys.getD j 0 + o + t = W.getD j 0 + 4294967296 * (c' + o')) (e : D.val W + w * D.val (ys.take j) = U + (c + o) * 2 ^ (32 * j)) :
    D.val (W.set j t) + w * D.val (ys.take (j + 1)) = U + (c' + o') * 2 ^ (32 * (j + 1)) := by
  have hs := D.val_set (zs := W) (j := j) (v := t) hj
  rw [take_val, D.pow_step]
  generalize 2 ^ (32 * j) = P at *
  generalize W.getD j 0 = z at *
  have e1 : (c + w * ys.getD j 0 + o + t) * P = (z + 4294967296 * (c' + o')) * P := by rw [h1]
  have e2 : (c + w * ys.getD j 0 + o + t) * P = (c + o) * P + w * (P * ys.getD j 0) + t * P := by
    have : w * (P * ys.getD j 0) = w * ys.getD j 0 * P := by rw [Nat.mul_comm P, Nat.mul_assoc]
    rw [this, ← Nat.add_mul, ← Nat.add_mul]; congr 1; omega
  have e3 : (z + 4294967296 * (c' + o')) * P = z * P + (c' + o') * (4294967296 * P) := by
    rw [Nat.add_mul, Nat.mul_comm 4294967296, Nat.mul_assoc]
  rw [Nat.mul_add]
  omega
theorem dig_back {W ys : List Nat} {j T c c' t : Nat} (hj : j < W.length) (h1 : c + W.getD j 0 + ys.getD j 0 = t + 4294967296 * c') (e : D.val W + c * 2 ^ (32 * j) = T + D.val (ys.take j)) :
    D.val (W.set j t) + c' * 2 ^ (32 * (j + 1)) = T + D.val (ys.take (j + 1)) := by
  have hs := D.val_set (zs := W) (j := j) (v := t) hj
  rw [take_val, D.pow_step]
  generalize 2 ^ (32 * j) = P at *
  generalize W.getD j 0 = z at *
  have e1 : (c + z + ys.getD j 0) * P = (t + 4294967296 * c') * P := by rw [h1]
  have e2 : (c + z + ys.getD j 0) * P = c * P + z * P + P * ys.getD j 0 := by rw [Nat.add_mul, Nat.add_mul, Nat.mul_comm P]
  have e3 : (t + 4294967296 * c') * P = t * P + c' * (4294967296 * P) := by rw [Nat.add_mul, Nat.mul_comm 4294967296, Nat.mul_assoc]
  omega
theorem getD_top {xs : List Nat} (hw : D.Words xs) {m : Nat} (hm : xs.length = m + 1) : D.val xs / 2 ^ (32 * m) = xs.getD m 0 := by
  rw [← D.val_drop hw, drop_getD (by omega), List.drop_of_length_le (by omega)]; simp [D.val]
theorem getD_two {xs : List Nat} (hw : D.Words xs) {m : Nat} (hm : xs.length = m + 2) : D.val xs / 2 ^ (32 * m) = xs.getD m 0 + 4294967296 * xs.getD (m + 1) 0 := by
  rw [← D.val_drop hw, drop_getD (by omega), drop_getD (by omega), List.drop_of_length_le (by omega)]; simp [D.val]
end Go.Proofs.Ytaglonbkdcmmpaa.G
