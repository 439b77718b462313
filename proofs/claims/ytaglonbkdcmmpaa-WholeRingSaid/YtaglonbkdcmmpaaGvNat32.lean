/- Digits to the base 2^32: the facts of GvNat for them. Written by a program of this work. -/
import Derived.Test.YtaglonbkdcmmpaaGvBlock
namespace Go.Gv.D
def val : List Nat → Nat
  | [] => 0
  | x :: xs => x + 4294967296 * val xs
def digs (n : Nat) : List Nat := if h : n = 0 then [] else n % 4294967296 :: digs (n / 4294967296)
  termination_by n
  decreasing_by omega
def Words (xs : List Nat) : Prop := ∀ x ∈ xs, x < 4294967296
theorem Words.cons {x : Nat} {xs : List Nat} (h : Words (x :: xs)) : x < 4294967296 ∧ Words xs := ⟨h x (by simp), fun y hy => h y (by simp [hy])⟩
theorem digs_zero : digs 0 = [] := by unfold digs; simp
theorem digs_pos {n : Nat} (h : n ≠ 0) : digs n = n % 4294967296 :: digs (n / 4294967296) := by
  rw [digs]; simp [h]
theorem digs_words (n : Nat) : Words (digs n) := by
  induction n using Nat.strongRecOn with
  | ind n ih =>
    by_cases h : n = 0
    · subst h; rw [digs_zero]; intro x hx; cases hx
    · rw [digs_pos h]; intro x hx
      rcases List.mem_cons.mp hx with e | e
      · omega
      · exact ih _ (by omega) x e
theorem val_digs (n : Nat) : val (digs n) = n := by
  induction n using Nat.strongRecOn with
  | ind n ih =>
    by_cases h : n = 0
    · subst h; rw [digs_zero]; rfl
    · rw [digs_pos h]; show n % _ + _ * val (digs _) = n
      rw [ih _ (by omega)]; omega
theorem trimL_nil_iff {xs : List Nat} : trimL xs = [] ↔ val xs = 0 := by
  induction xs with
  | nil => simp [trimL, val]
  | cons x xs ih =>
    simp only [trimL, val]
    split
    · next h => simp only [true_iff]; have := ih.mp h.2; omega
    · next h =>
      simp only [reduceCtorEq, false_iff]
      intro e
      exact h ⟨by omega, ih.mpr (by omega)⟩
theorem digs_val {xs : List Nat} (hw : Words xs) : digs (val xs) = trimL xs := by
  induction xs with
  | nil => simp [val, trimL, digs_zero]
  | cons x xs ih =>
    have hx := hw.cons
    simp only [trimL, val]
    split
    · next h => rw [h.1, trimL_nil_iff.mp h.2]; exact digs_zero
    · next h =>
      have hn : x + 4294967296 * val xs ≠ 0 := fun e => h ⟨by omega, trimL_nil_iff.mpr (by omega)⟩
      rw [digs_pos hn]
      have e1 : (x + 4294967296 * val xs) % 4294967296 = x := by omega
      have e2 : (x + 4294967296 * val xs) / 4294967296 = val xs := by omega
      rw [e1, e2, ih hx.2]
theorem val_trimL (xs : List Nat) : val (trimL xs) = val xs := by
  induction xs with
  | nil => rfl
  | cons x xs ih =>
    simp only [trimL]
    split
    · next h => simp only [val]; rw [h.1, trimL_nil_iff.mp h.2]
    · simp only [val]; rw [ih]
theorem trimL_digs (n : Nat) : trimL (digs n) = digs n := by rw [← digs_val (digs_words n), val_digs]
theorem digs_len_mono {n m : Nat} (h : n ≤ m) : (digs n).length ≤ (digs m).length := by
  induction m using Nat.strongRecOn generalizing n with
  | ind m ih =>
    by_cases hn : n = 0
    · subst hn; rw [digs_zero]; simp
    · rw [digs_pos hn, digs_pos (n := m) (by omega)]
      simp only [List.length_cons]
      exact Nat.succ_le_succ (ih (m / 4294967296) (by omega) (Nat.div_le_div_right h))
theorem val_head_tail (ys : List Nat) : val ys = ys.headD 0 + 4294967296 * val ys.tail := by cases ys <;> simp [val]
theorem val_lt_at : ∀ {xs ys : List Nat} {j : Nat}, Words xs → Words ys → xs.length = ys.length → j < xs.length → xs.drop (j + 1) = ys.drop (j + 1) → xs.getD j 0 < ys.getD j 0 → val xs < val ys
  | [], _, _, _, _, _, hj, _, _ => absurd hj (by simp)
  | x :: xs, [], _, _, _, hl, _, _, _ => absurd hl (by simp)
  | x :: xs, y :: ys, 0, hx, hy, hl, hj, hd, h => by
    have e : xs = ys := by simpa using hd
    subst e
    simp only [List.getD_cons_zero] at h
    simp only [val]; omega
  | x :: xs, y :: ys, j + 1, hx, hy, hl, hj, hd, h => by
    have := val_lt_at (xs := xs) (ys := ys) (j := j) hx.cons.2 hy.cons.2 (by simpa using hl) (by simpa using hj) (by simpa using hd) (by simpa using h)
    have h1 := hx.cons.1
    have h2 := hy.cons.1
    simp only [val]; omega
theorem val_lt_len : ∀ {xs ys : List Nat}, Words xs → trimL ys = ys → xs.length < ys.length → val xs < val ys
  | _, [], _, _, h => absurd h (by simp)
  | [], y :: ys, _, ht, _ => by
    have : val (y :: ys) ≠ 0 := fun e => by rw [trimL_nil_iff.mpr e] at ht; cases ht
    simp only [val] at this ⊢; omega
  | x :: xs, y :: ys, hx, ht, h => by
    have := val_lt_len (xs := xs) (ys := ys) hx.cons.2 (trimL_tail ht) (by simpa using h)
    have h1 := hx.cons.1
    simp only [val]; omega
theorem val_append (xs ys : List Nat) : val (xs ++ ys) = val xs + 2 ^ (32 * xs.length) * val ys := by
  induction xs with
  | nil => simp [val]
  | cons x xs ih =>
    simp only [List.cons_append, val, ih, List.length_cons]
    have e : 2 ^ (32 * (xs.length + 1)) = 4294967296 * 2 ^ (32 * xs.length) := by
      rw [show 32 * (xs.length + 1) = 32 + 32 * xs.length by omega, Nat.pow_add]
    rw [e, Nat.mul_add, Nat.mul_assoc]; omega
theorem val_lt {xs : List Nat} (hw : Words xs) : val xs < 2 ^ (32 * xs.length) := by
  induction xs with
  | nil => simp [val]
  | cons x xs ih =>
    have e : 2 ^ (32 * (xs.length + 1)) = 4294967296 * 2 ^ (32 * xs.length) := by
      rw [show 32 * (xs.length + 1) = 32 + 32 * xs.length by omega, Nat.pow_add]
    rw [List.length_cons, e]; simp only [val]
    have h1 := hw.cons.1
    have h2 := ih hw.cons.2
    omega
theorem blen_trim {xs : List Nat} (hw : Words xs) {n : Nat} (hn : xs.length = n + 1) (h0 : xs.getD n 0 ≠ 0) : blen (val xs) = 32 * n + blen (xs.getD n 0) := by
  have e : xs = xs.take n ++ [xs.getD n 0] := by rw [← take_snoc (by omega), ← hn, List.take_length]
  have hv : val xs = val (xs.take n) + 2 ^ (32 * n) * xs.getD n 0 := by
    conv => lhs; rw [e]
    rw [val_append]; simp [val, show min n xs.length = n by omega]
  have hlt : val (xs.take n) < 2 ^ (32 * n) := by
    have := val_lt (xs := xs.take n) (fun x hx => hw x (List.mem_of_mem_take hx))
    rwa [List.length_take, show min n xs.length = n by omega] at this
  have hd : val xs / 2 ^ (32 * n) = xs.getD n 0 := by
    rw [hv, Nat.add_mul_div_left _ _ (Nat.pow_pos (by decide)), Nat.div_eq_of_lt hlt, Nat.zero_add]
  have := blen_div (val xs) (32 * n)
  rw [hd] at this
  have := blen_pos h0
  omega
theorem digs_len {n k : Nat} : (digs n).length ≤ k ↔ n < 2 ^ (32 * k) := by
  constructor
  · intro h
    have := val_lt (digs_words n)
    rw [val_digs] at this
    exact Nat.lt_of_lt_of_le this (Nat.pow_le_pow_right (by decide) (by omega))
  · intro h
    induction k generalizing n with
    | zero => have : n = 0 := by simpa using h
              subst this; rw [digs_zero]; simp
    | succ k ih =>
      by_cases h0 : n = 0
      · subst h0; rw [digs_zero]; simp
      · rw [digs_pos h0, List.length_cons]
        have e : 2 ^ (32 * (k + 1)) = 2 ^ (32 * k) * 4294967296 := by
          rw [show 32 * (k + 1) = 32 * k + 32 by omega, Nat.pow_add]
        rw [e] at h
        have := ih (n := n / 4294967296) (Nat.div_lt_of_lt_mul (by rw [Nat.mul_comm]; exact h))
        omega
theorem digs_add_len {X Y k : Nat} (hX : (digs X).length ≤ k) (hY : (digs Y).length ≤ k) : (digs (X + Y)).length ≤ k + 1 := by
  refine digs_len.mpr ?_
  have h1 := digs_len.mp hX
  have h2 := digs_len.mp hY
  have e : 2 ^ (32 * (k + 1)) = 2 ^ (32 * k) * 4294967296 := by
    rw [show 32 * (k + 1) = 32 * k + 32 by omega, Nat.pow_add]
  rw [e]; generalize 2 ^ (32 * k) = p at *; omega
theorem lim_blen' {v : Nat} (k : Nat) : blen v ≤ 32 * k ↔ (digs v).length ≤ k := by
  rw [digs_len, blen_le]
theorem val_drop {xs : List Nat} (hw : Words xs) (m : Nat) : val (xs.drop m) = val xs / 2 ^ (32 * m) := by
  by_cases hm : m ≤ xs.length
  · have e : val xs = val (xs.take m) + 2 ^ (32 * m) * val (xs.drop m) := by
      conv => lhs; rw [← List.take_append_drop m xs]
      rw [val_append, List.length_take, Nat.min_eq_left hm]
    have hlt := val_lt (xs := xs.take m) (fun x hx => hw x (List.mem_of_mem_take hx))
    rw [List.length_take, Nat.min_eq_left hm] at hlt
    rw [e, Nat.add_mul_div_left _ _ (Nat.pow_pos (by decide)), Nat.div_eq_of_lt hlt, Nat.zero_add]
  · rw [List.drop_of_length_le (by omega)]
    have := val_lt hw
    have h2 : 2 ^ (32 * xs.length) ≤ 2 ^ (32 * m) := Nat.pow_le_pow_right (by decide) (by omega)
    rw [Nat.div_eq_of_lt (by omega)]; rfl
theorem pq {k : Nat} (hk : k < 32) : 2 ^ k * 2 ^ (32 - k) = 4294967296 := by
  rw [← Nat.pow_add, show k + (32 - k) = 32 by omega]
theorem val_low {xs : List Nat} (hw : Words xs) {m k : Nat} (hm : m < xs.length) (hk : k < 32) : val (xs.take m ++ [xs.getD m 0 % 2 ^ k]) = val xs % 2 ^ (32 * m + k) := by
  have e : val xs = val (xs.take m) + 2 ^ (32 * m) * val (xs.drop m) := by
    conv => lhs; rw [← List.take_append_drop m xs]
    rw [val_append, List.length_take, Nat.min_eq_left (by omega)]
  have hlt := val_lt (xs := xs.take m) (fun x hx => hw x (List.mem_of_mem_take hx))
  rw [List.length_take, Nat.min_eq_left (by omega)] at hlt
  rw [val_append, List.length_take, Nat.min_eq_left (by omega), Nat.pow_add, Nat.mod_mul, e, Nat.add_mul_mod_self_left, Nat.mod_eq_of_lt hlt, Nat.add_mul_div_left _ _ (Nat.pow_pos (by decide)), Nat.div_eq_of_lt hlt, Nat.zero_add, drop_getD hm]
  simp only [val, Nat.mul_zero, Nat.add_zero]
  congr 2
  rw [← pq hk, Nat.mul_assoc, Nat.add_mul_mod_self_left]
theorem val_set : ∀ {zs : List Nat} {j v : Nat}, j < zs.length → val (zs.set j v) + zs.getD j 0 * 2 ^ (32 * j) = val zs + v * 2 ^ (32 * j)
  | [], _, _, h => absurd h (by simp)
  | z :: zs, 0, v, _ => by simp [val]; omega
  | z :: zs, j + 1, v, h => by
    have ih := val_set (zs := zs) (j := j) (v := v) (by simpa using h)
    have e : 2 ^ (32 * (j + 1)) = 4294967296 * 2 ^ (32 * j) := by
      rw [show 32 * (j + 1) = 32 + 32 * j by omega, Nat.pow_add]
    simp only [List.set_cons_succ, val, List.getD_cons_succ, e]
    have e1 : zs.getD j 0 * (4294967296 * 2 ^ (32 * j)) = 4294967296 * (zs.getD j 0 * 2 ^ (32 * j)) := Nat.mul_left_comm _ _ _
    have e2 : v * (4294967296 * 2 ^ (32 * j)) = 4294967296 * (v * 2 ^ (32 * j)) := Nat.mul_left_comm _ _ _
    rw [e1, e2]
    generalize zs.getD j 0 * 2 ^ (32 * j) = a at *
    generalize v * 2 ^ (32 * j) = b at *
    omega
theorem pow_step (j : Nat) : 2 ^ (32 * (j + 1)) = 4294967296 * 2 ^ (32 * j) := by
  rw [show 32 * (j + 1) = 32 + 32 * j by omega, Nat.pow_add]
theorem val_getD_drop (xs : List Nat) (i : Nat) : val (xs.drop i) = xs.getD i 0 + 4294967296 * val (xs.drop (i + 1)) := by
  by_cases h : i < xs.length
  · rw [drop_getD h]; rfl
  · rw [List.drop_of_length_le (by omega), List.drop_of_length_le (by omega)]
    simp [val, List.getD, show xs.length ≤ i by omega]
theorem lt_of_val {zs : List Nat} {T P i : Nat} (hP : P = 2 ^ (32 * i)) (h : P ≤ T) (hT : T < 2 ^ (32 * zs.length)) : i < zs.length := by
  subst hP
  refine Nat.lt_of_not_le fun hh => ?_
  have : 2 ^ (32 * zs.length) ≤ 2 ^ (32 * i) := Nat.pow_le_pow_right (by decide) (by omega)
  omega
theorem val_replicate (m : Nat) : val (List.replicate m 0) = 0 := by
  induction m with
  | zero => rfl
  | succ m ih => rw [List.replicate_succ]; simp [val, ih]
end Go.Gv.D
