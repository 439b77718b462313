/- Naturals as lists of words, the least first: values, digits, and the sums of lists. No program in sight. -/
import Derived.Test.YtaglonbkdcmmpaaGvWords
namespace Go.Gv
def val : List Nat → Nat
  | [] => 0
  | x :: xs => x + 18446744073709551616 * val xs
def digs (n : Nat) : List Nat := if h : n = 0 then [] else n % 18446744073709551616 :: digs (n / 18446744073709551616)
  termination_by n
  decreasing_by omega
def trimL : List Nat → List Nat
  | [] => []
  | x :: xs => if x = 0 ∧ trimL xs = [] then [] else x :: trimL xs
def Words (xs : List Nat) : Prop := ∀ x ∈ xs, x < 18446744073709551616
theorem Words.cons {x : Nat} {xs : List Nat} (h : Words (x :: xs)) : x < 18446744073709551616 ∧ Words xs := ⟨h x (by simp), fun y hy => h y (by simp [hy])⟩
theorem digs_zero : digs 0 = [] := by unfold digs; simp
theorem digs_pos {n : Nat} (h : n ≠ 0) : digs n = n % 18446744073709551616 :: digs (n / 18446744073709551616) := by
  rw [digs]; simp [h]
theorem digs_words (n : Nat) : Words (digs n) := by
  induction n using Nat.strongRecOn with
  | ind n ih =>
    by_cases h : n = 0
    · subst h; rw [digs_zero]; intro x hx; cases hx
    · rw [digs_pos h]; intro x hx
      rcases List.mem_cons.mp hx with e | e
      · omega
      · exact ih _ (by omega) x e
theorem val_digs (n : Nat) : val (digs n) = n := by
  induction n using Nat.strongRecOn with
  | ind n ih =>
    by_cases h : n = 0
    · subst h; rw [digs_zero]; rfl
    · rw [digs_pos h]; show n % _ + _ * val (digs _) = n
      rw [ih _ (by omega)]; omega
theorem trimL_nil_iff {xs : List Nat} : trimL xs = [] ↔ val xs = 0 := by
  induction xs with
  | nil => simp [trimL, val]
  | cons x xs ih =>
    simp only [trimL, val]
    split
    · next h => simp only [true_iff]; have := ih.mp h.2; omega
    · next h =>
      simp only [reduceCtorEq, false_iff]
      intro e
      exact h ⟨by omega, ih.mpr (by omega)⟩
theorem digs_val {xs : List Nat} (hw : Words xs) : digs (val xs) = trimL xs := by
  induction xs with
  | nil => simp [val, trimL, digs_zero]
  | cons x xs ih =>
    have hx := hw.cons
    simp only [trimL, val]
    split
    · next h => rw [h.1, trimL_nil_iff.mp h.2]; exact digs_zero
    · next h =>
      have hn : x + 18446744073709551616 * val xs ≠ 0 := fun e => h ⟨by omega, trimL_nil_iff.mpr (by omega)⟩
      rw [digs_pos hn]
      have e1 : (x + 18446744073709551616 * val xs) % 18446744073709551616 = x := by omega
      have e2 : (x + 18446744073709551616 * val xs) / 18446744073709551616 = val xs := by omega
      rw [e1, e2, ih hx.2]
theorem val_trimL (xs : List Nat) : val (trimL xs) = val xs := by
  induction xs with
  | nil => rfl
  | cons x xs ih =>
    simp only [trimL]
    split
    · next h => simp only [val]; rw [h.1, trimL_nil_iff.mp h.2]
    · simp only [val]; rw [ih]
theorem trimL_digs (n : Nat) : trimL (digs n) = digs n := by rw [← digs_val (digs_words n), val_digs]
theorem trimL_trimL (xs : List Nat) : trimL (trimL xs) = trimL xs := by
  induction xs with
  | nil => rfl
  | cons x xs ih =>
    simp only [trimL]
    split
    · rfl
    · next h => simp only [trimL, ih]; rw [if_neg h]
theorem trimL_le (xs : List Nat) : (trimL xs).length ≤ xs.length := by
  induction xs with
  | nil => simp [trimL]
  | cons x xs ih =>
    simp only [trimL]
    split
    · simp
    · simpa using ih
theorem trimL_zero (xs : List Nat) : trimL (xs ++ [0]) = trimL xs := by
  induction xs with
  | nil => simp [trimL]
  | cons x xs ih => simp only [List.cons_append, trimL, ih]
theorem trimL_last (xs : List Nat) {x : Nat} (hx : x ≠ 0) : trimL (xs ++ [x]) = xs ++ [x] := by
  induction xs with
  | nil => simp [trimL, hx]
  | cons y xs ih =>
    simp only [List.cons_append, trimL, ih]
    rw [if_neg (by simp)]
theorem take_snoc {xs : List Nat} {n : Nat} (h : n < xs.length) : xs.take (n + 1) = xs.take n ++ [xs.getD n 0] := by
  rw [List.take_add_one]; simp [List.getD, h]
theorem trimL_iff {xs : List Nat} : trimL xs = xs ↔ (xs = [] ∨ xs.getD (xs.length - 1) 0 ≠ 0) := by
  by_cases h : xs.length = 0
  · have e : xs = [] := List.length_eq_zero_iff.mp h
    subst e; simp [trimL]
  · obtain ⟨n, hn⟩ : ∃ n, xs.length = n + 1 := ⟨xs.length - 1, by omega⟩
    have e : xs = xs.take n ++ [xs.getD n 0] := by rw [← take_snoc (by omega), ← hn, List.take_length]
    have hne : xs ≠ [] := fun e => by subst e; simp at hn
    rw [hn]; simp only [Nat.add_sub_cancel]
    constructor
    · intro ht
      refine Or.inr fun h0 => ?_
      rw [h0] at e
      rw [e, trimL_zero] at ht
      have := trimL_le (xs.take n)
      rw [ht] at this; simp at this; omega
    · rintro (h1 | h1)
      · exact absurd h1 hne
      · rw [e]; exact trimL_last _ h1
/-- An answer, within the limit of limbs. -/
def lim (n : Nat) : List Nat × Int := if (digs n).length ≤ 8192 then (digs n, 0) else ([], 5)
def Frm (xs : List Nat) : Prop := xs.length ≤ 8192 ∧ trimL xs = xs
instance (xs : List Nat) : Decidable (Frm xs) := by unfold Frm; infer_instance
theorem Frm.digs {xs : List Nat} (h : Frm xs) (hw : Words xs) : Gv.digs (val xs) = xs := by rw [digs_val hw, h.2]
theorem Frm.lim {xs : List Nat} (h : Frm xs) (hw : Words xs) : Gv.lim (val xs) = (xs, 0) := by
  unfold Gv.lim; rw [h.digs hw, if_pos h.1]
theorem lim_ok {n : Nat} (h : (lim n).2 = 0) : lim n = (digs n, 0) := by
  unfold lim at h ⊢; split at h <;> simp_all
theorem form_digs {n : Nat} (h : (lim n).2 = 0) : Frm (digs n) := by
  unfold lim at h
  split at h
  · next hl => exact ⟨hl, trimL_digs n⟩
  · cases h
theorem lim_err (n : Nat) : (lim n).2 = 0 ∨ (lim n).2 = 5 := by unfold lim; split <;> simp
theorem digs_len_mono {n m : Nat} (h : n ≤ m) : (digs n).length ≤ (digs m).length := by
  induction m using Nat.strongRecOn generalizing n with
  | ind m ih =>
    by_cases hn : n = 0
    · subst hn; rw [digs_zero]; simp
    · rw [digs_pos hn, digs_pos (n := m) (by omega)]
      simp only [List.length_cons]
      exact Nat.succ_le_succ (ih (m / 18446744073709551616) (by omega) (Nat.div_le_div_right h))
theorem lim_mono {n m : Nat} (h : n ≤ m) (hm : (lim m).2 = 0) : (lim n).2 = 0 := by
  have := (form_digs hm).1
  have h2 := digs_len_mono h
  unfold lim; rw [if_pos (by omega)]
theorem take_set_succ {s : List Nat} {j t : Nat} (h : j < s.length) : (s.set j t).take (j + 1) = s.take j ++ [t] := by
  rw [List.take_add_one, List.take_set_of_le (Nat.le_refl j)]; simp [h]
theorem drop_getD {xs : List Nat} {j : Nat} (h : j < xs.length) : xs.drop j = xs.getD j 0 :: xs.drop (j + 1) := by
  rw [List.drop_eq_getElem_cons h]; simp [List.getD, h]
theorem headD_drop (xs : List Nat) (j : Nat) : (xs.drop j).headD 0 = xs.getD j 0 := by
  simp [List.getD, List.headD_eq_head?_getD, List.head?_drop]
/-! ### sums -/
def addL : List Nat → List Nat → Nat → List Nat
  | [], _, c => [c]
  | x :: xs, ys, c => (x + ys.headD 0 + c) % 18446744073709551616 :: addL xs ys.tail ((x + ys.headD 0 + c) / 18446744073709551616)
theorem val_head_tail (ys : List Nat) : val ys = ys.headD 0 + 18446744073709551616 * val ys.tail := by cases ys <;> simp [val]
theorem addL_val : ∀ (xs ys : List Nat) (c : Nat), ys.length ≤ xs.length → val (addL xs ys c) = val xs + val ys + c
  | [], ys, c, h => by
    have e : ys = [] := List.length_eq_zero_iff.mp (by simpa using h)
    subst e; simp [addL, val]
  | x :: xs, ys, c, h => by
    simp only [addL, val]
    rw [addL_val xs ys.tail _ (by simp at h ⊢; omega)]
    have := val_head_tail ys
    omega
theorem addL_length : ∀ (xs ys : List Nat) (c : Nat), (addL xs ys c).length = xs.length + 1
  | [], _, _ => rfl
  | x :: xs, ys, c => by simp [addL, addL_length xs]
def subL : List Nat → List Nat → Nat → List Nat
  | [], _, _ => []
  | x :: xs, ys, c => (x + 18446744073709551616 - ys.headD 0 - c) % 18446744073709551616 :: subL xs ys.tail (if x < ys.headD 0 + c then 1 else 0)
theorem subL_val : ∀ (xs ys : List Nat) (c : Nat), Words xs → Words ys → ys.length ≤ xs.length → c ≤ 1 → val ys + c ≤ val xs → val (subL xs ys c) + (val ys + c) = val xs
  | [], ys, c, _, _, h, _, hv => by
    have e : ys = [] := List.length_eq_zero_iff.mp (by simpa using h)
    subst e; simp [subL, val] at hv ⊢; omega
  | x :: xs, ys, c, hx, hy, h, hc, hv => by
    have hb : ys.headD 0 < 18446744073709551616 := by cases ys with
      | nil => decide
      | cons y ys => exact hy.cons.1
    have hy' : Words ys.tail := by cases ys with
      | nil => exact hy
      | cons y ys => exact hy.cons.2
    have hx1 := hx.cons.1
    have := val_head_tail ys
    simp only [subL, val] at hv ⊢
    have hl : ys.tail.length ≤ xs.length := by simp at h ⊢; omega
    by_cases hlt : x < ys.headD 0 + c
    · rw [if_pos hlt]
      have := subL_val xs ys.tail 1 hx.cons.2 hy' hl (by omega) (by omega)
      omega
    · rw [if_neg hlt]
      have := subL_val xs ys.tail 0 hx.cons.2 hy' hl (by omega) (by omega)
      omega
theorem subL_length : ∀ (xs ys : List Nat) (c : Nat), (subL xs ys c).length = xs.length
  | [], _, _ => rfl
  | x :: xs, ys, c => by simp [subL, subL_length xs]
/-! ### order -/
theorem val_lt_at : ∀ {xs ys : List Nat} {j : Nat}, Words xs → Words ys → xs.length = ys.length → j < xs.length → xs.drop (j + 1) = ys.drop (j + 1) → xs.getD j 0 < ys.getD j 0 → val xs < val ys
  | [], _, _, _, _, _, hj, _, _ => absurd hj (by simp)
  | x :: xs, [], _, _, _, hl, _, _, _ => absurd hl (by simp)
  | x :: xs, y :: ys, 0, hx, hy, hl, hj, hd, h => by
    have e : xs = ys := by simpa using hd
    subst e
    simp only [List.getD_cons_zero] at h
    simp only [val]; omega
  | x :: xs, y :: ys, j + 1, hx, hy, hl, hj, hd, h => by
    have := val_lt_at (xs := xs) (ys := ys) (j := j) hx.cons.2 hy.cons.2 (by simpa using hl) (by simpa using hj) (by simpa using hd) (by simpa using h)
    have h1 := hx.cons.1
    have h2 := hy.cons.1
    simp only [val]; omega
theorem trimL_tail {y : Nat} {ys : List Nat} (h : trimL (y :: ys) = y :: ys) : trimL ys = ys := by
  simp only [trimL] at h
  split at h
  · cases h
  · exact List.tail_eq_of_cons_eq h
theorem val_lt_len : ∀ {xs ys : List Nat}, Words xs → trimL ys = ys → xs.length < ys.length → val xs < val ys
  | _, [], _, _, h => absurd h (by simp)
  | [], y :: ys, _, ht, _ => by
    have : val (y :: ys) ≠ 0 := fun e => by rw [trimL_nil_iff.mpr e] at ht; cases ht
    simp only [val] at this ⊢; omega
  | x :: xs, y :: ys, hx, ht, h => by
    have := val_lt_len (xs := xs) (ys := ys) hx.cons.2 (trimL_tail ht) (by simpa using h)
    have h1 := hx.cons.1
    simp only [val]; omega
def cmpI (m n : Nat) : Int := if m < n then -1 else if m = n then 0 else 1
theorem val_append (xs ys : List Nat) : val (xs ++ ys) = val xs + 2 ^ (64 * xs.length) * val ys := by
  induction xs with
  | nil => simp [val]
  | cons x xs ih =>
    simp only [List.cons_append, val, ih, List.length_cons]
    have e : 2 ^ (64 * (xs.length + 1)) = 18446744073709551616 * 2 ^ (64 * xs.length) := by
      rw [show 64 * (xs.length + 1) = 64 + 64 * xs.length by omega, Nat.pow_add]
    rw [e, Nat.mul_add, Nat.mul_assoc]; omega
theorem val_lt {xs : List Nat} (hw : Words xs) : val xs < 2 ^ (64 * xs.length) := by
  induction xs with
  | nil => simp [val]
  | cons x xs ih =>
    have e : 2 ^ (64 * (xs.length + 1)) = 18446744073709551616 * 2 ^ (64 * xs.length) := by
      rw [show 64 * (xs.length + 1) = 64 + 64 * xs.length by omega, Nat.pow_add]
    rw [List.length_cons, e]; simp only [val]
    have h1 := hw.cons.1
    have h2 := ih hw.cons.2
    omega
/-! ### bits -/
def blen (n : Nat) : Nat := if n = 0 then 0 else Nat.log2 n + 1
theorem blen_le {n k : Nat} : blen n ≤ k ↔ n < 2 ^ k := by
  unfold blen
  by_cases h : n = 0
  · subst h; simp [Nat.pow_pos]
  · rw [if_neg h]; exact Nat.log2_lt h
theorem blen_eq {n m : Nat} (h : ∀ k, blen n ≤ k ↔ m ≤ k) : blen n = m := Nat.le_antisymm ((h m).mpr (Nat.le_refl _)) ((h _).mp (Nat.le_refl _))
theorem blen_div (n s : Nat) : blen (n / 2 ^ s) = blen n - s := by
  refine blen_eq fun k => ?_
  rw [blen_le, Nat.div_lt_iff_lt_mul (Nat.pow_pos (by decide)), ← Nat.pow_add, ← blen_le]; omega
theorem blen_zero : blen 0 = 0 := rfl
theorem blen_pos {n : Nat} (h : n ≠ 0) : 0 < blen n := by unfold blen; rw [if_neg h]; omega
theorem blen_trim {xs : List Nat} (hw : Words xs) {n : Nat} (hn : xs.length = n + 1) (h0 : xs.getD n 0 ≠ 0) : blen (val xs) = 64 * n + blen (xs.getD n 0) := by
  have e : xs = xs.take n ++ [xs.getD n 0] := by rw [← take_snoc (by omega), ← hn, List.take_length]
  have hv : val xs = val (xs.take n) + 2 ^ (64 * n) * xs.getD n 0 := by
    conv => lhs; rw [e]
    rw [val_append]; simp [val, show min n xs.length = n by omega]
  have hlt : val (xs.take n) < 2 ^ (64 * n) := by
    have := val_lt (xs := xs.take n) (fun x hx => hw x (List.mem_of_mem_take hx))
    rwa [List.length_take, show min n xs.length = n by omega] at this
  have hd : val xs / 2 ^ (64 * n) = xs.getD n 0 := by
    rw [hv, Nat.add_mul_div_left _ _ (Nat.pow_pos (by decide)), Nat.div_eq_of_lt hlt, Nat.zero_add]
  have := blen_div (val xs) (64 * n)
  rw [hd] at this
  have := blen_pos h0
  omega
/-! ### lengths and limits -/
theorem digs_len {n k : Nat} : (digs n).length ≤ k ↔ n < 2 ^ (64 * k) := by
  constructor
  · intro h
    have := val_lt (digs_words n)
    rw [val_digs] at this
    exact Nat.lt_of_lt_of_le this (Nat.pow_le_pow_right (by decide) (by omega))
  · intro h
    induction k generalizing n with
    | zero => have : n = 0 := by simpa using h
              subst this; rw [digs_zero]; simp
    | succ k ih =>
      by_cases h0 : n = 0
      · subst h0; rw [digs_zero]; simp
      · rw [digs_pos h0, List.length_cons]
        have e : 2 ^ (64 * (k + 1)) = 2 ^ (64 * k) * 18446744073709551616 := by
          rw [show 64 * (k + 1) = 64 * k + 64 by omega, Nat.pow_add]
        rw [e] at h
        have := ih (n := n / 18446744073709551616) (Nat.div_lt_of_lt_mul (by rw [Nat.mul_comm]; exact h))
        omega
theorem digs_add_len {X Y k : Nat} (hX : (digs X).length ≤ k) (hY : (digs Y).length ≤ k) : (digs (X + Y)).length ≤ k + 1 := by
  refine digs_len.mpr ?_
  have h1 := digs_len.mp hX
  have h2 := digs_len.mp hY
  have e : 2 ^ (64 * (k + 1)) = 2 ^ (64 * k) * 18446744073709551616 := by
    rw [show 64 * (k + 1) = 64 * k + 64 by omega, Nat.pow_add]
  rw [e]; generalize 2 ^ (64 * k) = p at *; omega
theorem blen_mul {v : Nat} (n : Nat) (h : v ≠ 0) : blen (v * 2 ^ n) = blen v + n := by
  have h1 := blen_div (v * 2 ^ n) n
  rw [Nat.mul_div_cancel _ (Nat.pow_pos (by decide))] at h1
  have h2 := blen_pos h
  omega
theorem lim_blen' {v : Nat} (k : Nat) : blen v ≤ 64 * k ↔ (digs v).length ≤ k := by
  rw [digs_len, blen_le]
theorem lim_blen {v : Nat} : blen v ≤ 524288 ↔ (digs v).length ≤ 8192 := lim_blen' 8192
theorem lim_big {v : Nat} (h : ¬ blen v ≤ 524288) : lim v = ([], 5) := by
  unfold lim; rw [if_neg (fun hh => h (lim_blen.mpr hh))]
theorem lim_le {n m : Nat} (h : n ≤ m) (hm : (lim m).2 = 0) : lim n = (digs n, 0) := lim_ok (lim_mono h hm)
theorem val_drop {xs : List Nat} (hw : Words xs) (m : Nat) : val (xs.drop m) = val xs / 2 ^ (64 * m) := by
  by_cases hm : m ≤ xs.length
  · have e : val xs = val (xs.take m) + 2 ^ (64 * m) * val (xs.drop m) := by
      conv => lhs; rw [← List.take_append_drop m xs]
      rw [val_append, List.length_take, Nat.min_eq_left hm]
    have hlt := val_lt (xs := xs.take m) (fun x hx => hw x (List.mem_of_mem_take hx))
    rw [List.length_take, Nat.min_eq_left hm] at hlt
    rw [e, Nat.add_mul_div_left _ _ (Nat.pow_pos (by decide)), Nat.div_eq_of_lt hlt, Nat.zero_add]
  · rw [List.drop_of_length_le (by omega)]
    have := val_lt hw
    have h2 : 2 ^ (64 * xs.length) ≤ 2 ^ (64 * m) := Nat.pow_le_pow_right (by decide) (by omega)
    rw [Nat.div_eq_of_lt (by omega)]; rfl
theorem pq {k : Nat} (hk : k < 64) : 2 ^ k * 2 ^ (64 - k) = 18446744073709551616 := by
  rw [← Nat.pow_add, show k + (64 - k) = 64 by omega]
theorem pow_lt64 {k : Nat} (hk : k < 64) : 2 ^ k < 18446744073709551616 := by
  have := Nat.pow_lt_pow_right (a := 2) (by decide) hk
  exact Nat.lt_of_lt_of_le this (by decide)
theorem val_low {xs : List Nat} (hw : Words xs) {m k : Nat} (hm : m < xs.length) (hk : k < 64) : val (xs.take m ++ [xs.getD m 0 % 2 ^ k]) = val xs % 2 ^ (64 * m + k) := by
  have e : val xs = val (xs.take m) + 2 ^ (64 * m) * val (xs.drop m) := by
    conv => lhs; rw [← List.take_append_drop m xs]
    rw [val_append, List.length_take, Nat.min_eq_left (by omega)]
  have hlt := val_lt (xs := xs.take m) (fun x hx => hw x (List.mem_of_mem_take hx))
  rw [List.length_take, Nat.min_eq_left (by omega)] at hlt
  rw [val_append, List.length_take, Nat.min_eq_left (by omega), Nat.pow_add, Nat.mod_mul, e, Nat.add_mul_mod_self_left, Nat.mod_eq_of_lt hlt, Nat.add_mul_div_left _ _ (Nat.pow_pos (by decide)), Nat.div_eq_of_lt hlt, Nat.zero_add, drop_getD hm]
  simp only [val, Nat.mul_zero, Nat.add_zero]
  congr 2
  rw [← pq hk, Nat.mul_assoc, Nat.add_mul_mod_self_left]
end Go.Gv
