/- What rows, cut and sum answer. -/
import Derived.Test.YtaglonbkdcmmpaaMulSpec
namespace Go.Proofs.Ytaglonbkdcmmpaa.G
open Go.Gv
set_option maxRecDepth 100000
theorem getD_set_ne {zs : List Nat} {i t v : Nat} (h : i ≠ t) : (zs.set i v).getD t 0 = zs.getD t 0 := by
  simp [List.getD, h]
theorem rows_inner {R : Rt} {N2 : Option Addr → Nat → Nat → Option Addr → Nat → Nat → Option Addr → Nat → Nat → Int → Int → Hp → Prop} {a b : Option Addr} {c c1 c2 la lb n j q T : Nat} {xs ys : List Nat} {h0 : Hp} {X : Int}
    (r : Rd h0 a c1 xs) (s : Rd h0 b c2 ys) (hla : la = xs.length) (hlb : lb = ys.length) (ox : xs = [] ∨ Off q a) (oy : Off q b) (hj : j < ys.length) (hn : n = xs.length + ys.length)
    (g : ∀ h' zs, KeepB q h0 h' → Mine h' q zs → zs.length = n → (∀ t, j + 1 + xs.length ≤ t → zs.getD t 0 = 0) → val zs + val (ys.drop (j + 1)) * val xs * 2 ^ (64 * (j + 1)) = T → N2 (some ⟨q, 0, none⟩) n c a la c1 b lb c2 X ((j + 1 : Nat) : Int) h') :
    ∀ (k i ca : Nat) (zs : List Nat) (h : Hp), i + k = xs.length → ca < 18446744073709551616 → zs.length = n → Mine h q zs → KeepB q h0 h → (∀ t, j + xs.length ≤ t → zs.getD t 0 = 0) →
      val zs + (val (xs.drop i) * ys.getD j 0 + ca) * 2 ^ (64 * (i + j)) + val (ys.drop (j + 1)) * val xs * 2 ^ (64 * (j + 1)) = T →
      natmul_rows.L8.t R N2 (k + 1) (some ⟨q, 0, none⟩) n c a la c1 b lb c2 (j : Int) (ca : Int) X (j : Int) (la : Int) (i : Int) h := by
  subst hla; subst hlb
  intro k
  induction k with
  | zero =>
    intro i ca zs h hi hc hz o kp z0 e
    have hlen := o.len
    unfold natmul_rows.L8.t natmul_rows.D9.t
    refine c_dec (fun hb => absurd hb (by omega)) fun hb => ?_
    have ei : i = xs.length := by omega
    subst ei
    unfold natmul_rows.D6.t
    refine k_i64 ((j + xs.length : Nat) : Int) (by omega) (by omega) (by omega) ?_
    refine mine_put o (j := j + xs.length) rfl hz.symm (by omega) rfl hc fun o2 k2 => ?_
    unfold natmul_rows.D4.t
    refine k_i64 ((j + 1 : Nat) : Int) (by omega) (by omega) (by omega) ?_
    refine g _ _ (kp.trans k2) o2 (by simp [hz]) (fun t ht => ?_) ?_
    · rw [getD_set_ne (by omega)]; exact z0 t (by omega)
    · have hs := val_set (zs := zs) (j := j + xs.length) (v := ca) (by omega)
      rw [z0 _ (Nat.le_refl _)] at hs
      rw [List.drop_length, Nat.add_comm xs.length j] at e
      simp only [val, Nat.zero_mul, Nat.zero_add, Nat.add_zero] at hs e
      omega
  | succ k ih =>
    intro i ca zs h hi hc hz o kp z0 e
    have hlen := o.len
    have hxn := r.word i
    have hyn := s.word j
    have hzn := o.word (i + j)
    have ox' : Off q a := by
      rcases ox with hh | hh
      · subst hh; simp at hi
      · exact hh
    have hp : xs.getD i 0 * ys.getD j 0 ≤ 340282366920938463426481119284349108225 := Nat.mul_le_mul (show xs.getD i 0 ≤ 18446744073709551615 by omega) (show ys.getD j 0 ≤ 18446744073709551615 by omega)
    unfold natmul_rows.L8.t natmul_rows.D9.t
    refine c_dec (fun hb => ?_) fun hb => absurd (by omega) hb
    refine at_intro (r.keepB ox' kp) (j := i) rfl rfl (by omega) ?_
    refine at_intro (s.keepB oy kp) (j := j) rfl rfl (by omega) ?_
    refine hc_intro (Mul64_spec hxn hyn _) fun v h' ⟨e1, an⟩ => ?_
    subst e1
    refine an.elim ?_
    have ev : val (xs.drop i) * ys.getD j 0 = xs.getD i 0 * ys.getD j 0 + 18446744073709551616 * (val (xs.drop (i + 1)) * ys.getD j 0) := by
      rw [val_getD_drop, Nat.add_mul, Nat.mul_assoc]
    rw [ev] at e
    generalize xs.getD i 0 * ys.getD j 0 = p at *
    refine add_intro (c := 0) rfl rfl rfl (by omega) ?_
    refine k_u64 ((p + ca) / 18446744073709551616) (by omega) (by omega) ?_
    refine k_i64 ((i + j : Nat) : Int) (by omega) (by omega) (by omega) ?_
    refine k_i64 ((i + j : Nat) : Int) (by omega) (by omega) (by omega) ?_
    refine at_intro (o.rd (c := n) (by omega)) (j := i + j) rfl (by omega) (by omega) ?_
    refine add_intro (c := 0) rfl rfl rfl (by omega) ?_
    have e5 : (zs.getD (i + j) 0 + (p % 18446744073709551616 + ca + 0) % 18446744073709551616 + 0) % 18446744073709551616 = (p + ca + zs.getD (i + j) 0) % 18446744073709551616 := by omega
    have e6 : (p + ca) / 18446744073709551616 + (zs.getD (i + j) 0 + (p % 18446744073709551616 + ca + 0) % 18446744073709551616 + 0) / 18446744073709551616 = (p + ca + zs.getD (i + j) 0) / 18446744073709551616 := by omega
    rw [e5]
    refine mine_put o (j := i + j) rfl hz.symm (by omega) rfl (by omega) fun o2 k2 => ?_
    refine k_u64 ((p + ca + zs.getD (i + j) 0) / 18446744073709551616) (by rw [← Int.natCast_add, e6]) (by omega) ?_
    refine k_i64 ((i + 1 : Nat) : Int) (by omega) (by omega) (by omega) ?_
    refine ih (i + 1) _ _ _ (by omega) (by omega) (by simp [hz]) o2 (kp.trans k2) (fun t ht => ?_) ?_
    · rw [getD_set_ne (by omega)]; exact z0 t ht
    · have hs := val_set (zs := zs) (j := i + j) (v := (p + ca + zs.getD (i + j) 0) % 18446744073709551616) (by omega)
      have := step_up (B := 18446744073709551616) (p := p) (c := ca) (r := val (xs.drop (i + 1)) * ys.getD j 0) (z' := (p + ca + zs.getD (i + j) 0) % 18446744073709551616) (c' := (p + ca + zs.getD (i + j) 0) / 18446744073709551616) (by omega) hs
      rw [show i + 1 + j = i + j + 1 by omega, pow_step (i + j), this]; exact e
theorem rows_outer {R : Rt} {a b : Option Addr} {c c1 c2 la lb n q T : Nat} {xs ys : List Nat} {h0 : Hp}
    (r : Rd h0 a c1 xs) (s : Rd h0 b c2 ys) (hla : la = xs.length) (hlb : lb = ys.length) (ox : xs = [] ∨ Off q a) (oy : ys = [] ∨ Off q b) (hn : n = xs.length + ys.length)
    (g : ∀ h' zs, KeepB q h0 h' → Mine h' q zs → zs.length = n → val zs = T → R (.tuple #[]) h') :
    ∀ (k j : Nat) (zs : List Nat) (h : Hp), j + k = ys.length → zs.length = n → Mine h q zs → KeepB q h0 h → (∀ t, j + xs.length ≤ t → zs.getD t 0 = 0) → val zs + val (ys.drop j) * val xs * 2 ^ (64 * j) = T →
      natmul_rows.L2.t R (k + 1) (some ⟨q, 0, none⟩) n c a la c1 b lb c2 (lb : Int) (j : Int) h := by
  subst hla; subst hlb
  intro k
  induction k with
  | zero =>
    intro j zs h hj hz o kp z0 e
    unfold natmul_rows.L2.t natmul_rows.D3.t
    refine c_dec (fun hb => absurd hb (by omega)) fun hb => ?_
    refine g _ _ kp o hz ?_
    rw [List.drop_of_length_le (by omega)] at e
    simpa [val] using e
  | succ k ih =>
    intro j zs h hj hz o kp z0 e
    have oy' : Off q b := by
      rcases oy with hh | hh
      · subst hh; simp at hj
      · exact hh
    unfold natmul_rows.L2.t natmul_rows.D3.t
    refine c_dec (fun hb => ?_) fun hb => absurd (by omega) hb
    unfold natmul_rows.D5.t natmul_rows.D7.t
    refine ⟨xs.length + 1, ?_⟩
    refine rows_inner (T := T) r s rfl rfl ox oy' (by omega) hn (fun h' zs' k' o' hz' z0' e' => ?_) xs.length 0 0 zs h (by omega) (by omega) hz o kp z0 ?_
    · exact ih (j + 1) zs' h' (by omega) hz' o' k' z0' e'
    · rw [val_getD_drop] at e
      rw [← e, pow_step, Nat.zero_add, List.drop_zero, Nat.add_zero, Nat.add_mul, Nat.add_mul, Nat.mul_comm (val xs)]
      have e2 : val (ys.drop (j + 1)) * val xs * (18446744073709551616 * 2 ^ (64 * j)) = 18446744073709551616 * val (ys.drop (j + 1)) * val xs * 2 ^ (64 * j) := by
        rw [Nat.mul_left_comm, Nat.mul_assoc 18446744073709551616, Nat.mul_assoc 18446744073709551616]
      rw [e2]; omega
theorem rows_spec {a b : Option Addr} {c c1 c2 la lb n q : Nat} {xs ys : List Nat} {h : Hp} (o : Mine h q (List.replicate n 0)) (r : Rd h a c1 xs) (s : Rd h b c2 ys) (hla : la = xs.length) (hlb : lb = ys.length) (ox : xs = [] ∨ Off q a) (oy : ys = [] ∨ Off q b) (hn : n = xs.length + ys.length) :
    HC natmul_rows.id #[.slice (some ⟨q, 0, none⟩) n c, .slice a la c1, .slice b lb c2] h fun v h' => v = .tuple #[] ∧ KeepB q h h' ∧ ∃ zs, Mine h' q zs ∧ zs.length = n ∧ val zs = val xs * val ys := by
  refine natmul_rows.ok ?_
  unfold natmul_rows.t natmul_rows.D1.t
  refine ⟨ys.length + 1, ?_⟩
  refine rows_outer r s hla hlb ox oy hn (fun h' zs' k o' hz' e => ⟨rfl, k, zs', o', hz', e⟩) ys.length 0 _ h (by omega) (by simp) o (KeepB.refl _ _) (fun t _ => ?_) ?_
  · simp only [List.getD, List.getElem?_replicate]; split <;> rfl
  · rw [val_replicate, List.drop_zero]; simp [Nat.mul_comm]
/-! ### parts and sums -/
/-- A list in new memory, whose block is the call's own. -/
def Fresh (h h' : Hp) (v : Value) (xs : List Nat) : Prop := ∃ q, h.size ≤ q ∧ v = .slice (some ⟨q, 0, none⟩) xs.length xs.length ∧ Mine h' q xs
theorem Fresh.elim {h h' : Hp} {v : Value} {xs : List Nat} {K : Option Addr → Nat → Nat → Prop} (f : Fresh h h' v xs) (g : ∀ q, h.size ≤ q → Mine h' q xs → K (some ⟨q, 0, none⟩) xs.length xs.length) : gSlice v K := by
  obtain ⟨q, hq, e, o⟩ := f
  subst e; exact g q hq o
theorem off_of_ne {b q : Nat} (h : b ≠ q) : Off q (some ⟨b, 0, none⟩) := fun p e => by cases e; exact h
/-- The trimmed upper part of a block is the call's answer. -/
theorem mtrim_fresh {h0 h : Hp} {q n c : Nat} {zs : List Nat} {K : Value → Hp → Prop} (hq : h0.size ≤ q) (o : Mine h q zs) (hn : n = zs.length) (hc : n ≤ c) (g : ∀ v, Fresh h0 h v (digs (val zs)) → K v h) :
    HC natmul_trim.id #[.slice (some ⟨q, 0, none⟩) n c] h K := by
  refine hc_intro (mtrim_spec (o.rd (c := c) (by omega)) hn) fun v h' ⟨e1, e2⟩ => ?_
  subst e1; subst e2
  refine g _ ?_
  rw [digs_val o.words]
  exact ⟨q, hq, rfl, by have := o.take (trimL zs).length; rw [trimL_take] at this; exact this⟩
theorem cut_spec {a : Option Addr} {c l k : Nat} {xs : List Nat} {h : Hp} {x : Int} (r : Rd h a c xs) (hl : l = xs.length) (hx : x = (k : Int)) :
    HC natmul_cut.id #[.slice a l c, .int .i64 x] h fun v h' => h' = h ∧ ∃ a2, v = .tuple #[.slice a (trimL (xs.take k)).length (trimL (xs.take k)).length, .slice a2 (xs.drop k).length (xs.drop k).length] ∧
      Rd h a (trimL (xs.take k)).length (trimL (xs.take k)) ∧ Rd h a2 (xs.drop k).length (xs.drop k) ∧ ∀ q, Off q a → Off q a2 := by
  subst hl; subst hx
  have hc := r.cap
  refine natmul_cut.ok ?_
  unfold natmul_cut.t natmul_cut.D1.t
  refine c_dec (fun hb => ?_) fun hb => ?_
  · refine sl_to3 rfl rfl hc ?_
    refine hc_intro (mtrim_spec (r.cap_le (Nat.le_refl _)) rfl) fun v h' ⟨e1, e2⟩ => ?_
    subst e1; subst e2
    refine gSlice_intro rfl ?_
    rw [List.take_of_length_le (by omega), List.drop_of_length_le (by omega)]
    exact ⟨rfl, none, rfl, rd_trim r, Rd.nil _ _ _, fun q _ => Off.none q⟩
  · refine sl_to3 rfl rfl (by omega) ?_
    have hk : (xs.take k).length = k := by rw [List.length_take]; omega
    have rt := (r.take k).cap_le (Nat.le_refl _)
    rw [hk] at rt
    refine hc_intro (mtrim_spec rt hk.symm) fun v h' ⟨e1, e2⟩ => ?_
    subst e1; subst e2
    refine gSlice_intro rfl ?_
    refine sl_mid3 rfl rfl rfl (by omega) hc ?_
    refine ⟨rfl, subA a xs.length k 1, ?_, rd_trim rt, ?_, fun q oq => oq.sub _ _ _⟩
    · rw [List.length_drop]
    · have rd := (r.cap_le (Nat.le_refl _)).drop k (by omega)
      exact rd.cap_le (Nat.le_refl _)
theorem val_cut (xs : List Nat) (k : Nat) : val xs = val (trimL (xs.take k)) + 2 ^ (64 * k) * val (xs.drop k) := by
  rw [val_trimL]
  by_cases h : k ≤ xs.length
  · conv => lhs; rw [← List.take_append_drop k xs]
    rw [val_append, List.length_take, Nat.min_eq_left h]
  · rw [List.take_of_length_le (by omega), List.drop_of_length_le (by omega)]; simp [val]
theorem fit_of {M n k : Nat} (hk : k ≤ n) (h : M * 2 ^ (64 * k) < 2 ^ (64 * n)) : k + (digs M).length ≤ n := by
  have : (digs M).length ≤ n - k := by
    rw [digs_len]
    have e : 2 ^ (64 * n) = 2 ^ (64 * (n - k)) * 2 ^ (64 * k) := by rw [← Nat.pow_add, show 64 * (n - k) + 64 * k = 64 * n by omega]
    rw [e] at h
    exact Nat.lt_of_mul_lt_mul_right h
  omega
theorem sum_made {R : Rt} {a b : Option Addr} {c d l m : Nat} {xs ys : List Nat} {h : Hp} (r : Rd h a c xs) (s : Rd h b d ys) (hl : l = xs.length) (hm : m = ys.length) (hxy : ys.length ≤ xs.length) (hx : xs.length < 35184372088828)
    (g : ∀ v h', Keep h h' → Fresh h h' v (digs (val xs + val ys)) → R v h') : natmul_sum.D2.t R a l c b m d h := by
  subst hl; subst hm
  unfold natmul_sum.D2.t
  refine k_i64 ((xs.length + 1 : Nat) : Int) (by omega) (by omega) (by omega) ?_
  refine mk_intro (xs.length + 1) rfl rfl rfl rfl (by omega) fun h1 o k => ?_
  refine cp_intro o (r.keep k) (by simp) rfl (Nat.le_refl _) k fun h2 o2 k2 => ?_
  have e : List.take (List.replicate (xs.length + 1) 0).length xs ++ List.drop xs.length (List.replicate (xs.length + 1) 0) = xs ++ [0] := by
    rw [List.take_of_length_le (by simp)]; simp
  rw [e] at o2
  have ev : val (xs ++ [0]) = val xs := by rw [← val_trimL, trimL_zero, val_trimL]
  have hx1 := val_lt r.words
  have hy1 := val_lt s.words
  have hp : 2 ^ (64 * ys.length) ≤ 2 ^ (64 * xs.length) := Nat.pow_le_pow_right (by decide) (by omega)
  refine hc_intro (addAt_spec (at_ := 0) o2.mine (s.keep k2) rfl (by simp) (s.off (Nat.le_refl _)) ?_ (by simp; omega) rfl rfl) fun v h3 ⟨e3, k3, zs, o3, hz3, ev3⟩ => ?_
  · rw [ev, List.length_append, List.length_singleton, pow_step, Nat.mul_zero, Nat.pow_zero, Nat.mul_one]
    generalize 2 ^ (64 * xs.length) = P at *; omega
  subst e3
  refine gTup_intro rfl (unnil_intro ?_)
  refine mtrim_fresh (Nat.le_refl h.size) o3 (by rw [hz3]; simp) (by omega) fun v f => ?_
  rw [ev3, ev, Nat.mul_zero, Nat.pow_zero, Nat.mul_one] at f
  obtain ⟨q, hq, e4, o4⟩ := f
  subst e4
  exact g _ _ (k3.keep k2 (Nat.le_refl _)) ⟨q, hq, rfl, o4⟩
theorem sum_spec {a b : Option Addr} {c d l m : Nat} {xs ys : List Nat} {h : Hp} (r : Rd h a c xs) (s : Rd h b d ys) (hl : l = xs.length) (hm : m = ys.length) (hx : xs.length < 35184372088828) (hy : ys.length < 35184372088828) :
    HC natmul_sum.id #[.slice a l c, .slice b m d] h fun v h' => Keep h h' ∧ Fresh h h' v (digs (val xs + val ys)) := by
  refine natmul_sum.ok ?_
  unfold natmul_sum.t natmul_sum.D1.t
  refine c_dec (fun hb => ?_) fun hb => ?_
  · refine sum_made s r hm hl (by omega) hy fun v h' k f => ⟨k, ?_⟩
    rw [Nat.add_comm]; exact f
  · exact sum_made r s hl hm (by omega) hx fun v h' k f => ⟨k, f⟩
end Go.Proofs.Ytaglonbkdcmmpaa.G
