/- What the parts of products answer: trim, cut, sum, addAt, takeAway, rows. -/
import Derived.Test.YtaglonbkdcmmpaaNatMul64
import Derived.Test.YtaglonbkdcmmpaaNatAdd
import Derived.Test.YtaglonbkdcmmpaaGvBlock
namespace Go.Proofs.Ytaglonbkdcmmpaa.G
open Go.Gv
theorem trimL_take (xs : List Nat) : xs.take (trimL xs).length = trimL xs := by
  induction xs with
  | nil => rfl
  | cons x xs ih =>
    simp only [trimL]
    split
    · rfl
    · simp [ih]
theorem mtrim_loop {R : Rt} {a : Option Addr} {c l : Nat} {xs : List Nat} {h : Hp} (r : Rd h a c xs) (hl : l = xs.length) (g : R (.slice a (trimL xs).length (trimL xs).length) h) :
    ∀ n : Nat, n ≤ xs.length → trimL (xs.take n) = trimL xs → natmul_trim.L3.t R (n + 1) a l c (n : Int) h := by
  have h1 := r.len
  intro n
  have fin : ∀ n : Nat, n ≤ xs.length → trimL xs = xs.take n → natmul_trim.D2.t R a l c (n : Int) h := by
    intro n hn e
    refine sl_to3 rfl rfl (Nat.le_trans hn r.cap) ?_
    have e2 : (trimL xs).length = n := by rw [e, List.length_take]; omega
    rw [← e2]; exact g
  induction n with
  | zero =>
    intro hn hz
    unfold natmul_trim.L3.t natmul_trim.D4.t
    refine c_dec (fun h => absurd h (by omega)) fun _ => fin 0 hn ?_
    rw [← hz]; rfl
  | succ n ih =>
    intro hn hz
    refine c_dec (fun _ => ?_) fun h => absurd (by omega) h
    refine k_i64 (n : Int) (by omega) (by omega) (by omega) ?_
    refine at_intro r (j := n) rfl hl (by omega) ?_
    have es := take_snoc (xs := xs) (n := n) (by omega)
    refine c_eq (fun he => ?_) fun he => ?_
    · refine k_i64 (n : Int) (by omega) (by omega) (by omega) ?_
      refine ih (by omega) ?_
      rw [← hz, es, show xs.getD n 0 = 0 by omega, trimL_zero]
    · refine fin (n + 1) hn ?_
      rw [← hz, es, trimL_last _ (by omega)]
theorem rd_trim {h : Hp} {a : Option Addr} {c : Nat} {xs : List Nat} (r : Rd h a c xs) : Rd h a (trimL xs).length (trimL xs) := by
  have := r.take (trimL xs).length
  rw [trimL_take] at this; exact this.cap_le (Nat.le_refl _)
theorem mtrim_spec {a : Option Addr} {c l : Nat} {xs : List Nat} {h : Hp} (r : Rd h a c xs) (hl : l = xs.length) :
    HC natmul_trim.id #[.slice a l c] h fun v h' => h' = h ∧ v = .slice a (trimL xs).length (trimL xs).length := by
  refine natmul_trim.ok ?_
  refine ⟨xs.length + 1, ?_⟩
  subst hl
  exact mtrim_loop r rfl ⟨rfl, rfl⟩ xs.length (Nat.le_refl _) (by rw [List.take_length])
/-! ### adding in place -/
theorem addAt_tail {R : Rt} {c n T q : Nat} {h0 : Hp} (hT : T < 2 ^ (64 * n)) (g : ∀ h' zs, KeepB q h0 h' → Mine h' q zs → zs.length = n → val zs = T → R (.tuple #[]) h') (hn : n ≤ 35184372088828) :
    ∀ (k i ca : Nat) (zs : List Nat) (h : Hp), i + k = n → ca ≤ 1 → zs.length = n → Mine h q zs → KeepB q h0 h → val zs + ca * 2 ^ (64 * i) = T →
      natmul_addAt.L3.t R (k + 1) (some ⟨q, 0, none⟩) n c (ca : Int) (i : Int) h := by
  intro k
  induction k with
  | zero =>
    intro i ca zs h hi hc hz o kp e
    unfold natmul_addAt.L3.t natmul_addAt.D4.t
    refine c_dec (fun hb => ?_) fun hb => ?_
    · have : ca = 1 := by omega
      subst this
      have := lt_of_val (zs := zs) (T := T) (i := i) rfl (by omega) (by rw [hz]; exact hT)
      omega
    · have : ca = 0 := by omega
      subst this
      exact g _ _ kp o hz (by omega)
  | succ k ih =>
    intro i ca zs h hi hc hz o kp e
    unfold natmul_addAt.L3.t natmul_addAt.D4.t
    refine c_dec (fun hb => ?_) fun hb => ?_
    · have hw := o.word i
      refine at_intro (o.rd (c := n) (by omega)) (j := i) rfl (by omega) (by omega) ?_
      refine add_intro (b := 0) rfl rfl rfl hc ?_
      refine mine_put o (j := i) rfl hz.symm (by omega) rfl (by omega) fun o2 k2 => ?_
      refine k_i64 ((i + 1 : Nat) : Int) (by omega) (by omega) (by omega) ?_
      refine ih (i + 1) _ _ _ (by omega) (by omega) (by simp [hz]) o2 (kp.trans k2) ?_
      have hs := val_set (zs := zs) (j := i) (v := (zs.getD i 0 + 0 + ca) % 18446744073709551616) (by omega)
      have := step_up (B := 18446744073709551616) (p := 0) (c := ca) (r := 0) (z' := (zs.getD i 0 + 0 + ca) % 18446744073709551616) (c' := (zs.getD i 0 + 0 + ca) / 18446744073709551616) (by omega) hs
      rw [pow_step]
      simp only [Nat.zero_add, Nat.mul_zero] at this ⊢
      omega
    · have : ca = 0 := by omega
      subst this
      exact g _ _ kp o hz (by omega)
theorem addAt_walk {R : Rt} {a : Option Addr} {c c1 l n at_ T q : Nat} {bs : List Nat} {h0 : Hp} (r : Rd h0 a c1 bs) (hl : l = bs.length) (hoff : bs = [] ∨ Off q a) (hT : T < 2 ^ (64 * n)) (hfit : at_ + bs.length ≤ n) (hn : n ≤ 35184372088828)
    (g : ∀ h' zs, KeepB q h0 h' → Mine h' q zs → zs.length = n → val zs = T → R (.tuple #[]) h') :
    ∀ (k i ca : Nat) (zs : List Nat) (h : Hp), i + k = bs.length → ca ≤ 1 → zs.length = n → Mine h q zs → KeepB q h0 h → val zs + (val (bs.drop i) + ca) * 2 ^ (64 * (at_ + i)) = T →
      natmul_addAt.L7.t R (k + 1) (some ⟨q, 0, none⟩) n c a l c1 (at_ : Int) (ca : Int) (l : Int) (i : Int) h := by
  subst hl
  intro k
  induction k with
  | zero =>
    intro i ca zs h hi hc hz o kp e
    unfold natmul_addAt.L7.t natmul_addAt.D8.t
    refine c_dec (fun hb => absurd hb (by omega)) fun hb => ?_
    unfold natmul_addAt.D2.t
    have ei : i = bs.length := by omega
    subst ei
    refine k_i64 ((at_ + bs.length : Nat) : Int) (by omega) (by omega) (by omega) ?_
    refine ⟨n - (at_ + bs.length) + 1, ?_⟩
    refine addAt_tail hT g hn _ _ _ zs h (by omega) hc hz o kp ?_
    rw [List.drop_length] at e
    simpa [val] using e
  | succ k ih =>
    intro i ca zs h hi hc hz o kp e
    have hw := o.word (at_ + i)
    have hwb := r.word i
    have hoff' : Off q a := by
      rcases hoff with hh | hh
      · subst hh; simp at hi
      · exact hh
    unfold natmul_addAt.L7.t natmul_addAt.D8.t
    refine c_dec (fun hb => ?_) fun hb => absurd (by omega) hb
    refine k_i64 ((at_ + i : Nat) : Int) (by omega) (by omega) (by omega) ?_
    refine k_i64 ((at_ + i : Nat) : Int) (by omega) (by omega) (by omega) ?_
    refine at_intro (o.rd (c := n) (by omega)) (j := at_ + i) rfl (by omega) (by omega) ?_
    refine at_intro (r.keepB hoff' kp) (j := i) rfl rfl (by omega) ?_
    refine add_intro rfl rfl rfl hc ?_
    refine mine_put o (j := at_ + i) rfl hz.symm (by omega) rfl (by omega) fun o2 k2 => ?_
    refine k_i64 ((i + 1 : Nat) : Int) (by omega) (by omega) (by omega) ?_
    refine ih (i + 1) _ _ _ (by omega) (by omega) (by simp [hz]) o2 (kp.trans k2) ?_
    have hs := val_set (zs := zs) (j := at_ + i) (v := (zs.getD (at_ + i) 0 + bs.getD i 0 + ca) % 18446744073709551616) (by omega)
    have := step_up (B := 18446744073709551616) (p := bs.getD i 0) (c := ca) (r := val (bs.drop (i + 1))) (z' := (zs.getD (at_ + i) 0 + bs.getD i 0 + ca) % 18446744073709551616) (c' := (zs.getD (at_ + i) 0 + bs.getD i 0 + ca) / 18446744073709551616) (by omega) hs
    rw [← Nat.add_assoc, pow_step, this, ← val_getD_drop]; exact e
/-- Adding b to a block from a place on. -/
theorem addAt_spec {a : Option Addr} {c c1 l n m at_ q : Nat} {zs bs : List Nat} {h : Hp} (o : Mine h q zs) (r : Rd h a c1 bs) (hl : l = bs.length) (hz : n = zs.length) (hoff : bs = [] ∨ Off q a) (hT : val zs + val bs * 2 ^ (64 * at_) < 2 ^ (64 * zs.length)) (hfit : at_ + bs.length ≤ zs.length) {x : Int} (hx : x = (at_ : Int)) (hm : m = n) :
    HC natmul_addAt.id #[.slice (some ⟨q, 0, none⟩) m c, .slice a l c1, .int .i64 x] h fun v h' => v = .tuple #[] ∧ KeepB q h h' ∧ ∃ zs', Mine h' q zs' ∧ zs'.length = zs.length ∧ val zs' = val zs + val bs * 2 ^ (64 * at_) := by
  subst hx; subst hz; subst hm
  refine natmul_addAt.ok ?_
  unfold natmul_addAt.t natmul_addAt.D1.t natmul_addAt.D6.t
  have hlen := o.len
  refine ⟨bs.length + 1, ?_⟩
  refine addAt_walk r hl hoff hT hfit hlen (fun h' zs' k o' hz' e => ⟨rfl, k, zs', o', hz', e⟩) bs.length 0 0 zs h (by omega) (by omega) rfl o (KeepB.refl _ _) ?_
  simp
/-! ### taking away in place -/
theorem take_tail {R : Rt} {c n T q : Nat} {h0 : Hp} (g : ∀ h' zs, KeepB q h0 h' → Mine h' q zs → zs.length = n → val zs = T → R (.tuple #[]) h') (hn : n ≤ 35184372088828) :
    ∀ (k i ca : Nat) (zs : List Nat) (h : Hp), i + k = n → ca ≤ 1 → zs.length = n → Mine h q zs → KeepB q h0 h → val zs = T + ca * 2 ^ (64 * i) →
      natmul_takeAway.L3.t R (k + 1) (some ⟨q, 0, none⟩) n c (ca : Int) (i : Int) h := by
  intro k
  induction k with
  | zero =>
    intro i ca zs h hi hc hz o kp e
    unfold natmul_takeAway.L3.t natmul_takeAway.D4.t
    refine c_dec (fun hb => ?_) fun hb => ?_
    · have : ca = 1 := by omega
      subst this
      have := lt_of_val (zs := zs) (T := val zs) (i := i) rfl (by omega) (val_lt o.words)
      omega
    · have : ca = 0 := by omega
      subst this
      exact g _ _ kp o hz (by omega)
  | succ k ih =>
    intro i ca zs h hi hc hz o kp e
    unfold natmul_takeAway.L3.t natmul_takeAway.D4.t
    refine c_dec (fun hb => ?_) fun hb => ?_
    · have hw := o.word i
      refine at_intro (o.rd (c := n) (by omega)) (j := i) rfl (by omega) (by omega) ?_
      refine sub_intro (b := 0) rfl rfl rfl hc (by omega) ?_
      refine mine_put o (j := i) rfl hz.symm (by omega) rfl (by omega) fun o2 k2 => ?_
      refine k_i64 ((i + 1 : Nat) : Int) (by omega) (by omega) (by omega) ?_
      refine ih (i + 1) _ _ _ (by omega) (by split <;> omega) (by simp [hz]) o2 (kp.trans k2) ?_
      have hs := val_set (zs := zs) (j := i) (v := (zs.getD i 0 + 18446744073709551616 - 0 - ca) % 18446744073709551616) (by omega)
      have := step_down (B := 18446744073709551616) (u := 0) (o := ca) (r := 0) (T := T) (z' := (zs.getD i 0 + 18446744073709551616 - 0 - ca) % 18446744073709551616) (o' := if zs.getD i 0 < 0 + ca then 1 else 0) (by split <;> omega) hs (by simpa using e)
      rw [pow_step]
      simpa using this
    · have : ca = 0 := by omega
      subst this
      exact g _ _ kp o hz (by omega)
theorem take_walk {R : Rt} {a : Option Addr} {c c1 l n T q : Nat} {bs : List Nat} {h0 : Hp} (r : Rd h0 a c1 bs) (hl : l = bs.length) (hoff : bs = [] ∨ Off q a) (hfit : bs.length ≤ n) (hn : n ≤ 35184372088828)
    (g : ∀ h' zs, KeepB q h0 h' → Mine h' q zs → zs.length = n → val zs = T → R (.tuple #[]) h') :
    ∀ (k i ca : Nat) (zs : List Nat) (h : Hp), i + k = bs.length → ca ≤ 1 → zs.length = n → Mine h q zs → KeepB q h0 h → val zs = T + (val (bs.drop i) + ca) * 2 ^ (64 * i) →
      natmul_takeAway.L7.t R (k + 1) (some ⟨q, 0, none⟩) n c a l c1 (ca : Int) (l : Int) (i : Int) h := by
  subst hl
  intro k
  induction k with
  | zero =>
    intro i ca zs h hi hc hz o kp e
    unfold natmul_takeAway.L7.t natmul_takeAway.D8.t
    refine c_dec (fun hb => absurd hb (by omega)) fun hb => ?_
    unfold natmul_takeAway.D2.t
    have ei : i = bs.length := by omega
    subst ei
    refine ⟨n - bs.length + 1, ?_⟩
    refine take_tail g hn _ _ _ zs h (by omega) hc hz o kp ?_
    rw [List.drop_length] at e
    simpa [val] using e
  | succ k ih =>
    intro i ca zs h hi hc hz o kp e
    have hw := o.word i
    have hwb := r.word i
    have hoff' : Off q a := by
      rcases hoff with hh | hh
      · subst hh; simp at hi
      · exact hh
    unfold natmul_takeAway.L7.t natmul_takeAway.D8.t
    refine c_dec (fun hb => ?_) fun hb => absurd (by omega) hb
    refine at_intro (o.rd (c := n) (by omega)) (j := i) rfl (by omega) (by omega) ?_
    refine at_intro (r.keepB hoff' kp) (j := i) rfl rfl (by omega) ?_
    refine sub_intro rfl rfl rfl hc hwb ?_
    refine mine_put o (j := i) rfl hz.symm (by omega) rfl (by omega) fun o2 k2 => ?_
    refine k_i64 ((i + 1 : Nat) : Int) (by omega) (by omega) (by omega) ?_
    refine ih (i + 1) _ _ _ (by omega) (by split <;> omega) (by simp [hz]) o2 (kp.trans k2) ?_
    have hs := val_set (zs := zs) (j := i) (v := (zs.getD i 0 + 18446744073709551616 - bs.getD i 0 - ca) % 18446744073709551616) (by omega)
    rw [val_getD_drop] at e
    have := step_down (B := 18446744073709551616) (u := bs.getD i 0) (o := ca) (r := val (bs.drop (i + 1))) (T := T) (z' := (zs.getD i 0 + 18446744073709551616 - bs.getD i 0 - ca) % 18446744073709551616) (o' := if zs.getD i 0 < bs.getD i 0 + ca then 1 else 0) (by split <;> omega) hs e
    rw [pow_step]; exact this
theorem take_spec {a : Option Addr} {c c1 l n q : Nat} {zs bs : List Nat} {h : Hp} (o : Mine h q zs) (r : Rd h a c1 bs) (hl : l = bs.length) (hz : n = zs.length) (hoff : bs = [] ∨ Off q a) (hT : val bs ≤ val zs) (hfit : bs.length ≤ zs.length) :
    HC natmul_takeAway.id #[.slice (some ⟨q, 0, none⟩) n c, .slice a l c1] h fun v h' => v = .tuple #[] ∧ KeepB q h h' ∧ ∃ zs', Mine h' q zs' ∧ zs'.length = zs.length ∧ val zs' = val zs - val bs := by
  subst hz
  refine natmul_takeAway.ok ?_
  unfold natmul_takeAway.t natmul_takeAway.D1.t natmul_takeAway.D6.t
  have hlen := o.len
  refine ⟨bs.length + 1, ?_⟩
  refine take_walk (T := val zs - val bs) r hl hoff hfit hlen (fun h' zs' k o' hz' e => ⟨rfl, k, zs', o', hz', e⟩) bs.length 0 0 zs h (by omega) (by omega) rfl o (KeepB.refl _ _) ?_
  simp; omega
end Go.Proofs.Ytaglonbkdcmmpaa.G
