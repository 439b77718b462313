/- The lowest one bit, by the program and by the reference; single bits. -/
import Derived.Test.YtnbpbojcjihboaaDoorRef01f
namespace Go.Proofs.YtnbpbojcjihboaaDoor.G
open Go.Gv
set_option maxRecDepth 100000
set_option linter.unusedVariables false
/-! ### how often 2 divides -/
def ctz (n : Nat) : Nat := if h : n = 0 then 0 else if n % 2 = 0 then ctz (n / 2) + 1 else 0
  termination_by n
  decreasing_by omega
theorem ctz_odd (m : Nat) : ctz (2 * m + 1) = 0 := by unfold ctz; rw [dif_neg (by omega), if_neg (by omega)]
theorem ctz_two {n : Nat} (h : n ≠ 0) : ctz (2 * n) = ctz n + 1 := by
  rw [ctz, dif_neg (by omega), if_pos (by omega), show 2 * n / 2 = n by omega]
theorem ctz_pow (k m : Nat) : ctz (2 ^ k * (2 * m + 1)) = k := by
  induction k with
  | zero => simp [ctz_odd]
  | succ k ih =>
    rw [Nat.pow_succ, Nat.mul_comm (2 ^ k), Nat.mul_assoc, ctz_two, ih]
    have := Nat.pow_pos (a := 2) (n := k) (by decide)
    exact Nat.mul_ne_zero (by omega) (by omega)
theorem ctz_form : ∀ {n : Nat}, n ≠ 0 → ∃ m, n = 2 ^ ctz n * (2 * m + 1) := by
  intro n
  induction n using Nat.strongRecOn with
  | _ n ih =>
    intro h
    by_cases e : n % 2 = 0
    · obtain ⟨m, hm⟩ := ih (n / 2) (by omega) (by omega)
      refine ⟨m, ?_⟩
      rw [ctz, dif_neg h, if_pos e, Nat.pow_succ, Nat.mul_comm (2 ^ ctz (n / 2)) 2, Nat.mul_assoc, ← hm]; omega
    · refine ⟨n / 2, ?_⟩
      rw [ctz, dif_neg h, if_neg e]; omega
theorem ctz_shift {n : Nat} (k : Nat) (h : n ≠ 0) : ctz (2 ^ k * n) = k + ctz n := by
  obtain ⟨m, hm⟩ := ctz_form h
  conv => lhs; rw [hm, ← Nat.mul_assoc, ← Nat.pow_add]
  exact ctz_pow _ _
theorem ctz_lt {a w : Nat} (h0 : a ≠ 0) (h : a < 2 ^ w) : ctz a < w := by
  obtain ⟨m, hm⟩ := ctz_form h0
  refine Nat.lt_of_not_le fun hh => ?_
  have h1 : 2 ^ w ≤ 2 ^ ctz a := Nat.pow_le_pow_right (by decide) hh
  have h2 : 2 ^ ctz a * 1 ≤ 2 ^ ctz a * (2 * m + 1) := Nat.mul_le_mul_left _ (by omega)
  omega
theorem ctz_low {a w r : Nat} (h0 : a ≠ 0) (h : a < 2 ^ w) : ctz (a + 2 ^ w * r) = ctz a := by
  have hl := ctz_lt h0 h
  obtain ⟨m, hm⟩ := ctz_form h0
  generalize ctz a = k at *
  have e : a + 2 ^ w * r = 2 ^ k * (2 * (m + 2 ^ (w - k - 1) * r) + 1) := by
    rw [hm, show 2 ^ w = 2 ^ k * (2 * 2 ^ (w - k - 1)) by rw [← Nat.pow_succ', ← Nat.pow_add, show k + (w - k - 1 + 1) = w by omega], Nat.mul_assoc, ← Nat.mul_add]
    congr 1; rw [Nat.mul_assoc]; omega
  rw [e, ctz_pow]
theorem ctz_of {X n : Nat} (h1 : X % 2 ^ n = 0) (h2 : X / 2 ^ n % 2 = 1) : ctz X = n := by
  have e : X = 2 ^ n * (2 * (X / 2 ^ n / 2) + 1) := by
    have := Nat.div_add_mod X (2 ^ n)
    rw [h1, Nat.add_zero] at this
    rw [show 2 * (X / 2 ^ n / 2) + 1 = X / 2 ^ n by omega]; exact this.symm
  rw [e, ctz_pow]
/-! ### the table -/
def dbTab : List Nat := [0, 1, 56, 2, 57, 49, 28, 3, 61, 58, 42, 50, 38, 29, 17, 4, 62, 47, 59, 36, 45, 43, 51, 22, 53, 39, 33, 30, 24, 18, 12, 5, 63, 55, 48, 27, 60, 41, 37, 16, 46, 35, 44, 21, 52, 32, 23, 11, 54, 26, 40, 15, 34, 20, 31, 10, 25, 14, 19, 9, 13, 8, 7, 6]
def Tab (h : Hp) : Prop := ∀ i, i < 64 → cellH h ⟨0, i, none⟩ = some (.int .u8 ((dbTab.getD i 0 : Nat) : Int))
theorem Tab.keep {h h' : Hp} (t : Tab h) (k : Keep h h') : Tab h' := fun i hi => k.cell (t i hi)
theorem db_ok : (List.range 64).all (fun k => decide (dbTab.getD (2 ^ k * 285870213051353865 % 18446744073709551616 / 288230376151711744) 0 = k ∧ 2 ^ k * 285870213051353865 % 18446744073709551616 / 288230376151711744 < 64)) = true := by decide +kernel
theorem and_neg {x : Nat} (h0 : x ≠ 0) (h : x < 18446744073709551616) : x &&& (18446744073709551616 - x) = 2 ^ ctz x := by
  have hl : ctz x < 64 := ctz_lt h0 h
  obtain ⟨m, hm⟩ := ctz_form h0
  generalize ctz x = k at *
  have hp : 18446744073709551616 = 2 ^ k * (2 * 2 ^ (63 - k)) := by
    rw [← Nat.pow_succ', ← Nat.pow_add, show k + (63 - k + 1) = 64 by omega]
  have hmlt : m < 2 ^ (63 - k) := by
    rw [hm, hp] at h
    have := Nat.lt_of_mul_lt_mul_left h
    omega
  have e : 18446744073709551616 - x = 2 ^ k * (2 * (2 ^ (63 - k) - (m + 1)) + 1) := by
    rw [hm]
    conv => lhs; rw [hp]
    rw [← Nat.mul_sub]; congr 1; omega
  rw [e]
  conv => lhs; rw [hm]
  refine Nat.eq_of_testBit_eq fun i => ?_
  rw [Nat.testBit_and, Nat.testBit_two_pow_mul, Nat.testBit_two_pow_mul, Nat.testBit_two_pow]
  by_cases hi : k ≤ i
  · simp only [hi, decide_true, Bool.true_and]
    obtain ⟨j, hj⟩ : ∃ j, j = i - k := ⟨_, rfl⟩
    rw [← hj]
    cases j with
    | zero =>
      have : k = i := by omega
      simp [this, Nat.testBit_zero]
    | succ j =>
      rw [Nat.testBit_succ, Nat.testBit_succ, show (2 * m + 1) / 2 = m by omega, show (2 * (2 ^ (63 - k) - (m + 1)) + 1) / 2 = 2 ^ (63 - k) - (m + 1) by omega, Nat.testBit_two_pow_sub_succ hmlt]
      have : ¬ k = i := by omega
      cases m.testBit j <;> simp [this]
  · have : ¬ k = i := by omega
    simp [hi, this]
theorem TrailingZeros_spec {x : Int} {n : Nat} (hx : x = (n : Int)) (hn : n < 18446744073709551616) (h0 : n ≠ 0) {h : Hp} (tb : Tab h) :
    HC bits_TrailingZeros64.id #[.int .u64 x] h fun v h' => h' = h ∧ v = .int .i64 ((ctz n : Nat) : Int) := by
  subst hx
  have hl : ctz n < 64 := ctz_lt h0 hn
  refine bits_TrailingZeros64.ok ?_
  unfold bits_TrailingZeros64.t bits_TrailingZeros64.D1.t
  refine c_eq (fun hh => absurd hh (by omega)) fun _ => ?_
  unfold bits_TrailingZeros64.D2.t
  refine letK_intro (y := ((18446744073709551616 - n : Nat) : Int)) (by rw [wrap_u64]; omega) ?_
  refine and_k rfl rfl hn (by omega) ?_
  rw [and_neg h0 hn]
  have hp : 2 ^ ctz n < 18446744073709551616 := pow_lt64 hl
  have em : ((2 ^ ctz n : Nat) : Int) * 285870213051353865 = ((2 ^ ctz n * 285870213051353865 : Nat) : Int) := by rw [Int.natCast_mul]; rfl
  refine letK_intro (y := ((2 ^ ctz n * 285870213051353865 % 18446744073709551616 : Nat) : Int)) (by rw [wrap_u64, em]; exact (Int.natCast_emod _ _).symm) ?_
  refine shr_k' rfl 58 288230376151711744 (by decide) (by decide) rfl ?_
  have ht := List.all_eq_true.mp db_ok (ctz n) (List.mem_range.mpr hl)
  have ht := of_decide_eq_true ht
  obtain ⟨i, hi⟩ : ∃ i, i = 2 ^ ctz n * 285870213051353865 % 18446744073709551616 / 288230376151711744 := ⟨_, rfl⟩
  rw [← hi] at ht ⊢
  refine ⟨⟨by omega, by omega⟩, ?_⟩
  show ldK h ((⟨0, 0, none⟩ : Addr).add ((i : Int).toNat * 1)) _
  have e2 : (i : Int).toNat * 1 = i := by omega
  rw [e2, base_add]
  unfold ldK
  rw [tb i ht.2, ht.1]
  refine gInt_intro rfl ?_
  refine k_i64 ((ctz n : Nat) : Int) rfl (by omega) (by omega) ?_
  exact ⟨rfl, rfl⟩
theorem zeros_val {xs : List Nat} {i : Nat} (h : ∀ j, j < i → xs.getD j 0 = 0) : val xs = 2 ^ (64 * i) * val (xs.drop i) := by
  induction i with
  | zero => simp
  | succ i ih =>
    rw [ih (fun j hj => h j (by omega)), val_getD_drop, h i (by omega), pow_step, Nat.zero_add]
    rw [Nat.mul_left_comm, Nat.mul_assoc]
theorem Trail_walk {R : Rt} {a : Option Addr} {c : Nat} {xs : List Nat} {h : Hp} (r : Rd h a c xs) (tb : Tab h) (g : R (.int .i64 ((ctz (val xs) : Nat) : Int)) h) :
    ∀ (k i : Nat), i + k = xs.length → (∀ j, j < i → xs.getD j 0 = 0) → nat_Trail.L4.t R (k + 1) a xs.length c (xs.length : Int) (i : Int) h := by
  have h1 := r.len
  intro k
  induction k with
  | zero =>
    intro i hi hz
    unfold nat_Trail.L4.t nat_Trail.D5.t
    refine c_dec (fun hb => absurd hb (by omega)) fun _ => ?_
    unfold nat_Trail.D2.t
    have e := zeros_val hz
    rw [List.drop_of_length_le (by omega)] at e
    have e0 : val xs = 0 := by rw [e]; simp [val]
    rw [e0] at g
    have : ctz 0 = 0 := by unfold ctz; simp
    rw [this] at g; exact g
  | succ k ih =>
    intro i hi hz
    have hw := r.word i
    unfold nat_Trail.L4.t nat_Trail.D5.t
    refine c_dec (fun _ => ?_) fun hb => absurd (by omega) hb
    refine at_intro r (j := i) rfl rfl (by omega) ?_
    refine c_ne (fun hb => ?_) fun hb => ?_
    · have h0 : xs.getD i 0 ≠ 0 := by omega
      refine k_i64 ((64 * i : Nat) : Int) (by omega) (by omega) (by omega) ?_
      refine at_intro r (j := i) rfl rfl (by omega) ?_
      refine hc_intro (TrailingZeros_spec rfl hw h0 tb) fun v h' ⟨e1, e2⟩ => ?_
      subst e1; subst e2
      refine gInt_intro rfl ?_
      have hl : ctz (xs.getD i 0) < 64 := ctz_lt h0 hw
      refine k_i64 ((64 * i + ctz (xs.getD i 0) : Nat) : Int) (by omega) (by omega) (by omega) ?_
      have e : ctz (val xs) = 64 * i + ctz (xs.getD i 0) := by
        rw [zeros_val hz, ctz_shift, val_getD_drop]
        · congr 1
          exact ctz_low (w := 64) h0 hw
        · rw [val_getD_drop]; omega
      rw [← e]; exact g
    · refine k_i64 ((i + 1 : Nat) : Int) (by omega) (by omega) (by omega) ?_
      refine ih (i + 1) (by omega) fun j hj => ?_
      rcases Nat.lt_or_ge j i with hh | hh
      · exact hz j hh
      · rw [show j = i by omega]; omega
theorem Trail_spec {a : Option Addr} {c l : Nat} {xs : List Nat} {h : Hp} (r : Rd h a c xs) (hl : l = xs.length) (tb : Tab h) :
    HC nat_Trail.id #[.slice a l c] h fun v h' => h' = h ∧ v = .int .i64 ((ctz (val xs) : Nat) : Int) := by
  subst hl
  refine nat_Trail.ok ?_
  unfold nat_Trail.t nat_Trail.D1.t nat_Trail.D3.t
  refine ⟨xs.length + 1, ?_⟩
  exact Trail_walk r tb ⟨rfl, rfl⟩ xs.length 0 (by omega) (by omega)
/-! ### Bit -/
theorem nat_bit {xs : List Nat} (hw : Words xs) (n : Nat) : val xs / 2 ^ n % 2 = xs.getD (n / 64) 0 / 2 ^ (n % 64) % 2 := by
  have e1 : val xs / 2 ^ n = val (xs.drop (n / 64)) / 2 ^ (n % 64) := by
    rw [val_drop hw, Nat.div_div_eq_div_mul, ← Nat.pow_add, Nat.div_add_mod]
  rw [e1, val_getD_drop]
  have e : (18446744073709551616 : Nat) = 2 ^ (n % 64) * (2 * 2 ^ (63 - n % 64)) := by
    rw [← Nat.pow_succ', ← Nat.pow_add, show n % 64 + (63 - n % 64 + 1) = 64 by omega]
  rw [e, Nat.mul_assoc, Nat.add_mul_div_left _ _ (Nat.pow_pos (by decide)), Nat.mul_assoc]
  omega
theorem nBit_spec {a : Option Addr} {c l : Nat} {xs : List Nat} {h : Hp} (r : Rd h a c xs) (hl : l = xs.length) {x : Int} (hx : In .i64 x) :
    HC nat_Bit.id #[.slice a l c, .int .i64 x] h fun v h' => h' = h ∧ v = .bool (bitS (val xs) x == 1) := by
  subst hl
  rw [in_i64] at hx
  have h1 := r.len
  refine nat_Bit.ok ?_
  unfold nat_Bit.t nat_Bit.D1.t
  refine c_dec (fun h0 => ⟨rfl, by unfold bitS; rw [if_pos h0]; rfl⟩) fun h0 => ?_
  obtain ⟨n, rfl⟩ : ∃ n : Nat, x = (n : Int) := ⟨x.toNat, by omega⟩
  unfold bitS
  rw [if_neg h0, Int.toNat_natCast, nat_bit r.words]
  have ed : Int.tdiv (n : Int) 64 = ((n / 64 : Nat) : Int) := tdiv_nat n 64
  have et : Int.tmod (n : Int) 64 = ((n % 64 : Nat) : Int) := tmod_nat n 64
  refine ⟨by decide, ?_⟩
  rw [ed]
  refine k_i64 ((n / 64 : Nat) : Int) rfl (by omega) (by omega) ?_
  refine c_dec (fun hb => ⟨rfl, ?_⟩) fun hb => ?_
  · have : xs.getD (n / 64) 0 = 0 := by simp [List.getD, show xs.length ≤ n / 64 by omega]
    rw [this]; simp
  · unfold nat_Bit.D2.t
    refine ⟨by decide, ?_⟩
    rw [ed]
    refine k_i64 ((n / 64 : Nat) : Int) rfl (by omega) (by omega) ?_
    refine at_intro r (j := n / 64) rfl rfl (by omega) ?_
    have hw := r.word (n / 64)
    refine ⟨by decide, ?_⟩
    rw [et]
    refine letK_intro rfl ?_
    refine shr_k' rfl (n % 64) _ (by omega) rfl rfl ?_
    have hle : xs.getD (n / 64) 0 / 2 ^ (n % 64) ≤ xs.getD (n / 64) 0 := Nat.div_le_self _ _
    refine and_k (b := 1) rfl rfl (by omega) (by decide) ?_
    have : (xs.getD (n / 64) 0 / 2 ^ (n % 64)) &&& 1 = xs.getD (n / 64) 0 / 2 ^ (n % 64) % 2 := Nat.and_two_pow_sub_one_eq_mod _ 1
    rw [this]
    exact ⟨rfl, rfl⟩
/-! ### Zeros -/
theorem Zeros_bits {R : Rt} {a : Option Addr} {c X : Nat} {h : Hp} (r : RdE eU32 h a c (D.digs X)) (g : R (.int .i64 ((ctz X : Nat) : Int)) h) (hX : X ≠ 0) (hB : blen X ≤ 4611686018427387904) :
    ∀ (k n : Nat), n + k = blen X → X % 2 ^ n = 0 → gnomonref01_Zeros.L3.t R (k + 1) a (D.digs X).length c (n : Int) h := by
  intro k
  induction k with
  | zero =>
    intro n hk hz
    have h1 := (blen_le (n := X) (k := n)).mp (by omega)
    rw [Nat.mod_eq_of_lt h1] at hz
    exact absurd hz hX
  | succ k ih =>
    intro n hk hz
    unfold gnomonref01_Zeros.L3.t gnomonref01_Zeros.D4.t
    refine hc_intro (rBit_spec r rfl (by rw [in_i64]; omega)) fun v h' ⟨e1, e2⟩ => ?_
    subst e1; subst e2
    refine gInt_intro rfl ?_
    have eb : bitS X (n : Int) = ((X / 2 ^ n % 2 : Nat) : Int) := by unfold bitS; rw [if_neg (by omega), Int.toNat_natCast]
    rw [eb]
    refine c_eq (fun hb => ?_) fun hb => ?_
    · refine k_i64 ((n + 1 : Nat) : Int) (by omega) (by omega) (by omega) ?_
      refine ih (n + 1) (by omega) ?_
      rw [Nat.pow_succ, Nat.mod_mul, hz, show X / 2 ^ n % 2 = 0 by omega]; simp
    · unfold gnomonref01_Zeros.D2.t
      rw [ctz_of hz (by omega)] at g; exact g
theorem Zeros_walk {R : Rt} {a : Option Addr} {c X : Nat} {h : Hp} (r : RdE eU32 h a c (D.digs X)) (g : R (.int .i64 ((ctz X : Nat) : Int)) h) (hX : X ≠ 0) (hl : (D.digs X).length ≤ 70368744177656) :
    ∀ (k i : Nat), i + k = (D.digs X).length → X % 2 ^ (32 * i) = 0 → gnomonref01_Zeros.L7.t R (k + 1) a (D.digs X).length c ((32 * i : Nat) : Int) h := by
  have hv : D.val (D.digs X) = X := D.val_digs X
  have hbl : blen X ≤ 32 * (D.digs X).length := (D.lim_blen' _).mpr (Nat.le_refl _)
  intro k
  have fin : ∀ i, X % 2 ^ (32 * i) = 0 → ∃ n, gnomonref01_Zeros.L3.t R n a (D.digs X).length c ((32 * i : Nat) : Int) h := by
    intro i hz
    have hlt : 32 * i < blen X := by
      refine Nat.lt_of_not_le fun hh => ?_
      have h1 := (blen_le (n := X) (k := 32 * i)).mp hh
      rw [Nat.mod_eq_of_lt h1] at hz
      exact hX hz
    exact ⟨blen X - 32 * i + 1, Zeros_bits r g hX (by omega) _ _ (by omega) hz⟩
  induction k with
  | zero =>
    intro i hi hz
    unfold gnomonref01_Zeros.L7.t gnomonref01_Zeros.D8.t
    refine div32_i64 (by omega) rfl ?_
    refine c_dec (fun hb => absurd hb (by omega)) fun _ => ?_
    exact fin i hz
  | succ k ih =>
    intro i hi hz
    unfold gnomonref01_Zeros.L7.t gnomonref01_Zeros.D8.t
    refine div32_i64 (by omega) rfl ?_
    refine c_dec (fun _ => ?_) fun hb => absurd (by omega) hb
    refine div32_i64 (by omega) rfl ?_
    refine at32 r (j := i) (by omega) rfl (by omega) ?_
    refine c_eq (fun hb => ?_) fun hb => fin i hz
    refine k_i64 ((32 * (i + 1) : Nat) : Int) (by omega) (by omega) (by omega) ?_
    refine ih (i + 1) (by omega) ?_
    have e := D.getD_val (D.digs_words X) i
    rw [hv] at e
    rw [D.pow_step, Nat.mul_comm 4294967296, Nat.mod_mul, hz, ← e, show (D.digs X).getD i 0 = 0 by omega]; simp
theorem rZeros_spec {a : Option Addr} {c l X : Nat} {h : Hp} (r : RdE eU32 h a c (D.digs X)) (hl : l = (D.digs X).length) :
    HC gnomonref01_Zeros.id #[.slice a l c] h fun v h' => h' = h ∧ v = .int .i64 ((ctz X : Nat) : Int) := by
  subst hl
  refine gnomonref01_Zeros.ok ?_
  unfold gnomonref01_Zeros.t gnomonref01_Zeros.D1.t
  have h1 := r.len32
  refine c_eq (fun h0 => ⟨rfl, ?_⟩) fun h0 => ?_
  · have e : D.digs X = [] := List.length_eq_zero_iff.mp (by omega)
    have : X = 0 := by rw [← D.val_digs X, e]; rfl
    subst this
    have : ctz 0 = 0 := by unfold ctz; simp
    rw [this]; rfl
  · have hX : X ≠ 0 := by intro e; subst e; rw [D.digs_zero] at h0; exact h0 rfl
    refine ⟨(D.digs X).length + 1, ?_⟩
    exact Zeros_walk r ⟨rfl, rfl⟩ hX h1 _ 0 (by omega) (by simp [Nat.mod_one])
theorem DocTrail_spec {a : Option Addr} {c l : Nat} {xs : List Nat} {h : Hp} (r : Rd h a c xs) (hl : l = xs.length) : HC gnomonref01_DocTrail.id #[.slice a l c] h fun v h' => Keep h h' ∧ v = .int .i64 ((ctz (val xs) : Nat) : Int) := by
  refine gnomonref01_DocTrail.ok ?_
  unfold gnomonref01_DocTrail.t gnomonref01_DocTrail.D1.t
  refine hc_intro (From_spec r hl) fun v h1 ⟨k1, s⟩ => ?_
  refine s.elim fun a1 c1 g1 => ?_
  refine hc_intro (rZeros_spec g1.rd rfl) fun v h2 ⟨e1, e2⟩ => ?_
  subst e1; subst e2
  exact ⟨k1, rfl⟩
end Go.Proofs.YtnbpbojcjihboaaDoor.G
