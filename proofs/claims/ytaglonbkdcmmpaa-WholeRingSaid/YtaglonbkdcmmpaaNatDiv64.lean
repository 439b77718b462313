/- What Div64 answers. -/
import Derived.Test.YtaglonbkdcmmpaaNatMul64
namespace Go.Proofs.Ytaglonbkdcmmpaa.G
open Go.Gv
set_option maxRecDepth 100000
/-! ### division of two words by one -/
theorem Lead_spec {x : Nat} (hx : x < 18446744073709551616) (h : Hp) : HC bits_LeadingZeros64.id #[.int .u64 (x : Int)] h fun v h' => h' = h ∧ v = .int .i64 ((64 - blen x : Nat) : Int) := by
  refine bits_LeadingZeros64.ok ?_
  unfold bits_LeadingZeros64.t bits_LeadingZeros64.D1.t
  refine hc_intro (Len64_spec rfl hx _) fun v h' ⟨e1, e2⟩ => ?_
  subst e1; subst e2
  refine gInt_intro rfl ?_
  have : blen x ≤ 64 := blen_le.mpr hx
  exact k_i64 ((64 - blen x : Nat) : Int) (by omega) (by omega) (by omega) ⟨rfl, rfl⟩
/-- The guess q of a half digit, with its rest r, for u (two halves and one more) by y = (yn1, yn0). -/
structure Guess (u32 u1 yn1 yn0 q r : Nat) : Prop where
  rest : q * yn1 + r = u32
  up : u32 * 4294967296 + u1 < (q + 1) * (yn1 * 4294967296 + yn0)
theorem Guess.big {u32 u1 yn1 yn0 q r : Nat} (g : Guess u32 u1 yn1 yn0 q r) (hy : u32 < yn1 * 4294967296 + yn0) (hu : u1 < 4294967296) (hb : 4294967296 ≤ q ∨ q * yn0 > 4294967296 * r + u1) : 1 ≤ q ∧ Guess u32 u1 yn1 yn0 (q - 1) (r + yn1) := by
  have hq : 1 ≤ q := by
    rcases hb with h | h
    · omega
    · exact Nat.pos_of_ne_zero fun e => by subst e; simp at h
  obtain ⟨p, rfl⟩ : ∃ p, q = p + 1 := ⟨q - 1, by omega⟩
  refine ⟨hq, ?_, ?_⟩
  · have := g.rest
    rw [Nat.add_mul, Nat.one_mul] at this
    rw [Nat.add_sub_cancel]; omega
  · rw [Nat.add_sub_cancel]
    rcases hb with h | h
    · have h1 : 4294967296 * (yn1 * 4294967296 + yn0) ≤ (p + 1) * (yn1 * 4294967296 + yn0) := Nat.mul_le_mul_right _ h
      generalize (p + 1) * (yn1 * 4294967296 + yn0) = z at *; omega
    · have h1 := g.rest
      rw [Nat.mul_add, ← Nat.mul_assoc]
      generalize (p + 1) * yn1 = a at *
      generalize (p + 1) * yn0 = b at *
      omega
theorem Guess.fits {u32 u1 yn1 yn0 q r : Nat} (g : Guess u32 u1 yn1 yn0 q r) (hb : q * yn0 ≤ 4294967296 * r + u1) : q = (u32 * 4294967296 + u1) / (yn1 * 4294967296 + yn0) := by
  have h1 := g.rest
  have h2 : q * (yn1 * 4294967296 + yn0) ≤ u32 * 4294967296 + u1 := by
    rw [Nat.mul_add, ← Nat.mul_assoc]
    generalize q * yn1 = a at *; generalize q * yn0 = b at *; omega
  have h3 := g.up
  have hpos : 0 < yn1 * 4294967296 + yn0 := Nat.pos_of_ne_zero fun e => by rw [e] at h3; simp at h3
  refine (Nat.div_eq_of_lt_le ?_ ?_).symm
  · exact h2
  · exact h3
/-- One half digit's loop, the second of the two. -/
theorem Div_loop2 {R : Rt} {Y s yn1 yn0 u1 Q u32 : Nat} {h : Hp} (hy : u32 < yn1 * 4294967296 + yn0) (hu : u1 < 4294967296) (hy1 : yn1 < 4294967296) (hy0 : yn0 < 4294967296)
    (hD : bits_Div64.D5.t R (Y : Int) (s : Int) (u1 : Int) (Q : Int) (u32 : Int) (((u32 * 4294967296 + u1) / (yn1 * 4294967296 + yn0) : Nat) : Int) h) :
    ∀ (k q r : Nat), Guess u32 u1 yn1 yn0 q r → q ≤ 4294967297 → r < 4294967296 → 4294967296 ≤ r + (k + 1) * yn1 →
      bits_Div64.L6.t R (k + 1) (Y : Int) (s : Int) (yn1 : Int) (yn0 : Int) (u1 : Int) (Q : Int) (r : Int) (u32 : Int) (q : Int) h := by
  intro k
  induction k with
  | zero =>
    intro q r g hq hr hk
    have step : (4294967296 ≤ q ∨ q * yn0 > 4294967296 * r + u1) → bits_Div64.D8.t R (bits_Div64.L6.t R 0) (Y : Int) (s : Int) (yn1 : Int) (yn0 : Int) (u1 : Int) (Q : Int) (r : Int) (u32 : Int) (q : Int) h := by
      intro hb
      obtain ⟨h1, g'⟩ := g.big hy hu hb
      unfold bits_Div64.D8.t
      refine k_u64 (q - 1) (by omega) (by omega) ?_
      refine k_u64 (r + yn1) (by omega) (by omega) ?_
      refine c_dec (fun _ => ?_) fun hh => absurd (by omega) hh
      have hp : (q - 1) * yn0 ≤ 4294967296 * 4294967295 := Nat.mul_le_mul (by omega) (by omega)
      rw [← g'.fits (by omega)] at hD; exact hD
    unfold bits_Div64.L6.t bits_Div64.D7.t
    refine c_dec (fun hb => step (Or.inl (by omega))) fun hb => ?_
    have hp : q * yn0 ≤ 4294967295 * 4294967295 := Nat.mul_le_mul (by omega) (by omega)
    refine k_u64 (q * yn0) (by norm_cast) (by omega) ?_
    refine k_u64 (4294967296 * r) (by omega) (by omega) ?_
    refine k_u64 (4294967296 * r + u1) (by omega) (by omega) ?_
    refine c_dec (fun hb => step (Or.inr (by omega))) fun hb => ?_
    rw [← g.fits (by omega)] at hD; exact hD
  | succ k ih =>
    intro q r g hq hr hk
    have step : (4294967296 ≤ q ∨ q * yn0 > 4294967296 * r + u1) → bits_Div64.D8.t R (bits_Div64.L6.t R (k + 1)) (Y : Int) (s : Int) (yn1 : Int) (yn0 : Int) (u1 : Int) (Q : Int) (r : Int) (u32 : Int) (q : Int) h := by
      intro hb
      obtain ⟨h1, g'⟩ := g.big hy hu hb
      unfold bits_Div64.D8.t
      refine k_u64 (q - 1) (by omega) (by omega) ?_
      refine k_u64 (r + yn1) (by omega) (by omega) ?_
      refine c_dec (fun _ => ?_) fun hh => ?_
      · have hp : (q - 1) * yn0 ≤ 4294967296 * 4294967295 := Nat.mul_le_mul (by omega) (by omega)
        rw [← g'.fits (by omega)] at hD; exact hD
      · refine ih _ _ g' (by omega) (by omega) ?_
        rw [Nat.add_mul, Nat.one_mul] at hk
        omega
    unfold bits_Div64.L6.t bits_Div64.D7.t
    refine c_dec (fun hb => step (Or.inl (by omega))) fun hb => ?_
    have hp : q * yn0 ≤ 4294967295 * 4294967295 := Nat.mul_le_mul (by omega) (by omega)
    refine k_u64 (q * yn0) (by norm_cast) (by omega) ?_
    refine k_u64 (4294967296 * r) (by omega) (by omega) ?_
    refine k_u64 (4294967296 * r + u1) (by omega) (by omega) ?_
    refine c_dec (fun hb => step (Or.inr (by omega))) fun hb => ?_
    rw [← g.fits (by omega)] at hD; exact hD
theorem Div_loop1 {R : Rt} {Y s yn1 yn0 u1 u0 u32 : Nat} {h : Hp} (hy : u32 < yn1 * 4294967296 + yn0) (hu : u1 < 4294967296) (hy1 : yn1 < 4294967296) (hy0 : yn0 < 4294967296)
    (hD : bits_Div64.D4.t R (Y : Int) (s : Int) (yn1 : Int) (yn0 : Int) (u32 : Int) (u1 : Int) (u0 : Int) (((u32 * 4294967296 + u1) / (yn1 * 4294967296 + yn0) : Nat) : Int) h) :
    ∀ (k q r : Nat), Guess u32 u1 yn1 yn0 q r → q ≤ 4294967297 → r < 4294967296 → 4294967296 ≤ r + (k + 1) * yn1 →
      bits_Div64.L11.t R (k + 1) (Y : Int) (s : Int) (yn1 : Int) (yn0 : Int) (u32 : Int) (u1 : Int) (u0 : Int) (q : Int) (r : Int) h := by
  intro k
  induction k with
  | zero =>
    intro q r g hq hr hk
    have step : (4294967296 ≤ q ∨ q * yn0 > 4294967296 * r + u1) → bits_Div64.D13.t R (bits_Div64.L11.t R 0) (Y : Int) (s : Int) (yn1 : Int) (yn0 : Int) (u32 : Int) (u1 : Int) (u0 : Int) (q : Int) (r : Int) h := by
      intro hb
      obtain ⟨h1, g'⟩ := g.big hy hu hb
      unfold bits_Div64.D13.t
      refine k_u64 (q - 1) (by omega) (by omega) ?_
      refine k_u64 (r + yn1) (by omega) (by omega) ?_
      refine c_dec (fun _ => ?_) fun hh => absurd (by omega) hh
      have hp : (q - 1) * yn0 ≤ 4294967296 * 4294967295 := Nat.mul_le_mul (by omega) (by omega)
      rw [← g'.fits (by omega)] at hD; exact hD
    unfold bits_Div64.L11.t bits_Div64.D12.t
    refine c_dec (fun hb => step (Or.inl (by omega))) fun hb => ?_
    have hp : q * yn0 ≤ 4294967295 * 4294967295 := Nat.mul_le_mul (by omega) (by omega)
    refine k_u64 (q * yn0) (by norm_cast) (by omega) ?_
    refine k_u64 (4294967296 * r) (by omega) (by omega) ?_
    refine k_u64 (4294967296 * r + u1) (by omega) (by omega) ?_
    refine c_dec (fun hb => step (Or.inr (by omega))) fun hb => ?_
    rw [← g.fits (by omega)] at hD; exact hD
  | succ k ih =>
    intro q r g hq hr hk
    have step : (4294967296 ≤ q ∨ q * yn0 > 4294967296 * r + u1) → bits_Div64.D13.t R (bits_Div64.L11.t R (k + 1)) (Y : Int) (s : Int) (yn1 : Int) (yn0 : Int) (u32 : Int) (u1 : Int) (u0 : Int) (q : Int) (r : Int) h := by
      intro hb
      obtain ⟨h1, g'⟩ := g.big hy hu hb
      unfold bits_Div64.D13.t
      refine k_u64 (q - 1) (by omega) (by omega) ?_
      refine k_u64 (r + yn1) (by omega) (by omega) ?_
      refine c_dec (fun _ => ?_) fun hh => ?_
      · have hp : (q - 1) * yn0 ≤ 4294967296 * 4294967295 := Nat.mul_le_mul (by omega) (by omega)
        rw [← g'.fits (by omega)] at hD; exact hD
      · refine ih _ _ g' (by omega) (by omega) ?_
        rw [Nat.add_mul, Nat.one_mul] at hk
        omega
    unfold bits_Div64.L11.t bits_Div64.D12.t
    refine c_dec (fun hb => step (Or.inl (by omega))) fun hb => ?_
    have hp : q * yn0 ≤ 4294967295 * 4294967295 := Nat.mul_le_mul (by omega) (by omega)
    refine k_u64 (q * yn0) (by norm_cast) (by omega) ?_
    refine k_u64 (4294967296 * r) (by omega) (by omega) ?_
    refine k_u64 (4294967296 * r + u1) (by omega) (by omega) ?_
    refine c_dec (fun hb => step (Or.inr (by omega))) fun hb => ?_
    rw [← g.fits (by omega)] at hD; exact hD
theorem Guess.first {u32 u1 yn1 yn0 : Nat} (h1 : 0 < yn1) (hu : u1 < 4294967296) : Guess u32 u1 yn1 yn0 (u32 / yn1) (u32 % yn1) := by
  refine ⟨by rw [Nat.mul_comm]; exact Nat.div_add_mod _ _, ?_⟩
  have h2 : u32 < (u32 / yn1 + 1) * yn1 := by
    rw [Nat.add_mul, Nat.one_mul, Nat.mul_comm]
    have := Nat.div_add_mod u32 yn1
    have := Nat.mod_lt u32 h1
    omega
  rw [Nat.mul_add, ← Nat.mul_assoc]
  generalize (u32 / yn1 + 1) * yn1 = a at *
  omega
theorem first_le {u32 yn1 yn0 : Nat} (h1 : 2147483648 ≤ yn1) (hy : u32 < yn1 * 4294967296 + yn0) (hy0 : yn0 < 4294967296) : u32 / yn1 ≤ 4294967297 := by
  have : u32 / yn1 < 4294967298 := by
    rw [Nat.div_lt_iff_lt_mul (by omega)]; omega
  omega
theorem div_is {n y q r : Nat} (e : q * y + r = n) (l : r < y) : n / y = q ∧ n % y = r := by
  have hy : 0 < y := Nat.lt_of_le_of_lt (Nat.zero_le _) l
  subst e
  rw [Nat.add_comm, Nat.mul_comm]
  exact ⟨by rw [Nat.add_mul_div_left _ _ hy, Nat.div_eq_of_lt l, Nat.zero_add], by rw [Nat.add_mul_mod_self_left, Nat.mod_eq_of_lt l]⟩
theorem long_div {u32 u1 u0 Y q1 r1 q0 r0 : Nat} (eU : q1 * Y + r1 = u32 * 4294967296 + u1) (eV : q0 * Y + r0 = r1 * 4294967296 + u0) : (q1 * 4294967296 + q0) * Y + r0 = u32 * 18446744073709551616 + u1 * 4294967296 + u0 := by
  rw [Nat.add_mul, Nat.mul_right_comm]
  generalize q1 * Y = a at *; generalize q0 * Y = b at *; omega
/-- The middle: the first digit is right; the second one is sought. -/
theorem Div_mid {R : Rt} {Y s yn1 yn0 u1 u0 u32 q1 r1 q0 r0 : Nat} {h : Hp} (hY : Y = yn1 * 4294967296 + yn0) (hu0 : u0 < 4294967296) (hy1 : yn1 < 4294967296) (hy2 : 2147483648 ≤ yn1) (hy0 : yn0 < 4294967296) (hs : s < 64)
    (eU : q1 * Y + r1 = u32 * 4294967296 + u1) (lU : r1 < Y) (hq1 : q1 < 4294967296) (eV : q0 * Y + r0 = r1 * 4294967296 + u0) (lV : r0 < Y) (hq0 : q0 < 4294967296)
    (g : R (.tuple #[.int .u64 ((q1 * 4294967296 + q0 : Nat) : Int), .int .u64 ((r0 / 2 ^ s : Nat) : Int)]) h) :
    bits_Div64.D4.t R (Y : Int) (s : Int) (yn1 : Int) (yn0 : Int) (u32 : Int) (u1 : Int) (u0 : Int) (q1 : Int) h := by
  have hYlt : Y < 18446744073709551616 := by omega
  have hq := (div_is eV lV).1
  unfold bits_Div64.D4.t
  refine letK_intro (y := ((u32 * 4294967296 % 18446744073709551616 : Nat) : Int)) (by rw [wrap_u64]; omega) ?_
  refine letK_intro (y := (((u32 * 4294967296 + u1) % 18446744073709551616 : Nat) : Int)) (by rw [wrap_u64]; omega) ?_
  refine letK_intro (y := ((q1 * Y % 18446744073709551616 : Nat) : Int)) (by rw [wrap_u64, ← Int.natCast_mul]; omega) ?_
  refine letK_intro (y := (r1 : Int)) (by rw [wrap_u64]; generalize q1 * Y = z at *; omega) ?_
  have hd1 : r1 / yn1 ≤ 4294967297 := first_le hy2 (by omega) hy0
  refine ⟨by omega, k_u64 (r1 / yn1) (tdiv_nat _ _) (by omega) ?_⟩
  have hm1 : r1 / yn1 * yn1 ≤ r1 := Nat.div_mul_le_self _ _
  have hmm : r1 % yn1 = r1 - r1 / yn1 * yn1 := by
    have := Nat.div_add_mod r1 yn1
    rw [Nat.mul_comm] at this; omega
  have hlt := Nat.mod_lt r1 (show 0 < yn1 by omega)
  refine k_u64 (r1 / yn1 * yn1) (by rw [Int.natCast_mul]) (by omega) ?_
  refine k_u64 (r1 % yn1) (by omega) (by omega) ?_
  refine ⟨1 + 1, ?_⟩
  refine Div_loop2 (by omega) hu0 hy1 hy0 ?_ 1 _ _ (Guess.first (by omega) hu0) hd1 (by omega) (by omega)
  rw [← hY, hq]
  unfold bits_Div64.D5.t
  refine k_u64 (q1 * 4294967296) (by omega) (by omega) ?_
  refine k_u64 (q1 * 4294967296 + q0) (by omega) (by omega) ?_
  refine letK_intro (y := ((r1 * 4294967296 % 18446744073709551616 : Nat) : Int)) (by rw [wrap_u64]; omega) ?_
  refine letK_intro (y := (((r1 * 4294967296 + u0) % 18446744073709551616 : Nat) : Int)) (by rw [wrap_u64]; omega) ?_
  refine letK_intro (y := ((q0 * Y % 18446744073709551616 : Nat) : Int)) (by rw [wrap_u64, ← Int.natCast_mul]; omega) ?_
  refine letK_intro (y := (r0 : Int)) (by rw [wrap_u64]; generalize q0 * Y = z at *; omega) ?_
  exact shr_k' rfl s _ (by omega) rfl rfl g
theorem split_lo (U L : Nat) : U * 18446744073709551616 + L / 4294967296 * 4294967296 + L % 4294967296 = U * 18446744073709551616 + L := by omega
theorem Div64_spec {hi lo y : Nat} (hh : hi < y) (hl : lo < 18446744073709551616) (hy : y < 18446744073709551616) (h : Hp) :
    HC bits_Div64.id #[.int .u64 (hi : Int), .int .u64 (lo : Int), .int .u64 (y : Int)] h fun v h' => h' = h ∧ Ans2 v ((hi * 18446744073709551616 + lo) / y) ((hi * 18446744073709551616 + lo) % y) := by
  refine bits_Div64.ok ?_
  unfold bits_Div64.t bits_Div64.D1.t
  refine c_eq (fun hz => absurd hz (by omega)) fun hz => ?_
  unfold bits_Div64.D2.t
  refine c_dec (fun hz => absurd hz (by omega)) fun hz => ?_
  unfold bits_Div64.D3.t
  refine c_eq (fun h0 => ?_) fun h0 => ?_
  · have e : hi = 0 := by omega
    subst e
    have hdl := Nat.div_le_self lo y
    refine ⟨by omega, k_u64 (lo / y) (tdiv_nat _ _) (by omega) ?_⟩
    refine ⟨by omega, letK_intro (tmod_nat _ _) ?_⟩
    rw [Nat.zero_mul, Nat.zero_add]; exact ⟨rfl, rfl⟩
  · refine hc_intro (Lead_spec hy _) fun v h' ⟨e1, e2⟩ => ?_
    subst e1; subst e2
    refine gInt_intro rfl ?_
    have hb1 : blen y ≤ 64 := blen_le.mpr hy
    have hb0 := blen_pos (show y ≠ 0 by omega)
    obtain ⟨s, hs⟩ : ∃ s, s = 64 - blen y := ⟨_, rfl⟩
    rw [← hs]
    have hs63 : s ≤ 63 := by omega
    refine k_u64 s rfl (by omega) ?_
    -- the divisor, moved up
    have hp0 : 0 < 2 ^ s := Nat.pow_pos (by decide)
    have hYlt : y * 2 ^ s < 18446744073709551616 := by
      have := blen_le (n := y * 2 ^ s) (k := 64)
      rw [blen_mul s (by omega)] at this
      exact this.mp (by omega)
    have hYge : 9223372036854775808 ≤ y * 2 ^ s := Nat.le_of_not_lt fun hlt => by
      have := (blen_le (n := y * 2 ^ s) (k := 63)).mpr hlt
      rw [blen_mul s (by omega)] at this; omega
    have hqs : 2 ^ s * 2 ^ (64 - s) = 18446744073709551616 := pq (by omega)
    have hi1 : hi * 2 ^ s + 2 ^ s ≤ y * 2 ^ s := by
      have := Nat.mul_le_mul_right (2 ^ s) hh
      rw [Nat.succ_mul] at this; exact this
    have hlo : lo / 2 ^ (64 - s) < 2 ^ s := by
      rw [Nat.div_lt_iff_lt_mul (Nat.pow_pos (by decide)), hqs]; exact hl
    have elo : lo * 2 ^ s = lo / 2 ^ (64 - s) * 18446744073709551616 + lo * 2 ^ s % 18446744073709551616 := by
      have e : lo * 2 ^ s / 18446744073709551616 = lo / 2 ^ (64 - s) := by
        rw [← hqs, Nat.mul_comm lo, Nat.mul_div_mul_left _ _ hp0]
      have := Nat.div_add_mod (lo * 2 ^ s) 18446744073709551616
      rw [e] at this; omega
    have eN : (hi * 18446744073709551616 + lo) * 2 ^ s = (hi * 2 ^ s + lo / 2 ^ (64 - s)) * 18446744073709551616 + lo * 2 ^ s % 18446744073709551616 := by
      rw [Nat.add_mul, Nat.mul_right_comm]
      generalize hi * 2 ^ s = a at *
      generalize lo * 2 ^ s = b at *
      omega
    have eor : hi * 2 ^ s ||| lo / 2 ^ (64 - s) = hi * 2 ^ s + lo / 2 ^ (64 - s) := by
      rw [Nat.mul_comm, ← Nat.two_pow_add_eq_or_of_lt hlo]
    refine shl_k rfl s _ (by omega) rfl rfl ?_
    rw [Nat.mod_eq_of_lt hYlt]
    refine shr_k' rfl 32 4294967296 (by omega) (by decide) (by omega) ?_
    refine and32 rfl hYlt ?_
    refine shl_k rfl s _ (by omega) rfl rfl ?_
    rw [Nat.mod_eq_of_lt (show hi * 2 ^ s < 18446744073709551616 by omega)]
    refine k_u64 (64 - s) (by omega) (by omega) ?_
    refine shr_k' rfl (64 - s) _ (by omega) rfl rfl ?_
    have hlo64 : lo / 2 ^ (64 - s) < 18446744073709551616 := Nat.lt_of_le_of_lt (Nat.div_le_self _ _) hl
    refine or_k rfl rfl (by omega) hlo64 ?_
    rw [eor]
    refine shl_k rfl s _ (by omega) rfl rfl ?_
    have hl2 : lo * 2 ^ s % 18446744073709551616 < 18446744073709551616 := Nat.mod_lt _ (by decide)
    refine shr_k' rfl 32 4294967296 (by omega) (by decide) (by omega) ?_
    refine and32 rfl hl2 ?_
    -- names
    have g1 : (hi * 18446744073709551616 + lo) / y = ((hi * 2 ^ s + lo / 2 ^ (64 - s)) * 18446744073709551616 + lo * 2 ^ s % 18446744073709551616) / (y * 2 ^ s) := by
      rw [← eN, Nat.mul_div_mul_right _ _ hp0]
    have g2 : (hi * 18446744073709551616 + lo) % y = ((hi * 2 ^ s + lo / 2 ^ (64 - s)) * 18446744073709551616 + lo * 2 ^ s % 18446744073709551616) % (y * 2 ^ s) / 2 ^ s := by
      rw [← eN, Nat.mul_mod_mul_right, Nat.mul_div_cancel _ hp0]
    have hU : hi * 2 ^ s + lo / 2 ^ (64 - s) < y * 2 ^ s := by omega
    rw [g1, g2]
    generalize hi * 2 ^ s + lo / 2 ^ (64 - s) = U at *
    generalize lo * 2 ^ s % 18446744073709551616 = L at *
    generalize y * 2 ^ s = Y at *
    have hy2 : 2147483648 ≤ Y / 4294967296 := by omega
    have hd1 : U / (Y / 4294967296) ≤ 4294967297 := first_le (yn0 := Y % 4294967296) hy2 (by omega) (by omega)
    refine ⟨by omega, k_u64 (U / (Y / 4294967296)) (tdiv_nat _ _) (by omega) ?_⟩
    have hm1 : U / (Y / 4294967296) * (Y / 4294967296) ≤ U := Nat.div_mul_le_self _ _
    have hmm : U % (Y / 4294967296) = U - U / (Y / 4294967296) * (Y / 4294967296) := by
      have := Nat.div_add_mod U (Y / 4294967296)
      rw [Nat.mul_comm] at this; omega
    have hlt := Nat.mod_lt U (show 0 < Y / 4294967296 by omega)
    refine k_u64 (U / (Y / 4294967296) * (Y / 4294967296)) (by rw [Int.natCast_mul]) (by omega) ?_
    refine k_u64 (U % (Y / 4294967296)) (by omega) (by omega) ?_
    refine ⟨1 + 1, ?_⟩
    refine Div_loop1 (by omega) (by omega) (by omega) (by omega) ?_ 1 _ _ (Guess.first (by omega) (by omega)) hd1 (by omega) (by omega)
    have eY : Y / 4294967296 * 4294967296 + Y % 4294967296 = Y := by omega
    rw [eY]
    have hYp : 0 < Y := Nat.lt_of_le_of_lt (Nat.zero_le _) hU
    have eU : (U * 4294967296 + L / 4294967296) / Y * Y + (U * 4294967296 + L / 4294967296) % Y = U * 4294967296 + L / 4294967296 := by rw [Nat.mul_comm]; exact Nat.div_add_mod _ _
    have lU := Nat.mod_lt (U * 4294967296 + L / 4294967296) hYp
    have hq1 : (U * 4294967296 + L / 4294967296) / Y < 4294967296 := by
      rw [Nat.div_lt_iff_lt_mul hYp]; omega
    obtain ⟨q1, hq1e⟩ : ∃ q1, q1 = (U * 4294967296 + L / 4294967296) / Y := ⟨_, rfl⟩
    obtain ⟨r1, hr1e⟩ : ∃ r1, r1 = (U * 4294967296 + L / 4294967296) % Y := ⟨_, rfl⟩
    rw [← hq1e, ← hr1e] at eU
    rw [← hr1e] at lU
    rw [← hq1e] at hq1 ⊢
    have eV : (r1 * 4294967296 + L % 4294967296) / Y * Y + (r1 * 4294967296 + L % 4294967296) % Y = r1 * 4294967296 + L % 4294967296 := by rw [Nat.mul_comm]; exact Nat.div_add_mod _ _
    have lV := Nat.mod_lt (r1 * 4294967296 + L % 4294967296) hYp
    have hq0 : (r1 * 4294967296 + L % 4294967296) / Y < 4294967296 := by
      rw [Nat.div_lt_iff_lt_mul hYp]; omega
    refine Div_mid eY.symm (by omega) (by omega) hy2 (by omega) (by omega) eU lU hq1 eV lV hq0 ?_
    have el := div_is (long_div eU eV) lV
    rw [split_lo] at el
    rw [el.1, el.2]; exact ⟨rfl, rfl⟩
end Go.Proofs.Ytaglonbkdcmmpaa.G
