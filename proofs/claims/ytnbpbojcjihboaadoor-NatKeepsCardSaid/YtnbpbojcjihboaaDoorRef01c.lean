/- What the digits' calls of the reference answer: Sub, MulSmall, Shl, Bit, Fits. -/
import Derived.Test.YtnbpbojcjihboaaDoorRef01b
namespace Go.Proofs.YtnbpbojcjihboaaDoor.G
open Go.Gv
set_option maxRecDepth 100000
set_option linter.unusedVariables false
/-! ### Sub -/
theorem rsub_step {zs xs ys : List Nat} {i x y t o o' : Nat} (hz : zs.length = i) (h : x + 4294967296 * o' = t + y + o) (hi : D.val zs + D.val (ys.take i) = D.val (xs.take i) + o * 2 ^ (32 * i)) (hx : D.val (xs.take (i + 1)) = D.val (xs.take i) + 2 ^ (32 * i) * x) (hy : D.val (ys.take (i + 1)) = D.val (ys.take i) + 2 ^ (32 * i) * y) :
    D.val (zs ++ [t]) + D.val (ys.take (i + 1)) = D.val (xs.take (i + 1)) + o' * 2 ^ (32 * (i + 1)) := by
  rw [D.val_append, hz, hx, hy, D.pow_step]
  simp only [D.val, Nat.mul_zero, Nat.add_zero]
  generalize 2 ^ (32 * i) = P at *
  have e : P * (x + 4294967296 * o') = P * (t + y + o) := by rw [h]
  have e1 : P * (x + 4294967296 * o') = P * x + o' * (4294967296 * P) := by rw [Nat.mul_add, Nat.mul_left_comm, Nat.mul_comm P o', Nat.mul_left_comm]
  have e2 : P * (t + y + o) = P * t + P * y + o * P := by rw [Nat.mul_add, Nat.mul_add, Nat.mul_comm P o]
  omega
theorem take_val {xs : List Nat} {i : Nat} : D.val (xs.take (i + 1)) = D.val (xs.take i) + 2 ^ (32 * i) * xs.getD i 0 := by
  by_cases h : i < xs.length
  · rw [take_snoc h, D.val_append, List.length_take, Nat.min_eq_left (by omega)]; simp [D.val]
  · rw [List.take_of_length_le (by omega), List.take_of_length_le (by omega)]
    simp [List.getD, show xs.length ≤ i by omega]
theorem rSub_push {R : Rt} {a b : Option Addr} {c d k m : Nat} {xs ys : List Nat} {h0 : Hp} (hm : m = xs.length) (i x take : Nat) (zs : List Nat) (a2 : Option Addr) (h : Hp) (y : Int) (hy : y = (take : Int)) (hxv : x = xs.getD i 0) (hx : x < 4294967296) (ht : take ≤ 4294967296) (hi : i < m) (hmm : m ≤ 70368744177656) (r : RdE eU32 h a c xs) (g : GotE eU32 h0 h a2 m zs) (kp : Keep h0 h) (hz : zs.length = i)
    (ih : ∀ (t o : Nat) a2 h, x + 4294967296 * o = t + take → o ≤ 1 → t < 4294967296 → GotE eU32 h0 h a2 m (zs ++ [t]) → Keep h0 h → gnomonref01_Sub.L4.t R k a xs.length c b ys.length d a2 (i + 1) m (o : Int) ((i + 1 : Nat) : Int) h) :
    idxK a xs.length (i : Int) 1 fun q17 => ldK h q17 fun v18 => gInt .u32 v18 fun x_19 => letK (IntKind.u64.wrap x_19) fun n20 =>
      cond (decide (n20 < y)) (letK (IntKind.u64.wrap (n20 + 4294967296)) fun n21 => letK (IntKind.u64.wrap (n21 - y)) fun n22 => letK (IntKind.u32.wrap n22) fun n23 => boxK h 87 [.int .u32 n23] fun q24 h25 => apK h25 87 T87 a2 i m (.slice (some q24) 1 1) fun a_26 l_26 c_26 h26 => letK (IntKind.i64.wrap ((i : Int) + 1)) fun n27 => gnomonref01_Sub.L4.t R k a xs.length c b ys.length d a_26 l_26 c_26 1 n27 h26)
        (letK (IntKind.u64.wrap (n20 - y)) fun n28 => letK (IntKind.u32.wrap n28) fun n29 => boxK h 87 [.int .u32 n29] fun q30 h31 => apK h31 87 T87 a2 i m (.slice (some q30) 1 1) fun a_32 l_32 c_32 h32 => letK (IntKind.i64.wrap ((i : Int) + 1)) fun n33 => gnomonref01_Sub.L4.t R k a xs.length c b ys.length d a_32 l_32 c_32 0 n33 h32) := by
  subst hy; subst hm
  refine at32 r (j := i) rfl rfl hi ?_
  rw [← hxv]
  refine k_u64 x rfl (by omega) ?_
  refine c_dec (fun hb => ?_) fun hb => ?_
  · refine k_u64 (x + 4294967296) (by omega) (by omega) ?_
    refine k_u64 (x + 4294967296 - take) (by omega) (by omega) ?_
    refine k_u32 (x + 4294967296 - take) rfl (by omega) ?_
    refine push32 g kp hz.symm rfl (by omega) (by omega) (by omega) fun a' c' h' g' k' hc => ?_
    obtain rfl := hc (by omega)
    refine k_i64 ((i + 1 : Nat) : Int) (by omega) (by omega) (by omega) ?_
    rw [hz]
    exact ih _ 1 a' h' (by omega) (by omega) (by omega) g' k'
  · refine k_u64 (x - take) (by omega) (by omega) ?_
    refine k_u32 (x - take) rfl (by omega) ?_
    refine push32 g kp hz.symm rfl (by omega) (by omega) (by omega) fun a' c' h' g' k' hc => ?_
    obtain rfl := hc (by omega)
    refine k_i64 ((i + 1 : Nat) : Int) (by omega) (by omega) (by omega) ?_
    rw [hz]
    exact ih _ 0 a' h' (by omega) (by omega) (by omega) g' k'
theorem rSub_walk {R : Rt} {a b : Option Addr} {c d : Nat} {xs ys : List Nat} {h0 : Hp} (r : RdE eU32 h0 a c xs) (s : RdE eU32 h0 b d ys) (hle : D.val ys ≤ D.val xs) (hlen : ys.length ≤ xs.length) (post : ∀ v h', Keep h0 h' → sD h0 h' v (D.val xs - D.val ys) → R v h') :
    ∀ (k i ow : Nat) (zs : List Nat) (a2 : Option Addr) (h : Hp), i + k = xs.length → zs.length = i → ow ≤ 1 → D.val zs + D.val (ys.take i) = D.val (xs.take i) + ow * 2 ^ (32 * i) → GotE eU32 h0 h a2 xs.length zs → Keep h0 h →
      gnomonref01_Sub.L4.t R (k + 1) a xs.length c b ys.length d a2 i xs.length (ow : Int) (i : Int) h := by
  have h1 := r.len32
  intro k
  induction k with
  | zero =>
    intro i ow zs a2 h hi hz hc e g kp
    unfold gnomonref01_Sub.L4.t gnomonref01_Sub.D5.t
    refine c_dec (fun hb => absurd hb (by omega)) fun _ => ?_
    unfold gnomonref01_Sub.D2.t
    refine rNorm_tail g hz.symm ?_ kp post
    rw [List.take_of_length_le (by omega), List.take_of_length_le (by omega)] at e
    have hlt := D.val_lt (xs := zs) g.rd.ok
    rw [hz] at hlt
    have : ow = 0 := by
      rcases Nat.lt_or_ge ow 1 with hh | hh
      · omega
      · have : ow = 1 := by omega
        subst this; omega
    subst this
    omega
  | succ k ih =>
    intro i ow zs a2 h hi hz hc e g kp
    have hw := r.word32 i
    have hw2 := s.word32 i
    unfold gnomonref01_Sub.L4.t gnomonref01_Sub.D5.t
    refine c_dec (fun _ => ?_) fun hb => absurd (by omega) hb
    refine c_dec (fun hb => ?_) fun hb => ?_
    · refine at32 (s.keep kp) (j := i) rfl rfl (by omega) ?_
      refine k_u64 (ys.getD i 0) rfl (by omega) ?_
      refine k_u64 (ys.getD i 0 + ow) (by omega) (by omega) ?_
      exact rSub_push rfl i (xs.getD i 0) (ys.getD i 0 + ow) zs a2 h _ rfl rfl hw (by omega) (by omega) h1 (r.keep kp) g kp hz fun t o a' h' ht ho htt g' k' => ih (i + 1) o _ a' h' (by omega) (by simp [hz]) ho (rsub_step hz (by omega) e take_val take_val) g' k'
    · have hy0 : ys.getD i 0 = 0 := by simp [List.getD, show ys.length ≤ i by omega]
      exact rSub_push rfl i (xs.getD i 0) ow zs a2 h _ rfl rfl hw (by omega) (by omega) h1 (r.keep kp) g kp hz fun t o a' h' ht ho htt g' k' => ih (i + 1) o _ a' h' (by omega) (by simp [hz]) ho (rsub_step hz (by omega) e take_val (y := 0) (by rw [take_val, hy0])) g' k'
theorem rSub_spec {a b : Option Addr} {c d l n X Y : Nat} {h : Hp} (r : RdE eU32 h a c (D.digs X)) (s : RdE eU32 h b d (D.digs Y)) (hl : l = (D.digs X).length) (hm : n = (D.digs Y).length) :
    HC gnomonref01_Sub.id #[.slice a l c, .slice b n d] h fun v h' => Keep h h' ∧ sD h h' v (X - Y) := by
  subst hl; subst hm
  have h1 := r.len32
  refine gnomonref01_Sub.ok ?_
  unfold gnomonref01_Sub.t gnomonref01_Sub.D1.t
  refine hc_intro (rCmp_spec r s rfl rfl) fun v h' ⟨e1, e2⟩ => ?_
  subst e1; subst e2
  refine gInt_intro rfl ?_
  refine c_dec (fun hb => ?_) fun hb => ?_
  · refine hc_intro (rWord_spec (w := 0) rfl (by decide) h') fun v h2 ⟨k2, s2⟩ => ?_
    have e0 : X - Y = 0 := by unfold cmpI at hb; split at hb <;> (try split at hb) <;> omega
    rw [e0]
    refine s2.elim fun a2 c2 g2 => ⟨k2, a2, c2, rfl, g2⟩
  · have hlt : Y < X := by unfold cmpI at hb; split at hb <;> (try split at hb) <;> omega
    have hlen : (D.digs Y).length ≤ (D.digs X).length := D.digs_len_mono (Nat.le_of_lt hlt)
    refine mkE eU32 0 0 (D.digs X).length rfl ok32 4 rfl (by decide) rfl rfl (by omega) (by omega) fun h2 o k => ?_
    unfold gnomonref01_Sub.D3.t
    refine ⟨(D.digs X).length + 1, ?_⟩
    rw [Int.toNat_natCast]
    refine rSub_walk r s (by rw [D.val_digs, D.val_digs]; omega) hlen (fun v h3 k3 s3 => ⟨k3, by rw [D.val_digs, D.val_digs] at s3; exact s3⟩) _ 0 0 [] _ h2 (by omega) rfl (by omega) (by simp [D.val]) ?_ k
    · exact BlkE.got (xs := []) (rest := List.replicate (D.digs X).length 0) (by simpa using o) (Nat.le_refl _) (by simp) (by simp) (by simp)
/-! ### MulSmall -/
theorem rMulSmall_walk {R : Rt} {a : Option Addr} {c w T m : Nat} {xs : List Nat} {h0 : Hp} (r : RdE eU32 h0 a c xs) (hw : w < 4294967296) (hm : m = xs.length + 1) (hmm : m ≤ 70368744177656) (post : ∀ v h', Keep h0 h' → sD h0 h' v T → R v h') :
    ∀ (k i ca : Nat) (zs : List Nat) (a2 : Option Addr) (h : Hp), i + k = xs.length → zs.length = i → ca < 4294967296 → D.val zs + (D.val (xs.drop i) * w + ca) * 2 ^ (32 * i) = T → GotE eU32 h0 h a2 m zs → Keep h0 h →
      gnomonref01_MulSmall.L4.t R (k + 1) a xs.length c (w : Int) a2 i m (ca : Int) (i : Int) h := by
  intro k
  induction k with
  | zero =>
    intro i ca zs a2 h hi hz hc e g kp
    unfold gnomonref01_MulSmall.L4.t gnomonref01_MulSmall.D5.t
    refine c_dec (fun hb => absurd hb (by omega)) fun _ => ?_
    unfold gnomonref01_MulSmall.D2.t
    refine k_u32 ca rfl hc ?_
    refine push32 g kp hz.symm rfl hc (by omega) (by omega) fun a' c' h' g' k' hc => ?_
    refine rNorm_tail g' (by simp) ?_ k' post
    rw [List.drop_of_length_le (by omega)] at e
    rw [D.val_append, hz, ← e]
    simp [D.val, Nat.mul_comm]
  | succ k ih =>
    intro i ca zs a2 h hi hz hc e g kp
    have hx := r.word32 i
    have hp := mul_lt32 hx hw
    unfold gnomonref01_MulSmall.L4.t gnomonref01_MulSmall.D5.t
    refine c_dec (fun _ => ?_) fun hb => absurd (by omega) hb
    refine at32 (r.keep kp) (j := i) rfl rfl (by omega) ?_
    refine k_u64 (xs.getD i 0) rfl (by omega) ?_
    refine k_u64 w rfl (by omega) ?_
    have em : ((xs.getD i 0 : Nat) : Int) * (w : Int) = ((xs.getD i 0 * w : Nat) : Int) := (Int.natCast_mul _ _).symm
    rw [em]
    have ev : D.val (xs.drop i) * w = xs.getD i 0 * w + 4294967296 * (D.val (xs.drop (i + 1)) * w) := by
      rw [D.val_getD_drop, Nat.add_mul, Nat.mul_assoc]
    rw [ev] at e
    generalize xs.getD i 0 * w = p at *
    refine k_u64 p rfl (by omega) ?_
    refine k_u64 (ca + p) (by omega) (by omega) ?_
    refine and32 rfl (by omega) ?_
    refine k_u32 ((ca + p) % 4294967296) rfl (by omega) ?_
    refine push32 g kp hz.symm rfl (by omega) (by omega) (by omega) fun a' c' h' g' k' hc => ?_
    obtain rfl := hc (by omega)
    refine shr32 rfl ?_
    refine k_i64 ((i + 1 : Nat) : Int) (by omega) (by omega) (by omega) ?_
    rw [hz]
    refine ih (i + 1) _ _ a' h' (by omega) (by simp [hz]) (by omega) ?_ g' k'
    rw [← e]
    exact D.push_step (s := p) (t := (ca + p) % 4294967296) (c' := (ca + p) / 4294967296) hz rfl (by omega)
theorem rMulSmall_spec {a : Option Addr} {c l w z : Nat} {xs : List Nat} {h : Hp} (r : RdE eU32 h a c xs) (hl : l = xs.length) {x y : Int} (hx : x = (w : Int)) (hy : y = (z : Int)) (hw : w < 4294967296) (hz : z < 4294967296) (hlen : xs.length ≤ 1099511627777) :
    HC gnomonref01_MulSmall.id #[.slice a l c, .int .u32 x, .int .u32 y] h fun v h' => Keep h h' ∧ sD h h' v (D.val xs * w + z) := by
  subst hl; subst hx; subst hy
  refine gnomonref01_MulSmall.ok ?_
  unfold gnomonref01_MulSmall.t gnomonref01_MulSmall.D1.t
  refine k_i64 ((xs.length + 1 : Nat) : Int) (by omega) (by omega) (by omega) ?_
  refine mkE eU32 0 0 (xs.length + 1) rfl ok32 4 rfl (by decide) rfl rfl (by omega) (by omega) fun h2 o k => ?_
  refine k_u64 z rfl (by omega) ?_
  unfold gnomonref01_MulSmall.D3.t
  refine ⟨xs.length + 1, ?_⟩
  rw [Int.toNat_natCast]
  refine rMulSmall_walk (T := D.val xs * w + z) r hw rfl (by omega) (fun v h' k s => ⟨k, s⟩) _ 0 z [] _ h2 (by omega) rfl hz ?_ ?_ k
  · simp [D.val]
  · exact BlkE.got (xs := []) (rest := List.replicate (xs.length + 1) 0) (by simpa using o) (Nat.le_refl _) (by simp) (by simp) (by simp)
/-! ### Shl -/
theorem dlen_mul {X w k : Nat} (hX : (D.digs X).length ≤ k) (hw : w < 4294967296) : (D.digs (X * w)).length ≤ k + 1 := by
  rw [D.digs_len] at hX ⊢
  rw [D.pow_step]
  rcases Nat.eq_zero_or_pos w with h | h
  · subst h; simp [Nat.pow_pos]
  · calc X * w < 2 ^ (32 * k) * w := Nat.mul_lt_mul_of_pos_right hX h
      _ ≤ 2 ^ (32 * k) * 4294967296 := Nat.mul_le_mul_left _ (Nat.le_of_lt hw)
      _ = 4294967296 * 2 ^ (32 * k) := Nat.mul_comm _ _
theorem rShl_spec {a : Option Addr} {c l X : Nat} {h : Hp} (r : RdE eU32 h a c (D.digs X)) (hl : l = (D.digs X).length) {x : Int} {n : Nat} (hx : x = (n : Int)) (hn : n ≤ 35184372088832) (hX2 : (D.digs X).length ≤ 1099511627776) :
    HC gnomonref01_Shl.id #[.slice a l c, .int .i64 x] h fun v h' => Keep h h' ∧ sD h h' v (X * 2 ^ n) := by
  subst hl; subst hx
  have hX : D.val (D.digs X) = X := D.val_digs X
  refine gnomonref01_Shl.ok ?_
  unfold gnomonref01_Shl.t gnomonref01_Shl.D1.t
  have same : ∀ Y, X = Y → HC gnomonref01_Norm.id #[.slice a (D.digs X).length c] h fun v h' => gSlice v fun a l c => (fun v h' => Keep h h' ∧ sD h h' v Y) (.slice a l c) h' := by
    intro Y e
    refine hc_intro (rNorm_spec r rfl) fun v h' ⟨k2, s⟩ => ?_
    rw [hX, e] at s
    refine s.elim fun a2 c2 g2 => ⟨k2, a2, c2, rfl, g2⟩
  refine c_dec (fun h0 => ?_) fun h0 => ?_
  · have : n = 0 := by omega
    subst this; exact same _ (by simp)
  · refine c_eq (fun h1 => ?_) fun h1 => ?_
    · refine same _ ?_
      have e : D.digs X = [] := List.length_eq_zero_iff.mp (by omega)
      have : X = 0 := by rw [← hX, e]; rfl
      subst this; simp
    · unfold gnomonref01_Shl.D2.t
      refine div32_i64 (by omega) rfl ?_
      refine div32_i64 (by omega) rfl ?_
      refine k_i64 ((n / 32 + (D.digs X).length : Nat) : Int) (by omega) (by omega) (by omega) ?_
      refine k_i64 ((n / 32 + (D.digs X).length + 1 : Nat) : Int) (by omega) (by omega) (by omega) ?_
      refine mkE eU32 0 (n / 32) (n / 32 + (D.digs X).length + 1) rfl ok32 4 rfl (by decide) rfl rfl (by omega) (by omega) fun h2 o k => ?_
      refine mod32_i64 rfl ?_
      refine one_shl (k := n % 32) (by omega) rfl ?_
      have hp : 2 ^ (n % 32) < 4294967296 := pow_lt32 (show n % 32 < 32 by omega)
      refine hc_intro (rMulSmall_spec (z := 0) (r.keep k) rfl rfl rfl hp (by decide) (by omega)) fun v h3 ⟨k3, s⟩ => ?_
      rw [hX, Nat.add_zero] at s
      refine s.elim fun a2 c2 g2 => ?_
      have hl2 := dlen_mul (Nat.le_refl (D.digs X).length) hp
      have g0 : GotE eU32 h h2 (some ⟨h.size, 0, none⟩) (n / 32 + (D.digs X).length + 1) (List.replicate (n / 32) 0) := by
        refine BlkE.got (rest := List.replicate ((D.digs X).length + 1) 0) ?_ (Nat.le_refl _) ?_ (by simp; omega) (by simp; omega)
        · rw [List.replicate_append_replicate, show n / 32 + ((D.digs X).length + 1) = n / 32 + (D.digs X).length + 1 by omega]; exact o
        · simp; show n / 32 ≤ 70368744177656; omega
      rw [Int.toNat_natCast, Int.toNat_natCast]
      refine apE (g0.keep k3) (Nat.le_trans k.le k3.le) g2.rd (by simp) rfl rfl 0 rfl ok32 4 rfl (by decide) ?_ ?_ fun a4 c4 h4 g4 kx _ => ?_
      · simp only [List.length_replicate]; show n / 32 + _ ≤ 70368744177656; omega
      · intro hh; simp only [List.length_replicate] at hh; omega
      · have k4 : Keep h h4 := kx.keep (k.trans k3) (g0.keep k3).offs
        refine rNorm_tail (R := fun v h' => Keep h h' ∧ sD h h' v (X * 2 ^ n)) g4 (by simp) ?_ k4 fun v h' k s => ⟨k, s⟩
        rw [D.val_append, D.val_replicate, D.val_digs, List.length_replicate, pow_split n, Nat.zero_add, Nat.mul_left_comm]
/-! ### Bit -/
theorem bit_digit {X k m : Nat} (hk : k < 32) : X / 2 ^ (32 * m + k) % 2 = (X / 2 ^ (32 * m) % 4294967296) / 2 ^ k % 2 := by
  rw [Nat.pow_add, ← Nat.div_div_eq_div_mul]
  generalize X / 2 ^ (32 * m) = Y
  have e : (4294967296 : Nat) = 2 ^ k * (2 * 2 ^ (31 - k)) := by
    rw [← Nat.pow_succ', ← Nat.pow_add, show k + (31 - k + 1) = 32 by omega]
  rw [e, Nat.mod_mul, Nat.add_comm, Nat.mul_add_div (Nat.pow_pos (by decide)), Nat.div_eq_of_lt (Nat.mod_lt _ (Nat.pow_pos (by decide))), Nat.add_zero, Nat.mod_mul_right_mod]
theorem D.getD_val {xs : List Nat} (hw : D.Words xs) (m : Nat) : xs.getD m 0 = D.val xs / 2 ^ (32 * m) % 4294967296 := by
  rw [← D.val_drop hw, D.val_getD_drop, Nat.add_mul_mod_self_left]
  exact (Nat.mod_eq_of_lt (getD_ltB (by decide) hw m)).symm
theorem shr_u32 {x y : Int} {n k : Nat} (hx : x = (n : Int)) (hy : y = (k : Int)) (hk : k < 32) {K : Int → Prop} (g : K ((n / 2 ^ k : Nat) : Int)) : 0 ≤ y ∧ letK (shrI .u32 x y) K := by
  subst hx; subst hy
  refine ⟨by omega, ⟨?_⟩⟩
  show K (Int.fdiv (n : Int) (2 ^ (min (k : Int).toNat 32)))
  have e : min (k : Int).toNat 32 = k := by omega
  rw [e]
  have e2 : Int.fdiv (n : Int) (2 ^ k) = ((n / 2 ^ k : Nat) : Int) := by
    rw [Int.fdiv_eq_ediv_of_nonneg _ (Int.le_of_lt (Int.pow_pos (by decide)))]
    norm_cast
  rw [e2]; exact g
theorem and_one32 {x : Int} {n : Nat} (hx : x = (n : Int)) (hn : n < 4294967296) {K : Int → Prop} (g : K ((n % 2 : Nat) : Int)) : letK (andI .u32 x 1) K := by
  subst hx
  refine ⟨?_⟩
  show K (IntKind.u32.wrap (BitVec.ofInt 32 (n : Int) &&& BitVec.ofInt 32 1).toNat)
  have e : (BitVec.ofInt 32 (n : Int) &&& BitVec.ofInt 32 1).toNat = n % 2 := by
    have e1 : BitVec.ofInt 32 (1 : Int) = BitVec.ofNat 32 1 := rfl
    rw [BitVec.ofInt_natCast, e1, BitVec.toNat_and, BitVec.toNat_ofNat, BitVec.toNat_ofNat, Nat.mod_eq_of_lt (by omega)]
    exact Nat.and_two_pow_sub_one_eq_mod n 1
  have hlt : n % 2 < 2 := Nat.mod_lt _ (by decide)
  have e3 : IntKind.u32.wrap ((n % 2 : Nat) : Int) = ((n % 2 : Nat) : Int) := by
    simp only [IntKind.wrap, IntKind.bits, IntKind.signed, Bool.false_and, Bool.false_eq_true, if_false]; omega
  rw [e, e3]; exact g
/-- The bit i of X, as the reference tells it. -/
def bitS (X : Nat) (i : Int) : Int := if i < 0 then 0 else ((X / 2 ^ i.toNat % 2 : Nat) : Int)
theorem rBit_spec {a : Option Addr} {c l X : Nat} {h : Hp} (r : RdE eU32 h a c (D.digs X)) (hl : l = (D.digs X).length) {x : Int} (hx : In .i64 x) :
    HC gnomonref01_Bit.id #[.slice a l c, .int .i64 x] h fun v h' => h' = h ∧ v = .int .i64 (bitS X x) := by
  subst hl
  rw [in_i64] at hx
  refine gnomonref01_Bit.ok ?_
  unfold gnomonref01_Bit.t gnomonref01_Bit.D1.t
  refine c_dec (fun h0 => ⟨rfl, by unfold bitS; rw [if_pos h0]⟩) fun h0 => ?_
  obtain ⟨n, rfl⟩ : ∃ n : Nat, x = (n : Int) := ⟨x.toNat, by omega⟩
  unfold bitS
  rw [if_neg h0, Int.toNat_natCast]
  refine div32_i64 (by omega) rfl ?_
  have hX : D.val (D.digs X) = X := D.val_digs X
  have hv : X / 2 ^ n % 2 = (D.digs X).getD (n / 32) 0 / 2 ^ (n % 32) % 2 := by
    have := bit_digit (X := X) (m := n / 32) (k := n % 32) (Nat.mod_lt _ (by decide))
    rw [Nat.div_add_mod] at this
    rw [this, D.getD_val (D.digs_words X), hX]
  rw [hv]
  refine c_dec (fun hb => ⟨rfl, ?_⟩) fun hb => ?_
  · have : (D.digs X).getD (n / 32) 0 = 0 := by simp [List.getD, show (D.digs X).length ≤ n / 32 by omega]
    rw [this]; simp
  · unfold gnomonref01_Bit.D2.t
    refine div32_i64 (by omega) rfl ?_
    refine at32 r (j := n / 32) rfl rfl (by omega) ?_
    have hw := r.word32 (n / 32)
    refine mod32_i64 rfl ?_
    refine shr_u32 rfl rfl (by omega) ?_
    have hle : (D.digs X).getD (n / 32) 0 / 2 ^ (n % 32) ≤ (D.digs X).getD (n / 32) 0 := Nat.div_le_self _ _
    refine and_one32 rfl (by omega) ?_
    refine k_i64 (((D.digs X).getD (n / 32) 0 / 2 ^ (n % 32) % 2 : Nat) : Int) rfl (by omega) (by omega) ?_
    exact ⟨rfl, rfl⟩
/-! ### Fits -/
def fitsS (X : Nat) : Int × Bool := if X < 18446744073709551616 then ((X : Int), true) else (0, false)
theorem digs_one {X : Nat} (h0 : X ≠ 0) (h : X < 18446744073709551616) : digs X = [X] := by
  rw [digs_pos h0, show X / 18446744073709551616 = 0 by omega, digs_zero, Nat.mod_eq_of_lt h]
theorem rFits_spec {a : Option Addr} {c l X : Nat} {h : Hp} (r : RdE eU32 h a c (D.digs X)) (hl : l = (D.digs X).length) :
    HC gnomonref01_Fits.id #[.slice a l c] h fun v h' => Keep h h' ∧ s2 (sI .u64) sBool h h' v (fitsS X) := by
  refine gnomonref01_Fits.ok ?_
  unfold gnomonref01_Fits.t gnomonref01_Fits.D1.t
  refine hc_intro (To_spec r hl) fun v h1 ⟨k1, a1, c1, e, g1⟩ => ?_
  subst e
  refine gSlice_intro rfl ?_
  have hlen1 := @digs_len X 0
  have hlen2 := @digs_len X 1
  have e1 : (2 : Nat) ^ (64 * 1) = 18446744073709551616 := by decide
  have e2 : (2 : Nat) ^ (64 * 0) = 1 := by decide
  rw [e1] at hlen2; rw [e2] at hlen1
  unfold fitsS
  refine c_eq (fun hb => ⟨k1, _, _, rfl, ⟨?_, ?_⟩, ?_⟩) fun hb => ?_
  · have : X = 0 := by omega
    subst this; rfl
  · rw [in_u64]; split <;> simp <;> omega
  · have : X = 0 := by omega
    subst this; rfl
  · refine c_eq (fun hb2 => ?_) fun hb2 => ⟨k1, _, _, rfl, ⟨?_, ?_⟩, ?_⟩
    · have hX0 : X ≠ 0 := by omega
      have hX1 : X < 18446744073709551616 := by omega
      have ed := digs_one hX0 hX1
      refine at64 g1.rd (j := 0) rfl rfl (by omega) ?_
      rw [if_pos hX1, ed]
      exact ⟨k1, _, _, rfl, ⟨rfl, by rw [in_u64]; omega⟩, rfl⟩
    · rw [if_neg (by omega)]
    · rw [if_neg (by omega)]; decide
    · rw [if_neg (by omega)]; rfl
end Go.Proofs.YtnbpbojcjihboaaDoor.G
