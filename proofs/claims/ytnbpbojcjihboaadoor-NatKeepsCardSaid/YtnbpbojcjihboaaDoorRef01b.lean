/- What the digits' calls of the reference answer: Bits, Bit, Mul, DivSmall, Shr, Low. -/
import Derived.Test.YtnbpbojcjihboaaDoorRef01a
namespace Go.Proofs.YtnbpbojcjihboaaDoor.G
open Go.Gv
set_option maxRecDepth 100000
set_option linter.unusedVariables false
theorem put32 {h0 h : Hp} {b l : Nat} {zs : List Nat} (o : BlkE eU32 h b zs) (kp : Keep h0 h) (hb : h0.size ≤ b) {i : Int} {j : Nat} (hi : i = (j : Int)) (hl : l = zs.length) (hj : j < zs.length) {x : Int} {v : Nat} (hx : x = (v : Int)) (hv : v < 4294967296) {K : Hp → Prop}
    (g : ∀ h', BlkE eU32 h' b (zs.set j v) → Keep h0 h' → K h') : idxK (some ⟨b, 0, none⟩) l i 1 fun q => stK h q (.int .u32 x) K :=
  putE0 o hi (by omega) hj (by rw [hx]; rfl) hv fun o2 k2 => g _ o2 (k2.keep kp hb)
/-! ### Bits -/
theorem blen_half {w : Nat} (h : w ≠ 0) : blen w = blen (w / 2) + 1 := by
  have h1 := blen_div w 1
  have h2 := blen_pos h
  rw [show w / 2 = w / 2 ^ 1 by rfl]; omega
theorem rBits_loop {R : Rt} {h : Hp} {T : Nat} (hT : T < 4611686018427387904) (g : R (.int .i64 (T : Int)) h) : ∀ (k x w : Nat), w < 2 ^ k → x + blen w = T → k ≤ 32 → gnomonref01_Bits.L4.t R (k + 1) (x : Int) (w : Int) h := by
  intro k
  induction k with
  | zero =>
    intro x w hw e _
    have : w = 0 := by simpa using hw
    subst this
    unfold gnomonref01_Bits.L4.t gnomonref01_Bits.D5.t
    refine c_dec (fun hb => absurd hb (by omega)) fun _ => ?_
    unfold gnomonref01_Bits.D2.t
    rw [show x = T by simpa [blen_zero] using e]; exact g
  | succ k ih =>
    intro x w hw e hk
    unfold gnomonref01_Bits.L4.t gnomonref01_Bits.D5.t
    refine c_dec (fun hb => ?_) fun hb => ?_
    · have hne : w ≠ 0 := by omega
      have hh := blen_half hne
      refine k_i64 ((x + 1 : Nat) : Int) (by omega) (by omega) (by omega) ?_
      refine ⟨by decide, ?_⟩
      have ed : Int.tdiv (w : Int) 2 = ((w / 2 : Nat) : Int) := tdiv_nat w 2
      rw [ed]
      have hp : 2 ^ (k + 1) ≤ 2 ^ 32 := Nat.pow_le_pow_right (by decide) hk
      refine k_u32 (w / 2) rfl (by rw [show (2 : Nat) ^ 32 = 4294967296 from rfl] at hp; omega) ?_
      exact ih (x + 1) (w / 2) (by rw [Nat.pow_succ] at hw; omega) (by omega) (by omega)
    · have : w = 0 := by omega
      subst this
      unfold gnomonref01_Bits.D2.t
      rw [show x = T by simpa [blen_zero] using e]; exact g
theorem rBits_raw {a : Option Addr} {c l : Nat} {xs : List Nat} {h : Hp} (r : RdE eU32 h a c xs) (hl : l = xs.length) (ht : trimL xs = xs) :
    HC gnomonref01_Bits.id #[.slice a l c] h fun v h' => h' = h ∧ v = .int .i64 ((blen (D.val xs) : Nat) : Int) := by
  subst hl
  have h1 := r.len32
  refine gnomonref01_Bits.ok ?_
  unfold gnomonref01_Bits.t gnomonref01_Bits.D1.t
  refine c_eq (fun h0 => ?_) fun h0 => ?_
  · have e : xs = [] := List.length_eq_zero_iff.mp (by omega)
    subst e; exact ⟨rfl, rfl⟩
  · have hlast : xs.getD (xs.length - 1) 0 ≠ 0 := by
      rcases trimL_iff.mp ht with e | e
      · subst e; simp at h0
      · exact e
    have hb := D.blen_trim r.ok (n := xs.length - 1) (by omega) hlast
    have hw := r.word32 (xs.length - 1)
    have hbl : blen (xs.getD (xs.length - 1) 0) ≤ 32 := blen_le.mpr hw
    refine k_i64 ((xs.length - 1 : Nat) : Int) (by omega) (by omega) (by omega) ?_
    refine k_i64 ((32 * (xs.length - 1) : Nat) : Int) (by omega) (by omega) (by omega) ?_
    unfold gnomonref01_Bits.D3.t
    refine k_i64 ((xs.length - 1 : Nat) : Int) (by omega) (by omega) (by omega) ?_
    refine at32 r (j := xs.length - 1) rfl rfl (by omega) ?_
    refine ⟨33, ?_⟩
    rw [hb]
    exact rBits_loop (by omega) ⟨rfl, rfl⟩ 32 _ _ hw rfl (Nat.le_refl _)
theorem rBits_spec {a : Option Addr} {c l X : Nat} {h : Hp} (r : RdE eU32 h a c (D.digs X)) (hl : l = (D.digs X).length) :
    HC gnomonref01_Bits.id #[.slice a l c] h fun v h' => h' = h ∧ v = .int .i64 ((blen X : Nat) : Int) := by
  have := rBits_raw r hl (D.trimL_digs X)
  rw [D.val_digs] at this; exact this
/-! ### Mul -/
theorem rgetD_set_ne {zs : List Nat} {i t v : Nat} (h : i ≠ t) : (zs.set i v).getD t 0 = zs.getD t 0 := by
  simp [List.getD, h]
theorem rMul_inner {R : Rt} {N4 : Option Addr → Nat → Nat → Option Addr → Nat → Nat → Option Addr → Nat → Nat → Int → Hp → Prop} {a b : Option Addr} {c1 c2 n i q T x : Nat} {xs ys : List Nat} {h0 : Hp}
    (s : RdE eU32 h0 b c2 ys) (hi : i < xs.length) (hx : x < 4294967296) (hn : n = xs.length + ys.length) (hq : h0.size ≤ q) (hnn : n ≤ 70368744177656)
    (g : ∀ h' zs, Keep h0 h' → BlkE eU32 h' q zs → zs.length = n → (∀ t, i + 1 + ys.length ≤ t → zs.getD t 0 = 0) → D.val zs + D.val (xs.drop (i + 1)) * D.val ys * 2 ^ (32 * (i + 1)) = T → N4 a xs.length c1 b ys.length c2 (some ⟨q, 0, none⟩) n n ((i + 1 : Nat) : Int) h') :
    ∀ (k j ca : Nat) (zs : List Nat) (h : Hp), j + k = ys.length → ca < 4294967296 → zs.length = n → BlkE eU32 h q zs → Keep h0 h → (∀ t, i + ys.length ≤ t → zs.getD t 0 = 0) →
      D.val zs + (x * D.val (ys.drop j) + ca) * 2 ^ (32 * (i + j)) + D.val (xs.drop (i + 1)) * D.val ys * 2 ^ (32 * (i + 1)) = T →
      gnomonref01_Mul.L10.t R N4 (k + 1) a xs.length c1 b ys.length c2 (some ⟨q, 0, none⟩) n n (i : Int) (ca : Int) (x : Int) (j : Int) h := by
  intro k
  induction k with
  | zero =>
    intro j ca zs h hj hc hz o kp z0 e
    unfold gnomonref01_Mul.L10.t gnomonref01_Mul.D11.t
    refine c_dec (fun hb => absurd hb (by omega)) fun hb => ?_
    have ej : j = ys.length := by omega
    subst ej
    unfold gnomonref01_Mul.D8.t
    refine k_i64 ((i + ys.length : Nat) : Int) (by omega) (by omega) (by omega) ?_
    refine k_u32 ca rfl hc ?_
    refine put32 o kp hq (j := i + ys.length) rfl hz.symm (by omega) rfl hc fun h2 o2 k2 => ?_
    unfold gnomonref01_Mul.D6.t
    refine k_i64 ((i + 1 : Nat) : Int) (by omega) (by omega) (by omega) ?_
    refine g _ _ k2 o2 (by simp [hz]) (fun t ht => ?_) ?_
    · rw [rgetD_set_ne (by omega)]; exact z0 t (by omega)
    · have hs := D.val_set (zs := zs) (j := i + ys.length) (v := ca) (by omega)
      rw [z0 _ (Nat.le_refl _)] at hs
      rw [List.drop_length] at e
      simp only [D.val, Nat.zero_mul, Nat.mul_zero, Nat.zero_add, Nat.add_zero] at hs e
      omega
  | succ k ih =>
    intro j ca zs h hj hc hz o kp z0 e
    have hyn := s.word32 j
    have hzn : zs.getD (i + j) 0 < 4294967296 := getD_ltB (by decide) o.ok _
    have hp := mul_lt32 hx hyn
    unfold gnomonref01_Mul.L10.t gnomonref01_Mul.D11.t
    refine c_dec (fun hb => ?_) fun hb => absurd (by omega) hb
    refine k_i64 ((i + j : Nat) : Int) (by omega) (by omega) (by omega) ?_
    refine at32 (o.rd' (c := n) (by rw [hz]; exact hnn) (by omega)) (j := i + j) rfl hz.symm (by omega) ?_
    refine k_u64 (zs.getD (i + j) 0) rfl (by omega) ?_
    refine at32 (s.keep kp) (j := j) rfl rfl (by omega) ?_
    refine k_u64 (ys.getD j 0) rfl (by omega) ?_
    have ev : x * D.val (ys.drop j) = x * ys.getD j 0 + 4294967296 * (x * D.val (ys.drop (j + 1))) := by
      rw [D.val_getD_drop, Nat.mul_add, Nat.mul_left_comm]
    rw [ev] at e
    have em : (x : Int) * ((ys.getD j 0 : Nat) : Int) = ((x * ys.getD j 0 : Nat) : Int) := (Int.natCast_mul _ _).symm
    rw [em]
    generalize x * ys.getD j 0 = p at *
    refine k_u64 p rfl (by omega) ?_
    refine k_u64 (zs.getD (i + j) 0 + p) (by omega) (by omega) ?_
    refine k_u64 (p + ca + zs.getD (i + j) 0) (by omega) (by omega) ?_
    refine k_i64 ((i + j : Nat) : Int) (by omega) (by omega) (by omega) ?_
    refine and32 rfl (by omega) ?_
    refine k_u32 ((p + ca + zs.getD (i + j) 0) % 4294967296) rfl (by omega) ?_
    refine put32 o kp hq (j := i + j) rfl hz.symm (by omega) rfl (by omega) fun h2 o2 k2 => ?_
    refine shr32 rfl ?_
    refine k_i64 ((j + 1 : Nat) : Int) (by omega) (by omega) (by omega) ?_
    refine ih (j + 1) _ _ _ (by omega) (by omega) (by simp [hz]) o2 k2 (fun t ht => ?_) ?_
    · rw [rgetD_set_ne (by omega)]; exact z0 t ht
    · have hs := D.val_set (zs := zs) (j := i + j) (v := (p + ca + zs.getD (i + j) 0) % 4294967296) (by omega)
      have := step_up (B := 4294967296) (p := p) (c := ca) (r := x * D.val (ys.drop (j + 1))) (z' := (p + ca + zs.getD (i + j) 0) % 4294967296) (c' := (p + ca + zs.getD (i + j) 0) / 4294967296) (by omega) hs
      rw [show i + (j + 1) = i + j + 1 by omega, D.pow_step (i + j), this]; exact e
theorem rMul_outer {R : Rt} {a b : Option Addr} {c1 c2 n q T : Nat} {xs ys : List Nat} {h0 : Hp}
    (r : RdE eU32 h0 a c1 xs) (s : RdE eU32 h0 b c2 ys) (hn : n = xs.length + ys.length) (hq : h0.size ≤ q) (hnn : n ≤ 70368744177656) (post : ∀ v h', Keep h0 h' → sD h0 h' v T → R v h') :
    ∀ (k i : Nat) (zs : List Nat) (h : Hp), i + k = xs.length → zs.length = n → BlkE eU32 h q zs → Keep h0 h → (∀ t, i + ys.length ≤ t → zs.getD t 0 = 0) → D.val zs + D.val (xs.drop i) * D.val ys * 2 ^ (32 * i) = T →
      gnomonref01_Mul.L4.t R (k + 1) a xs.length c1 b ys.length c2 (some ⟨q, 0, none⟩) n n (i : Int) h := by
  intro k
  induction k with
  | zero =>
    intro i zs h hi hz o kp z0 e
    unfold gnomonref01_Mul.L4.t gnomonref01_Mul.D5.t
    refine c_dec (fun hb => absurd hb (by omega)) fun hb => ?_
    unfold gnomonref01_Mul.D2.t
    refine rNorm_tail (o.got' hq (by rw [hz]; exact hnn) hz.symm) hz.symm ?_ kp post
    rw [List.drop_of_length_le (by omega)] at e
    simpa [D.val] using e
  | succ k ih =>
    intro i zs h hi hz o kp z0 e
    have hxn := r.word32 i
    unfold gnomonref01_Mul.L4.t gnomonref01_Mul.D5.t
    refine c_dec (fun hb => ?_) fun hb => absurd (by omega) hb
    unfold gnomonref01_Mul.D7.t
    refine at32 (r.keep kp) (j := i) rfl rfl (by omega) ?_
    refine k_u64 (xs.getD i 0) rfl (by omega) ?_
    unfold gnomonref01_Mul.D9.t
    refine ⟨ys.length + 1, ?_⟩
    refine rMul_inner (T := T) (x := xs.getD i 0) s (by omega) hxn hn hq hnn (fun h' zs' k' o' hz' z0' e' => ?_) ys.length 0 0 zs h (by omega) (by omega) hz o kp z0 ?_
    · exact ih (i + 1) zs' h' (by omega) hz' o' k' z0' e'
    · rw [D.val_getD_drop] at e
      rw [← e, D.pow_step, List.drop_zero, Nat.add_zero, Nat.add_zero, Nat.add_mul, Nat.add_mul]
      have e2 : D.val (xs.drop (i + 1)) * D.val ys * (4294967296 * 2 ^ (32 * i)) = 4294967296 * D.val (xs.drop (i + 1)) * D.val ys * 2 ^ (32 * i) := by
        rw [Nat.mul_left_comm, Nat.mul_assoc 4294967296, Nat.mul_assoc 4294967296]
      rw [e2]; omega
theorem D.getD_replicate (n t : Nat) : (List.replicate n 0).getD t 0 = 0 := by
  simp only [List.getD, List.getElem?_replicate]; split <;> rfl
theorem rMul_spec {a b : Option Addr} {c d l n X Y : Nat} {h : Hp} (r : RdE eU32 h a c (D.digs X)) (s : RdE eU32 h b d (D.digs Y)) (hl : l = (D.digs X).length) (hm : n = (D.digs Y).length) (hx : (D.digs X).length ≤ 1099511627776) (hy : (D.digs Y).length ≤ 1099511627776) :
    HC gnomonref01_Mul.id #[.slice a l c, .slice b n d] h fun v h' => Keep h h' ∧ sD h h' v (X * Y) := by
  subst hl; subst hm
  refine gnomonref01_Mul.ok ?_
  unfold gnomonref01_Mul.t gnomonref01_Mul.D1.t
  refine k_i64 (((D.digs X).length + (D.digs Y).length : Nat) : Int) (by omega) (by omega) (by omega) ?_
  refine mkE eU32 0 ((D.digs X).length + (D.digs Y).length) ((D.digs X).length + (D.digs Y).length) rfl ok32 4 rfl (by decide) rfl rfl (by omega) (by omega) fun h2 o k => ?_
  unfold gnomonref01_Mul.D3.t
  refine ⟨(D.digs X).length + 1, ?_⟩
  rw [Int.toNat_natCast]
  refine rMul_outer (T := X * Y) r s rfl (Nat.le_refl _) (by omega) (fun v h' k s => ⟨k, s⟩) _ 0 _ h2 (by omega) (by simp) o k (fun t _ => D.getD_replicate _ _) ?_
  rw [D.val_replicate, List.drop_zero, D.val_digs, D.val_digs]; simp
/-! ### DivSmall -/
theorem rDivSmall_walk {R : Rt} {a : Option Addr} {c w q : Nat} {xs : List Nat} {h0 : Hp} (r : RdE eU32 h0 a c xs) (hq : h0.size ≤ q) (hw : w < 4294967296) (hw0 : 0 < w)
    (post : ∀ v h', Keep h0 h' → (∃ a' c', v = .tuple #[.slice a' (D.digs (D.val xs / w)).length c', .int .u32 ((D.val xs % w : Nat) : Int)] ∧ GotE eU32 h0 h' a' c' (D.digs (D.val xs / w))) → R v h') :
    ∀ (n le : Nat) (zs : List Nat) (h : Hp), n ≤ xs.length → zs.length = xs.length → le < w → BlkE eU32 h q zs → Keep h0 h → D.val (zs.drop n) * w + le = D.val (xs.drop n) →
      gnomonref01_DivSmall.L4.t R (n + 1) a xs.length c (w : Int) (some ⟨q, 0, none⟩) xs.length xs.length (le : Int) ((n : Int) - 1) h := by
  have h1 := r.len32
  intro n
  induction n with
  | zero =>
    intro le zs h hn hz hc o kp e
    unfold gnomonref01_DivSmall.L4.t gnomonref01_DivSmall.D5.t
    refine c_dec (fun hb => absurd hb (by omega)) fun _ => ?_
    unfold gnomonref01_DivSmall.D2.t
    rw [List.drop_zero, List.drop_zero] at e
    have hd : D.val zs = D.val xs / w ∧ le = D.val xs % w := by
      rw [← e, Nat.mul_comm, Nat.mul_add_div hw0, Nat.div_eq_of_lt hc, Nat.mul_add_mod, Nat.mod_eq_of_lt hc]; simp
    refine hc_intro (rNorm_spec (o.rd' (c := xs.length) (by rw [hz]; exact h1) (by omega)) hz.symm) fun v h' ⟨k2, s⟩ => ?_
    refine s.elim fun a2 c2 g2 => ?_
    refine k_u32 le rfl (by omega) ?_
    rw [hd.1] at g2 ⊢
    rw [hd.2]
    exact post _ _ (kp.trans k2) ⟨_, _, rfl, g2.from kp.le⟩
  | succ n ih =>
    intro le zs h hn hz hc o kp e
    have hxn := r.word32 n
    unfold gnomonref01_DivSmall.L4.t gnomonref01_DivSmall.D5.t
    refine c_dec (fun hb => ?_) fun hb => absurd (by omega) hb
    refine shl32 rfl (by omega) ?_
    refine at32 (r.keep kp) (j := n) (by omega) rfl (by omega) ?_
    refine k_u64 (xs.getD n 0) rfl (by omega) ?_
    refine k_u64 (le * 4294967296 + xs.getD n 0) (by omega) (by omega) ?_
    refine k_u64 w rfl (by omega) ?_
    have hwne : (w : Int) ≠ 0 := by omega
    refine ⟨hwne, ?_⟩
    have hq1 : (le * 4294967296 + xs.getD n 0) / w < 4294967296 := by
      rw [Nat.div_lt_iff_lt_mul hw0]
      have : le * 4294967296 + 4294967296 ≤ w * 4294967296 := by omega
      rw [Nat.mul_comm 4294967296]; omega
    have eD := Nat.div_add_mod (le * 4294967296 + xs.getD n 0) w
    have lD := Nat.mod_lt (le * 4294967296 + xs.getD n 0) hw0
    rw [tdiv_nat]
    refine k_u64 ((le * 4294967296 + xs.getD n 0) / w) rfl (by omega) ?_
    refine k_u32 ((le * 4294967296 + xs.getD n 0) / w) rfl hq1 ?_
    refine put32 o kp hq (j := n) (by omega) hz.symm (by omega) rfl hq1 fun h2 o2 k2 => ?_
    refine k_u64 w rfl (by omega) ?_
    refine ⟨hwne, ?_⟩
    rw [tmod_nat]
    refine letK_intro rfl ?_
    refine k_i64 ((n : Int) - 1) (by omega) (by omega) (by omega) ?_
    refine ih _ _ _ (by omega) (by simp [hz]) lD o2 k2 ?_
    have ed : (zs.set n ((le * 4294967296 + xs.getD n 0) / w)).drop n = (le * 4294967296 + xs.getD n 0) / w :: zs.drop (n + 1) := by
      rw [drop_getD (by simp; omega), List.drop_set_of_lt (by omega)]
      simp [List.getD, show n < zs.length by omega]
    rw [ed, drop_getD (xs := xs) (by omega)]
    simp only [D.val]
    rw [Nat.add_mul, Nat.mul_assoc, Nat.mul_comm _ w]
    generalize w * ((le * 4294967296 + xs.getD n 0) / w) = A at *
    generalize (le * 4294967296 + xs.getD n 0) % w = B at *
    generalize D.val (zs.drop (n + 1)) * w = C at *
    omega
theorem rDivSmall_spec {a : Option Addr} {c l w : Nat} {xs : List Nat} {h : Hp} (r : RdE eU32 h a c xs) (hl : l = xs.length) {x : Int} (hx : x = (w : Int)) (hw : w < 4294967296) (hw0 : 0 < w) :
    HC gnomonref01_DivSmall.id #[.slice a l c, .int .u32 x] h fun v h' => Keep h h' ∧ ∃ a' c', v = .tuple #[.slice a' (D.digs (D.val xs / w)).length c', .int .u32 ((D.val xs % w : Nat) : Int)] ∧ GotE eU32 h h' a' c' (D.digs (D.val xs / w)) := by
  subst hl; subst hx
  have h1 := r.len32
  refine gnomonref01_DivSmall.ok ?_
  unfold gnomonref01_DivSmall.t gnomonref01_DivSmall.D1.t
  refine c_eq (fun h0 => absurd h0 (by omega)) fun _ => ?_
  refine mkE eU32 0 xs.length xs.length rfl ok32 4 rfl (by decide) rfl rfl (by omega) (by omega) fun h2 o k => ?_
  unfold gnomonref01_DivSmall.D3.t
  refine k_i64 ((xs.length : Int) - 1) rfl (by omega) (by omega) ?_
  refine ⟨xs.length + 1, ?_⟩
  rw [Int.toNat_natCast]
  refine rDivSmall_walk r (Nat.le_refl _) hw hw0 (fun v h' k s => ⟨k, s⟩) xs.length 0 _ h2 (Nat.le_refl _) (by simp) hw0 o k ?_
  rw [List.drop_length, List.drop_of_length_le (by simp)]; simp [D.val]
/-! ### Shr, Low -/
theorem pow_lt32 {k : Nat} (hk : k < 32) : 2 ^ k < 4294967296 := Nat.pow_lt_pow_right (a := 2) (by decide) hk
theorem one_shl {k : Nat} (hk : k < 32) {x : Int} (hx : x = (k : Int)) {K : Int → Prop} (g : K ((2 ^ k : Nat) : Int)) : 0 ≤ x ∧ letK (shlI .u32 1 x) K := by
  subst hx
  refine ⟨by omega, ⟨?_⟩⟩
  show K (IntKind.u32.wrap (1 * 2 ^ (min (k : Int).toNat 32)))
  have e : min (k : Int).toNat 32 = k := by omega
  have hp : 2 ^ k < 4294967296 := Nat.pow_lt_pow_right (a := 2) (by decide) hk
  have e3 : (1 : Int) * 2 ^ k = ((2 ^ k : Nat) : Int) := by rw [Int.natCast_pow, Int.one_mul]; rfl
  rw [e, e3]
  have : IntKind.u32.wrap ((2 ^ k : Nat) : Int) = ((2 ^ k : Nat) : Int) := by
    simp only [IntKind.wrap, IntKind.bits, IntKind.signed, Bool.false_and, Bool.false_eq_true, if_false]
    generalize 2 ^ k = p at *
    omega
  rw [this]; exact g
theorem div32_i64 {n : Nat} (hn : n < 9223372036854775808) {x : Int} (hx : x = (n : Int)) {K : Int → Prop} (g : K ((n / 32 : Nat) : Int)) : (32 : Int) ≠ 0 ∧ letK (IntKind.i64.wrap (Int.tdiv x 32)) K := by
  subst hx
  refine ⟨by decide, ?_⟩
  have e : Int.tdiv (n : Int) 32 = ((n / 32 : Nat) : Int) := tdiv_nat n 32
  rw [e]; exact k_i64 _ rfl (by omega) (by omega) g
theorem mod32_i64 {n : Nat} {x : Int} (hx : x = (n : Int)) {K : Int → Prop} (g : K ((n % 32 : Nat) : Int)) : (32 : Int) ≠ 0 ∧ letK (Int.tmod x 32) K := by
  subst hx
  refine ⟨by decide, ?_⟩
  have e : Int.tmod (n : Int) 32 = ((n % 32 : Nat) : Int) := tmod_nat n 32
  rw [e]; exact ⟨g⟩
theorem pow_split (n : Nat) : 2 ^ n = 2 ^ (32 * (n / 32)) * 2 ^ (n % 32) := by rw [← Nat.pow_add, Nat.div_add_mod]
theorem rShr_spec {a : Option Addr} {c l X : Nat} {h : Hp} (r : RdE eU32 h a c (D.digs X)) (hl : l = (D.digs X).length) {x : Int} {n : Nat} (hx : x = (n : Int)) (hn : n < 9223372036854775808) :
    HC gnomonref01_Shr.id #[.slice a l c, .int .i64 x] h fun v h' => Keep h h' ∧ sD h h' v (X / 2 ^ n) := by
  subst hl; subst hx
  have hX : D.val (D.digs X) = X := D.val_digs X
  have h1 := r.len32
  refine gnomonref01_Shr.ok ?_
  unfold gnomonref01_Shr.t gnomonref01_Shr.D1.t
  refine c_dec (fun h0 => ?_) fun h0 => ?_
  · have : n = 0 := by omega
    subst this
    refine hc_intro (rNorm_spec r rfl) fun v h' ⟨k2, s⟩ => ?_
    refine s.elim fun a2 c2 g2 => ⟨k2, a2, c2, ?_, ?_⟩
    · rw [hX]; simp
    · rw [hX] at g2; simpa using g2
  · refine div32_i64 hn rfl ?_
    refine c_dec (fun hb => ?_) fun hb => ?_
    · refine hc_intro (rWord_spec (w := 0) rfl (by decide) h) fun v h' ⟨k2, s⟩ => ?_
      refine s.elim fun a2 c2 g2 => ⟨k2, a2, c2, ?_, ?_⟩
      all_goals
        have hlt := D.digs_len.mp (Nat.le_of_eq (rfl : (D.digs X).length = _))
        have hle : 2 ^ (32 * (D.digs X).length) ≤ 2 ^ n := Nat.pow_le_pow_right (by decide) (by omega)
        have e0 : X / 2 ^ n = 0 := Nat.div_eq_of_lt (by omega)
        rw [e0]
      exact g2
    · refine div32_i64 hn rfl ?_
      refine sl_from rfl (by omega) ?_
      have r2 := r.drop (m := c) (n / 32) (by omega) r.cap
      refine mod32_i64 rfl ?_
      refine one_shl (k := n % 32) (by omega) rfl ?_
      have hp : 2 ^ (n % 32) < 4294967296 := pow_lt32 (show n % 32 < 32 by omega)
      refine hc_intro (rDivSmall_spec r2 (by simp) rfl hp (Nat.pow_pos (by decide))) fun v h' ⟨k2, a2, c2, e2, g2⟩ => ?_
      subst e2
      have ev : D.val ((D.digs X).drop (n / 32)) / 2 ^ (n % 32) = X / 2 ^ n := by
        rw [D.val_drop (D.digs_words X), hX, Nat.div_div_eq_div_mul, ← pow_split]
      rw [ev] at g2 ⊢
      refine gTup_intro rfl (uncons_intro (gSlice_intro rfl (uncons_intro (gInt_intro rfl (unnil_intro ?_)))))
      exact ⟨k2, _, _, rfl, g2⟩
theorem D.val_zeros : ∀ (zs : List Nat) (m : Nat), D.val (zs ++ List.replicate m 0) = D.val zs := by
  intro zs m; rw [D.val_append, D.val_replicate]; simp
theorem rLow_spec {a : Option Addr} {c l X : Nat} {h : Hp} (r : RdE eU32 h a c (D.digs X)) (hl : l = (D.digs X).length) {x : Int} {n : Nat} (hx : x = (n : Int)) (hn : n < 9223372036854775808) (hX2 : (D.digs X).length ≤ 1099511627776) :
    HC gnomonref01_Low.id #[.slice a l c, .int .i64 x] h fun v h' => Keep h h' ∧ sD h h' v (X % 2 ^ n) := by
  subst hl; subst hx
  have hX : D.val (D.digs X) = X := D.val_digs X
  have h1 := r.len32
  refine gnomonref01_Low.ok ?_
  unfold gnomonref01_Low.t gnomonref01_Low.D1.t
  refine c_dec (fun h0 => ?_) fun h0 => ?_
  · have : n = 0 := by omega
    subst this
    refine hc_intro (rWord_spec (w := 0) rfl (by decide) h) fun v h' ⟨k2, s⟩ => ?_
    refine s.elim fun a2 c2 g2 => ⟨k2, a2, c2, ?_, ?_⟩
    · simp [Nat.mod_one]
    · simpa [Nat.mod_one] using g2
  · refine div32_i64 hn rfl ?_
    refine c_dec (fun hb => ?_) fun hb => ?_
    · refine hc_intro (rNorm_spec r rfl) fun v h' ⟨k2, s⟩ => ?_
      have hlt := D.digs_len.mp (Nat.le_of_eq (rfl : (D.digs X).length = _))
      have hle : 2 ^ (32 * (D.digs X).length) ≤ 2 ^ n := Nat.pow_le_pow_right (by decide) (by omega)
      have e0 : X % 2 ^ n = X := Nat.mod_eq_of_lt (by omega)
      refine s.elim fun a2 c2 g2 => ⟨k2, a2, c2, ?_, ?_⟩
      · rw [hX, e0]
      · rw [hX] at g2; rw [e0]; exact g2
    · have hmlt : n / 32 < (D.digs X).length := by omega
      refine div32_i64 hn rfl ?_
      refine sl_to rfl (by have := r.cap; omega) ?_
      have r2 := r.take (n / 32)
      have hlen2 : ((D.digs X).take (n / 32)).length = n / 32 := by rw [List.length_take]; omega
      refine hc_intro (rNorm_spec r2 hlen2.symm) fun v h2 ⟨k2, s⟩ => ?_
      refine s.elim fun a2 c2 g2 => ?_
      have hd0 : (D.digs (D.val ((D.digs X).take (n / 32)))).length ≤ n / 32 := by
        rw [D.digs_val r2.ok]
        have := trimL_le ((D.digs X).take (n / 32)); omega
      have hw := r.word32 (n / 32)
      have key : ∀ (k : Nat) (zs : List Nat) (a3 : Option Addr) (c3 : Nat) (h3 : Hp), zs.length + k = n / 32 → D.val zs = D.val ((D.digs X).take (n / 32)) → GotE eU32 h h3 a3 c3 zs → Keep h h3 →
          gnomonref01_Low.L3.t (fun v h' => Keep h h' ∧ sD h h' v (X % 2 ^ n)) (k + 1) a (D.digs X).length c (n : Int) a3 zs.length c3 h3 := by
        intro k
        induction k with
        | zero =>
          intro zs a3 c3 h3 hk ev g3 k3
          unfold gnomonref01_Low.L3.t gnomonref01_Low.D4.t
          refine div32_i64 hn rfl ?_
          refine c_dec (fun hb => absurd hb (by omega)) fun _ => ?_
          unfold gnomonref01_Low.D2.t
          refine div32_i64 hn rfl ?_
          refine at32 (r.keep k3) (j := n / 32) rfl rfl hmlt ?_
          refine mod32_i64 rfl ?_
          refine one_shl (k := n % 32) (by omega) rfl ?_
          have hp0 : 0 < 2 ^ (n % 32) := Nat.pow_pos (by decide)
          refine ⟨by omega, ?_⟩
          rw [tmod_nat]
          refine letK_intro rfl ?_
          have hle : (D.digs X).getD (n / 32) 0 % 2 ^ (n % 32) ≤ (D.digs X).getD (n / 32) 0 := Nat.mod_le _ _
          refine push32 g3 k3 rfl rfl (by omega) (by omega) (by omega) fun a' c' h' g' k' _ => ?_
          refine rNorm_tail (R := fun v h' => Keep h h' ∧ sD h h' v (X % 2 ^ n)) g' (by simp) ?_ k' fun v h' k s => ⟨k, s⟩
          have hz : zs.length = n / 32 := by omega
          rw [D.val_append, hz, ev]
          have hv := D.val_low (D.digs_words X) (m := n / 32) (k := n % 32) hmlt (by omega)
          rw [hX, Nat.div_add_mod, D.val_append, hlen2] at hv
          exact hv
        | succ k ih =>
          intro zs a3 c3 h3 hk ev g3 k3
          unfold gnomonref01_Low.L3.t gnomonref01_Low.D4.t
          refine div32_i64 hn rfl ?_
          refine c_dec (fun _ => ?_) fun hb => absurd (by omega) hb
          refine push32 (n := 0) g3 k3 rfl rfl (by decide) (by omega) (by omega) fun a' c' h' g' k' _ => ?_
          have := ih (zs ++ [0]) a' c' h' (by simp; omega) (by rw [D.val_append, ev]; simp [D.val]) g' k'
          simpa using this
      refine ⟨n / 32 - (D.digs (D.val ((D.digs X).take (n / 32)))).length + 1, ?_⟩
      exact key _ _ a2 c2 h2 (by omega) (by rw [D.val_digs]) g2 k2
end Go.Proofs.YtnbpbojcjihboaaDoor.G
