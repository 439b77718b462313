/- The law NatmulCasts of the translation answers true. -/
import Derived.Test.YtidpnpcnjfbjfaaMulList
namespace Go.Proofs.Ytidpnpcnjfbjfaa.G
open Go.Gv
set_option maxRecDepth 100000
theorem modstep (T c r P : Nat) : (T % P * c + r) % P = (T * c + r) % P := by
  rw [Nat.add_mod, Nat.mul_mod, Nat.mod_mod, ← Nat.mul_mod, ← Nat.add_mod]
theorem rest_hq {a : Option Addr} {c l : Nat} {xs : List Nat} {h : Hp} (r : Rd h a c xs) (hl : l = xs.length) : HC gnomonlaw02_rest.id #[.slice a l c] h fun v h' => v = .int .u64 ((val xs % 4294967291 : Nat) : Int) ∧ h' = h := by
  subst hl
  have hlen := r.len
  refine gnomonlaw02_rest.ok ?_
  unfold gnomonlaw02_rest.t gnomonlaw02_rest.D1.t gnomonlaw02_rest.D3.t
  refine k_i64 ((xs.length : Int) - 1) rfl (by omega) (by omega) ?_
  refine ⟨xs.length + 1, ?_⟩
  have go : ∀ (k : Nat), k ≤ xs.length → gnomonlaw02_rest.L4.t (fun v h' => v = .int .u64 ((val xs % 4294967291 : Nat) : Int) ∧ h' = h) (k + 1) a xs.length c ((val (xs.drop k) % 4294967291 : Nat) : Int) ((k : Int) - 1) h := by
    intro k
    induction k with
    | zero =>
      intro _
      unfold gnomonlaw02_rest.L4.t gnomonlaw02_rest.D5.t
      refine c_dec (fun hb => absurd hb (by omega)) fun _ => ?_
      exact ⟨by rw [List.drop_zero], rfl⟩
    | succ k ih =>
      intro hk
      unfold gnomonlaw02_rest.L4.t gnomonlaw02_rest.D5.t
      have ek : ((k + 1 : Nat) : Int) - 1 = (k : Int) := by omega
      rw [ek]
      refine c_dec (fun _ => ?_) fun hb => absurd (by omega) hb
      have hx := r.word k
      have hv := val_getD_drop xs k
      generalize val (xs.drop (k + 1)) = V at *
      have hm : V % 4294967291 < 4294967291 := Nat.mod_lt _ (by decide)
      refine shl_k rfl 32 4294967296 (by decide) (by decide) rfl ?_
      refine at_intro r (j := k) rfl rfl (by omega) ?_
      refine shr_k' rfl 32 4294967296 (by decide) (by decide) rfl ?_
      generalize hxe : xs.getD k 0 = x at *
      refine k_u64 (V % 4294967291 * 4294967296 + x / 4294967296) (by omega) (by omega) ?_
      refine ⟨by decide, ?_⟩
      have t1 := tmod_nat (V % 4294967291 * 4294967296 + x / 4294967296) 4294967291
      have t1' : Int.tmod ((V % 4294967291 * 4294967296 + x / 4294967296 : Nat) : Int) 4294967291 = (((V % 4294967291 * 4294967296 + x / 4294967296) % 4294967291 : Nat) : Int) := t1
      rw [t1']
      refine ⟨?_⟩
      generalize hA : (V % 4294967291 * 4294967296 + x / 4294967296) % 4294967291 = A
      have hA2 : A < 4294967291 := by omega
      refine shl_k rfl 32 4294967296 (by decide) (by decide) rfl ?_
      refine at_intro r (j := k) rfl rfl (by omega) ?_
      rw [hxe]
      refine and32 rfl hx ?_
      refine k_u64 (A * 4294967296 + x % 4294967296) (by omega) (by omega) ?_
      refine ⟨by decide, ?_⟩
      have t2 : Int.tmod ((A * 4294967296 + x % 4294967296 : Nat) : Int) 4294967291 = (((A * 4294967296 + x % 4294967296) % 4294967291 : Nat) : Int) := tmod_nat _ 4294967291
      rw [t2]
      refine ⟨?_⟩
      have hfin : (A * 4294967296 + x % 4294967296) % 4294967291 = val (xs.drop k) % 4294967291 := by
        rw [hv, ← hA, modstep, Nat.add_mul, Nat.add_assoc, Nat.mul_assoc, show x / 4294967296 * 4294967296 + x % 4294967296 = x by omega, modstep]
        congr 1; omega
      rw [hfin]
      refine k_i64 ((k : Int) - 1) rfl (by omega) (by omega) ?_
      exact ih (by omega)
  have := go xs.length (Nat.le_refl _)
  rw [List.drop_length] at this
  exact this
theorem rest_intro {a : Option Addr} {c l : Nat} {xs : List Nat} {h : Hp} (r : Rd h a c xs) (hl : l = xs.length) {K : Int → Prop} (g : K ((val xs % 4294967291 : Nat) : Int)) : HQC gnomonlaw02_rest.id #[.slice a l c] h fun v => gInt .u64 v K :=
  ⟨_, rest_hq r hl, gInt_intro rfl g⟩
theorem mulmod_intro {x y : Int} {a b : Nat} (hx : x = ((a % 4294967291 : Nat) : Int)) (hy : y = ((b % 4294967291 : Nat) : Int)) {K : Int → Prop} (g : K ((a * b % 4294967291 : Nat) : Int)) :
    letK (IntKind.u64.wrap (x * y)) fun n => (4294967291 : Int) ≠ 0 ∧ letK (Int.tmod n 4294967291) K := by
  subst hx; subst hy
  have h1 : a % 4294967291 < 4294967291 := Nat.mod_lt _ (by decide)
  have h2 : b % 4294967291 < 4294967291 := Nat.mod_lt _ (by decide)
  have e : a * b % 4294967291 = (a % 4294967291) * (b % 4294967291) % 4294967291 := Nat.mul_mod _ _ _
  rw [e] at g
  generalize a % 4294967291 = A at *
  generalize b % 4294967291 = B at *
  have h3 : A * B ≤ 18446744022169944100 := Nat.mul_le_mul (show A ≤ 4294967290 by omega) (show B ≤ 4294967290 by omega)
  refine k_u64 (A * B) (by rw [Int.natCast_mul]) (by omega) ?_
  refine ⟨by decide, ⟨?_⟩⟩
  have t : Int.tmod ((A * B : Nat) : Int) 4294967291 = ((A * B % 4294967291 : Nat) : Int) := tmod_nat _ 4294967291
  rw [t]; exact g
/-! ### bits of products -/
theorem blen_two {n k : Nat} : blen n = k + 1 ↔ 2 ^ k ≤ n ∧ n < 2 ^ (k + 1) := by
  constructor
  · intro h
    refine ⟨?_, blen_le.mp (by omega)⟩
    rcases Nat.lt_or_ge n (2 ^ k) with hh | hh
    · have := blen_le.mpr hh; omega
    · exact hh
  · intro ⟨h1, h2⟩
    have h3 := blen_le.mpr h2
    rcases Nat.lt_or_ge (blen n) (k + 1) with hh | hh
    · have := blen_le.mp (show blen n ≤ k by omega); omega
    · omega
theorem blen_prod {m n : Nat} (hm : m ≠ 0) (hn : n ≠ 0) : blen m + blen n ≤ blen (m * n) + 1 ∧ blen (m * n) ≤ blen m + blen n := by
  obtain ⟨j, hj⟩ : ∃ j, blen m = j + 1 := ⟨blen m - 1, by have := blen_pos hm; omega⟩
  obtain ⟨k, hk⟩ : ∃ k, blen n = k + 1 := ⟨blen n - 1, by have := blen_pos hn; omega⟩
  obtain ⟨a1, a2⟩ := blen_two.mp hj
  obtain ⟨b1, b2⟩ := blen_two.mp hk
  rw [hj, hk]
  constructor
  · have h1 : 2 ^ j * 2 ^ k ≤ m * n := Nat.mul_le_mul a1 b1
    rw [← Nat.pow_add] at h1
    rcases Nat.lt_or_ge (blen (m * n)) (j + k + 1) with hh | hh
    · have := blen_le.mp (show blen (m * n) ≤ j + k by omega); omega
    · omega
  · have h2 : m * n < 2 ^ (j + 1) * 2 ^ (k + 1) := Nat.mul_lt_mul'' a2 b2
    rw [← Nat.pow_add] at h2
    exact blen_le.mpr h2
def bitsV : List (List Nat) → Nat
  | [] => 0
  | x :: xs => blen (val x) + bitsV xs
theorem bitsV_append (a b : List (List Nat)) : bitsV (a ++ b) = bitsV a + bitsV b := by
  induction a with
  | nil => simp [bitsV]
  | cons x a ih => simp [bitsV, ih, Nat.add_assoc]
theorem bitsV_le {l : List (List Nat)} (h : ∀ x ∈ l, blen (val x) ≤ 524288) : bitsV l ≤ l.length * 524288 := by
  induction l with
  | nil => simp [bitsV]
  | cons x l ih =>
    have h1 := h x (by simp)
    have h2 := ih fun y hy => h y (by simp [hy])
    simp only [bitsV, List.length_cons]; omega
theorem bits_prod {l : List (List Nat)} (h : ∀ x ∈ l, val x ≠ 0) : bitsV l + 1 ≤ blen (prodV l) + l.length ∧ blen (prodV l) ≤ max (bitsV l) 1 := by
  induction l with
  | nil => simp [bitsV, prodV, show blen 1 = 1 by decide]
  | cons x l ih =>
    have hx := h x (by simp)
    have ih := ih fun y hy => h y (by simp [hy])
    have hp : prodV l ≠ 0 := prodV_pos fun y hy => h y (by simp [hy])
    have := blen_prod hx hp
    have hb := blen_pos hx
    simp only [bitsV, prodV, List.length_cons]
    cases l with
    | nil => simp only [prodV, bitsV, Nat.mul_one, List.length_nil] at *; omega
    | cons y l =>
      have hby : 0 < blen (val y) := blen_pos (h y (by simp))
      simp only [bitsV, List.length_cons] at *; omega
theorem pair_le {l : List (List Nat)} (h : ∀ x ∈ l, val x ≠ 0) {i : Nat} {x y : List Nat} (hx : l[i]? = some x) (hy : l[i + 1]? = some y) : val x * val y ≤ prodV l := by
  have e : l = l.take i ++ (x :: y :: l.drop (i + 2)) := by
    have h1 : l.drop i = x :: l.drop (i + 1) := by
      rw [List.drop_eq_getElem_cons (List.getElem?_eq_some_iff.mp hx).1, (List.getElem?_eq_some_iff.mp hx).2]
    have h2 : l.drop (i + 1) = y :: l.drop (i + 2) := by
      rw [List.drop_eq_getElem_cons (List.getElem?_eq_some_iff.mp hy).1, (List.getElem?_eq_some_iff.mp hy).2]
    rw [← h2, ← h1, List.take_append_drop]
  have h1 : prodV (l.take i) ≠ 0 := prodV_pos fun z hz => h z (List.mem_of_mem_take hz)
  have h2 : prodV (l.drop (i + 2)) ≠ 0 := prodV_pos fun z hz => h z (List.mem_of_mem_drop hz)
  have e2 : prodV l = val x * val y * (prodV (l.take i) * prodV (l.drop (i + 2))) := by
    conv => lhs; rw [e]
    rw [prodV_append]; simp only [prodV]
    rw [Nat.mul_comm (prodV (l.take i)), Nat.mul_assoc, Nat.mul_assoc, Nat.mul_assoc, Nat.mul_comm (prodV (l.take i))]
  rw [e2]
  exact Nat.le_mul_of_pos_right _ (Nat.pos_of_ne_zero (Nat.mul_ne_zero h1 h2))
theorem pairs_spec {a : Option Addr} {c l : Nat} {xss : List (List Nat)} {h : Hp} (r : RdLL h a c xss) (hl : l = xss.length) (hf : ∀ x ∈ xss, Frm x) (hv : ∀ x ∈ xss, val x ≠ 0) (hlim : (lim (prodV xss)).2 = 0) :
    HC gnomonlaw02_pairs.id #[.slice a l c] h fun v h' => Keep h h' ∧ v = .bool true := by
  subst hl
  have hlen := r.len
  refine gnomonlaw02_pairs.ok ?_
  unfold gnomonlaw02_pairs.t gnomonlaw02_pairs.D1.t gnomonlaw02_pairs.D3.t
  refine ⟨xss.length + 1, ?_⟩
  have go : ∀ (k i : Nat) (h2 : Hp), i + k = xss.length → Keep h h2 → gnomonlaw02_pairs.L4.t (fun v h' => Keep h h' ∧ v = .bool true) (k + 1) a xss.length c (i : Int) h2 := by
    intro k
    induction k with
    | zero =>
      intro i h2 hik kp
      unfold gnomonlaw02_pairs.L4.t gnomonlaw02_pairs.D5.t
      refine k_i64 ((i + 1 : Nat) : Int) (by omega) (by omega) (by omega) ?_
      refine c_dec (fun hb => absurd hb (by omega)) fun _ => ?_
      exact ⟨kp, rfl⟩
    | succ k ih =>
      intro i h2 hik kp
      unfold gnomonlaw02_pairs.L4.t gnomonlaw02_pairs.D5.t
      refine k_i64 ((i + 1 : Nat) : Int) (by omega) (by omega) (by omega) ?_
      refine c_dec (fun hb => ?_) fun _ => ⟨kp, rfl⟩
      have hx : xss[i]? = some (xss[i]'(by omega)) := by simp
      have hy : xss[i + 1]? = some (xss[i + 1]'(by omega)) := by simp
      generalize (xss[i]'(by omega)) = x at hx
      generalize (xss[i + 1]'(by omega)) = y at hy
      have fx := hf x (List.mem_of_getElem? hx)
      have fy := hf y (List.mem_of_getElem? hy)
      have hp := lim_mono (pair_le hv hx hy) hlim
      refine list_at (r.keep kp) rfl rfl hx fun a1 c1 r1 => ?_
      refine k_i64 ((i + 1 : Nat) : Int) (by omega) (by omega) (by omega) ?_
      refine list_at (r.keep kp) rfl rfl hy fun a2 c2 r2 => ?_
      refine hc_intro (Mul_spec r1 r2 rfl rfl) fun v h3 ⟨k3, an⟩ => ?_
      rw [mulS_form fx fy] at an
      refine an.elim fun a3 c3 r3 => ?_
      refine list_at (r.keep (kp.trans k3)) rfl rfl hx fun a4 c4 r4 => ?_
      refine hc_intro (Sqr_spec r4 rfl) fun v h5 ⟨k5, an⟩ => ?_
      rw [mulS_form fx fx] at an
      refine an.elim fun a5 c5 r5 => ?_
      have r3 := r3.keep k5
      have kp5 := kp.trans (k3.trans k5)
      rw [lim_ok hp] at r3 ⊢
      refine c_ne (fun hh => absurd rfl hh) fun _ => ?_
      refine rest_intro r3 rfl ?_
      rw [val_digs]
      refine list_at (r.keep kp5) rfl rfl hx fun a6 c6 r6 => ?_
      refine rest_intro r6 rfl ?_
      refine k_i64 ((i + 1 : Nat) : Int) (by omega) (by omega) (by omega) ?_
      refine list_at (r.keep kp5) rfl rfl hy fun a7 c7 r7 => ?_
      refine rest_intro r7 rfl ?_
      refine mulmod_intro rfl rfl ?_
      refine c_ne (fun hh => absurd rfl hh) fun _ => ?_
      have next : ∀ n : Int, n = ((i + 1 : Nat) : Int) → gnomonlaw02_pairs.L4.t (fun v h' => Keep h h' ∧ v = .bool true) (k + 1) a xss.length c n h5 := fun n hn => by
        subst hn; exact ih (i + 1) h5 (by omega) kp5
      refine c_eq (fun hs => ?_) fun _ => ?_
      · rw [lim_ok hs] at r5 ⊢
        refine rest_intro r5 rfl ?_
        rw [val_digs]
        refine list_at (r.keep kp5) rfl rfl hx fun a8 c8 r8 => ?_
        refine rest_intro r8 rfl ?_
        refine list_at (r.keep kp5) rfl rfl hx fun a9 c9 r9 => ?_
        refine rest_intro r9 rfl ?_
        refine mulmod_intro rfl rfl ?_
        refine c_ne (fun hh => absurd rfl hh) fun _ => ?_
        refine k_i64 ((i + 1 : Nat) : Int) (by omega) (by omega) (by omega) ?_
        exact next _ rfl
      · refine k_i64 ((i + 1 : Nat) : Int) (by omega) (by omega) (by omega) ?_
        exact next _ rfl
  exact go xss.length 0 h (by omega) (Keep.refl _)
theorem NatmulCasts_law {a0 : Option Addr} {c0 l0 : Nat} {xss : List (List Nat)} {h : Hp} (r0 : RdLL h a0 c0 xss) (hl0 : l0 = xss.length) :
    HC gnomonlaw02_NatmulCasts.id #[.slice a0 l0 c0] h fun v h' => Keep h h' ∧ v = .bool true := by
  subst hl0
  have hlen := r0.len
  refine gnomonlaw02_NatmulCasts.ok ?_
  unfold gnomonlaw02_NatmulCasts.t gnomonlaw02_NatmulCasts.D1.t
  refine hc_intro (lawake_spec _) fun v h1 ⟨k1, e⟩ => ?_
  subst e
  refine gBool_intro rfl ?_
  refine c_not (fun hh => absurd hh (by simp)) fun _ => ?_
  refine hc_intro (llists_spec (r0.keep k1) rfl) fun v h2 ⟨k2, a2, c2, e2, r2⟩ => ?_
  subst e2
  refine gSlice_intro rfl ?_
  refine hc_intro (Product_spec r2 rfl) fun v h3 ⟨k3, an⟩ => ?_
  have k03 := k1.trans (k2.trans k3)
  rcases Classical.em (¬ ∀ x ∈ xss, Frm x) with hf | hf
  · have : prodS xss = ([], 2) := if_neg hf
    rw [this] at an
    refine an.elim fun a3 c3 r3 => ?_
    exact c_ne (fun _ => ⟨k03, rfl⟩) fun hh => absurd hh (by decide)
  have hf := Classical.not_not.mp hf
  have hps : prodS xss = lim (prodV xss) := if_pos hf
  rw [hps] at an
  refine an.elim fun a3 c3 r3 => ?_
  refine c_ne (fun hh => ?_) fun hlim => ?_
  · rw [lim_bad hh]; exact ⟨k03, rfl⟩
  rw [lim_ok hlim] at r3 ⊢
  have hbl : ∀ x ∈ xss, blen (val x) ≤ 524288 := fun x hx => by
    have h1 := (hf x hx).1
    obtain ⟨i, hi⟩ := List.getElem?_of_mem hx
    obtain ⟨p, vs, _, _, _, a', c', _, rd, _⟩ := r0.at_ i x hi
    have := blen_le.mpr (val_lt rd.words)
    omega
  have hbt : ∀ i, i ≤ xss.length → bitsV (xss.take i) ≤ i * 524288 := fun i hi => by
    have := bitsV_le (l := xss.take i) fun x hx => hbl x (List.mem_of_mem_take hx)
    rw [List.length_take, Nat.min_eq_left hi] at this; exact this
  have r0 := r0.keep k03
  unfold gnomonlaw02_NatmulCasts.D9.t
  refine ⟨xss.length + 1, ?_⟩
  -- what stands behind the second walk
  have fin : (∀ x ∈ xss, val x ≠ 0) → gnomonlaw02_NatmulCasts.D3.t (fun v h' => Keep h h' ∧ v = .bool true) a0 xss.length c0 a3 (digs (prodV xss)).length c3 (bitsV xss : Int) (1 + (bitsV xss : Int) - (xss.length : Int)) h3 := by
    intro hv
    obtain ⟨b1, b2⟩ := bits_prod hv
    unfold gnomonlaw02_NatmulCasts.D3.t
    refine hc_intro (Bits_spec r3 rfl) fun v h4 ⟨e4, e5⟩ => ?_
    subst e4; subst e5
    refine gInt_intro rfl ?_
    rw [val_digs]
    refine c_dec (fun _ => ?_) fun hb => absurd (by omega) hb
    refine hc_intro (Bits_spec r3 rfl) fun v h4 ⟨e4, e5⟩ => ?_
    subst e4; subst e5
    refine gInt_intro rfl ?_
    rw [val_digs]
    refine c_dec (fun _ => ?_) fun hb => absurd (by split <;> omega) hb
    refine hc_intro (pairs_spec r0 rfl hf hv hlim) fun v h5 ⟨k5, e5⟩ => ?_
    subst e5
    exact gBool_intro rfl ⟨k03.trans k5, rfl⟩
  have second : ∀ (k i : Nat), i + k = xss.length → (∀ x ∈ xss.take i, val x ≠ 0) →
      gnomonlaw02_NatmulCasts.L5.t (fun v h' => Keep h h' ∧ v = .bool true) (k + 1) a0 xss.length c0 a3 (digs (prodV xss)).length c3 (bitsV xss : Int) (1 + (bitsV xss : Int) - (xss.length : Int)) a0 xss.length c0 (xss.length : Int) (i : Int) h3 := by
    intro k
    induction k with
    | zero =>
      intro i hik hv
      unfold gnomonlaw02_NatmulCasts.L5.t gnomonlaw02_NatmulCasts.D6.t
      refine c_dec (fun hb => absurd hb (by omega)) fun _ => ?_
      have ei : i = xss.length := by omega
      subst ei
      rw [List.take_length] at hv
      exact fin hv
    | succ k ih =>
      intro i hik hv
      unfold gnomonlaw02_NatmulCasts.L5.t gnomonlaw02_NatmulCasts.D6.t
      refine c_dec (fun _ => ?_) fun hb => absurd (by omega) hb
      have hx : xss[i]? = some (xss[i]'(by omega)) := by simp
      have ht : xss.take (i + 1) = xss.take i ++ [xss[i]'(by omega)] := by rw [List.take_add_one, hx]; rfl
      generalize hxe : (xss[i]'(by omega)) = x at hx ht
      have hmem := List.mem_of_getElem? hx
      refine list_at r0 rfl rfl hx fun a' c' rd => ?_
      refine c_eq (fun h0 => ?_) fun h0 => ?_
      · have hxn : x = [] := List.length_eq_zero_iff.mp (by omega)
        subst hxn
        rw [prodV_zero hmem rfl, digs_zero]
        exact ⟨k03, rfl⟩
      · refine k_i64 ((i + 1 : Nat) : Int) (by omega) (by omega) (by omega) ?_
        refine ih (i + 1) (by omega) fun y hy => ?_
        rw [ht] at hy
        rcases List.mem_append.mp hy with h1 | h1
        · exact hv y h1
        · simp at h1
          subst h1
          intro hv0
          have h2 := (hf y hmem).2
          have h3 := trimL_nil_iff.mpr hv0
          rw [h2] at h3
          subst h3
          exact h0 rfl
  have first : ∀ (k i : Nat), i + k = xss.length →
      gnomonlaw02_NatmulCasts.L10.t (fun v h' => Keep h h' ∧ v = .bool true) (k + 1) a0 xss.length c0 a3 (digs (prodV xss)).length c3 ((prodV (xss.take i) % 4294967291 : Nat) : Int) (bitsV (xss.take i) : Int) (1 + (bitsV (xss.take i) : Int) - (i : Int)) a0 xss.length c0 (xss.length : Int) (i : Int) h3 := by
    intro k
    induction k with
    | zero =>
      intro i hik
      unfold gnomonlaw02_NatmulCasts.L10.t gnomonlaw02_NatmulCasts.D11.t
      refine c_dec (fun hb => absurd hb (by omega)) fun _ => ?_
      have ei : i = xss.length := by omega
      subst ei
      rw [List.take_length]
      unfold gnomonlaw02_NatmulCasts.D2.t
      refine rest_intro r3 rfl ?_
      rw [val_digs]
      refine c_ne (fun hh => absurd rfl hh) fun _ => ?_
      unfold gnomonlaw02_NatmulCasts.D4.t
      refine ⟨xss.length + 1, ?_⟩
      exact second xss.length 0 (by omega) (by simp)
    | succ k ih =>
      intro i hik
      unfold gnomonlaw02_NatmulCasts.L10.t gnomonlaw02_NatmulCasts.D11.t
      refine c_dec (fun _ => ?_) fun hb => absurd (by omega) hb
      have hx : xss[i]? = some (xss[i]'(by omega)) := by simp
      have ht : xss.take (i + 1) = xss.take i ++ [xss[i]'(by omega)] := by rw [List.take_add_one, hx]; rfl
      generalize hxe : (xss[i]'(by omega)) = x at hx ht
      have hmem := List.mem_of_getElem? hx
      have hb0 := hbt i (by omega)
      have hb1 := hbl x hmem
      have eb : bitsV (xss.take (i + 1)) = bitsV (xss.take i) + blen (val x) := by rw [ht, bitsV_append]; simp [bitsV]
      have ep : prodV (xss.take (i + 1)) = prodV (xss.take i) * val x := by rw [ht, prodV_append]; simp [prodV]
      have ih := ih (i + 1) (by omega)
      rw [eb, ep] at ih
      generalize bitsV (xss.take i) = B at *
      refine list_at r0 rfl rfl hx fun a' c' rd => ?_
      refine rest_intro rd rfl ?_
      refine mulmod_intro rfl rfl ?_
      refine hc_intro (Bits_spec rd rfl) fun v h4 ⟨e4, e5⟩ => ?_
      subst e4; subst e5
      refine gInt_intro rfl ?_
      refine k_i64 ((blen (val x) : Int) - 1) rfl (by omega) (by omega) ?_
      refine k_i64 (1 + ((B + blen (val x) : Nat) : Int) - ((i + 1 : Nat) : Int)) (by omega) (by omega) (by omega) ?_
      refine hc_intro (Bits_spec rd rfl) fun v h4 ⟨e4, e5⟩ => ?_
      subst e4; subst e5
      refine gInt_intro rfl ?_
      refine k_i64 ((B + blen (val x) : Nat) : Int) (by omega) (by omega) (by omega) ?_
      refine k_i64 ((i + 1 : Nat) : Int) (by omega) (by omega) (by omega) ?_
      exact ih
  exact first xss.length 0 (by omega)
end Go.Proofs.Ytidpnpcnjfbjfaa.G
