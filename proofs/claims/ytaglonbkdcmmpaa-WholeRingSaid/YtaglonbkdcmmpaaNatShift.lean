/- What Shl, Shr and Low answer. -/
import Derived.Test.YtaglonbkdcmmpaaNatOps
namespace Go.Proofs.Ytaglonbkdcmmpaa.G
open Go.Gv
set_option maxRecDepth 100000
/-! ### to the left -/
def shlL (p : Nat) : List Nat → Nat → List Nat
  | [], c => [c]
  | x :: xs, c => (x * p % 18446744073709551616 + c) :: shlL p xs (x * p / 18446744073709551616)
theorem shlL_val (p : Nat) : ∀ (xs : List Nat) (c : Nat), val (shlL p xs c) = val xs * p + c
  | [], c => by simp [shlL, val]
  | x :: xs, c => by
    simp only [shlL, val, shlL_val p xs, Nat.add_mul, Nat.mul_assoc]
    generalize x * p = y; generalize val xs * p = z; omega
theorem shl_hi {k x : Nat} (hk : k < 64) : x / 2 / 2 ^ (63 - k) = x * 2 ^ k / 18446744073709551616 := by
  have h : x / 2 / 2 ^ (63 - k) = x / 2 ^ (64 - k) := by
    rw [Nat.div_div_eq_div_mul, ← Nat.pow_succ', show (63 - k).succ = 64 - k by omega]
  rw [h, ← pq hk, Nat.mul_comm x, Nat.mul_div_mul_left _ _ (Nat.pow_pos (by decide))]
theorem shl_or {k x c : Nat} (hk : k < 64) (hc : c < 2 ^ k) : c ||| (x * 2 ^ k % 18446744073709551616) = x * 2 ^ k % 18446744073709551616 + c := by
  have e : x * 2 ^ k % 18446744073709551616 = 2 ^ k * (x % 2 ^ (64 - k)) := by
    rw [← pq hk, Nat.mul_comm x, Nat.mul_mod_mul_left]
  rw [e]; exact or_add hc
theorem shl_hi_lt {k x : Nat} (hx : x < 18446744073709551616) : x * 2 ^ k / 18446744073709551616 < 2 ^ k := by
  rw [Nat.div_lt_iff_lt_mul (by decide), Nat.mul_comm]
  exact Nat.mul_lt_mul_of_pos_left hx (Nat.pow_pos (by decide))
theorem shl_lo_lt {k x c : Nat} (hk : k < 64) (hc : c < 2 ^ k) : x * 2 ^ k % 18446744073709551616 + c < 18446744073709551616 := by
  have e : x * 2 ^ k % 18446744073709551616 = 2 ^ k * (x % 2 ^ (64 - k)) := by
    rw [← pq hk, Nat.mul_comm x, Nat.mul_mod_mul_left]
  have h1 : x % 2 ^ (64 - k) + 1 ≤ 2 ^ (64 - k) := Nat.mod_lt _ (Nat.pow_pos (by decide))
  have h2 := Nat.mul_le_mul_left (2 ^ k) h1
  rw [pq hk, Nat.mul_add, Nat.mul_one] at h2
  omega
theorem Shl_walk {R : Rt} {a : Option Addr} {c l m k z w : Nat} {xs : List Nat} {h0 : Hp} {q : Nat} (r : Rd h0 a c xs) (hl : l = xs.length) (hq : h0.size ≤ q) (hx : xs.length ≤ 8192) (hm : m ≤ 8192) (hk : k < 64) (hz : z = m + xs.length + 1) (hw : w = m + xs.length + 1)
    (fs : List Nat) (g : ∀ v h', Keep h0 h' → Ans h0 h' v (lim (val fs)) → R v h') :
    ∀ (j n : Nat) (zs : List Nat) (h : Hp), n + j = xs.length → zs.length = m + xs.length + 1 → zs.getD (m + n) 0 < 2 ^ k → Own h q zs → Keep h0 h → zs.take (m + n) ++ shlL (2 ^ k) (xs.drop n) (zs.getD (m + n) 0) = fs →
      nat_Shl.L4.t R (j + 1) a l c (m : Int) (k : Int) (some ⟨q, 0, none⟩) z w (l : Int) (n : Int) h := by
  subst hl
  intro j
  induction j with
  | zero =>
    intro n zs h hn hzs hc ho kp e
    unfold nat_Shl.L4.t nat_Shl.D5.t
    refine c_dec (fun hb => absurd hb (by omega)) fun _ => ?_
    have en : n = xs.length := by omega
    subst en
    rw [List.drop_length] at e
    have ez : zs = fs := by
      rw [← e]; show zs = _ ++ [_]
      rw [← take_snoc (by omega), List.take_of_length_le (by omega)]
    subst ez
    unfold nat_Shl.D2.t
    refine hc_intro (told_spec (ho.got' (c := w) hq (by omega)) (by omega)) fun v h' ⟨e1, an⟩ => ?_
    subst e1
    refine an.elimG fun a c r i => ?_
    exact g _ _ kp (Ans.back r i)
  | succ j ih =>
    intro n zs h hn hzs hc ho kp e
    have hxn : xs.getD n 0 < 18446744073709551616 := r.word n
    have hlo := shl_lo_lt (x := xs.getD n 0) hk hc
    have hhi := shl_hi_lt (k := k) hxn
    have hpk : 2 ^ k < 18446744073709551616 := pow_lt64 hk
    have hh := shl_hi (x := xs.getD n 0) hk
    rw [drop_getD (xs := xs) (j := n) (by omega)] at e
    simp only [shlL] at e
    unfold nat_Shl.L4.t nat_Shl.D5.t
    refine c_dec (fun hb => ?_) fun hb => absurd (by omega) hb
    refine k_i64 ((m + n : Nat) : Int) (by omega) (by omega) (by omega) ?_
    refine at_intro (ho.rd (c := w) (by omega)) (j := m + n) rfl (by omega) (by omega) ?_
    refine at_intro (r.keep kp) (j := n) rfl rfl (by omega) ?_
    refine shl_k rfl k _ (by omega) rfl rfl ?_
    refine or_k rfl rfl (by omega) (Nat.mod_lt _ (by decide)) ?_
    rw [shl_or hk hc]
    refine put_intro ho (j := m + n) rfl (by omega) (by omega) rfl hlo fun o => ?_
    have kp1 := kp.set (v := wv (xs.getD n 0 * 2 ^ k % 18446744073709551616 + zs.getD (m + n) 0)) (i := m + n) hq
    refine k_i64 ((m + n : Nat) : Int) (by omega) (by omega) (by omega) ?_
    refine k_i64 ((m + n + 1 : Nat) : Int) (by omega) (by omega) (by omega) ?_
    refine at_intro (r.keep kp1) (j := n) rfl rfl (by omega) ?_
    refine shr_k' rfl 1 2 (by omega) (by decide) (by omega) ?_
    refine k_i64 ((63 - k : Nat) : Int) (by omega) (by omega) (by omega) ?_
    refine shr_k' rfl (63 - k) _ (by omega) rfl rfl ?_
    rw [hh]
    refine put_intro o (j := m + n + 1) rfl (by rw [List.length_set]; omega) (by rw [List.length_set]; omega) rfl (by omega) fun o2 => ?_
    refine k_i64 ((n + 1 : Nat) : Int) (by omega) (by omega) (by omega) ?_
    have eg : ((zs.set (m + n) (xs.getD n 0 * 2 ^ k % 18446744073709551616 + zs.getD (m + n) 0)).set (m + n + 1) (xs.getD n 0 * 2 ^ k / 18446744073709551616)).getD (m + (n + 1)) 0 = xs.getD n 0 * 2 ^ k / 18446744073709551616 := by
      rw [← Nat.add_assoc]; simp [List.getD, show m + n + 1 < zs.length by omega]
    refine ih (n + 1) _ _ (by omega) (by simp; omega) (by rw [eg]; exact hhi) o2 (kp1.set hq) ?_
    rw [eg, ← e, ← Nat.add_assoc, List.take_set_of_le (Nat.le_refl _), take_set_succ (by omega)]
    simp
/-- a * 2^n; errors as the code gives them. -/
def shlS (xs : List Nat) (n : Int) : List Nat × Int := if n < 0 then ([], 1) else if Frm xs then lim (val xs * 2 ^ n.toNat) else ([], 2)
theorem Shl_spec {a : Option Addr} {c l : Nat} {xs : List Nat} {h : Hp} (r : Rd h a c xs) (hl : l = xs.length) {n : Int} (hn : n < 9223372036854775808) :
    HC nat_Shl.id #[.slice a l c, .int .i64 n] h fun v h' => Keep h h' ∧ Ans h h' v (shlS xs n) := by
  refine nat_Shl.ok ?_
  unfold nat_Shl.t nat_Shl.D1.t
  refine c_dec (fun hb => ⟨Keep.refl _, ?_⟩) fun hb => ?_
  · unfold shlS; rw [if_pos hb]; exact Ans.none
  unfold shlS; rw [if_neg hb]
  obtain ⟨N, rfl⟩ : ∃ N : Nat, n = (N : Int) := ⟨n.toNat, by omega⟩
  rw [Int.toNat_natCast]
  refine hc_intro (Form_spec r hl) fun v h' ⟨e1, e2⟩ => ?_
  subst e1; subst e2; subst hl
  refine gBool_intro rfl ?_
  refine c_not (fun hf => ⟨Keep.refl _, ?_⟩) fun hf => ?_
  · rw [if_neg (of_decide_eq_false hf)]; exact Ans.none
  have f := of_decide_eq_true hf
  rw [if_pos f]
  have hf1 := f.1
  refine c_eq (fun h0 => ⟨Keep.refl _, ?_⟩) fun h0 => ?_
  · have e : xs = [] := List.length_eq_zero_iff.mp (by omega)
    subst e
    have e : lim (val [] * 2 ^ N) = ([], 0) := by simp [val, lim, digs_zero]
    rw [e]; exact Ans.none
  refine hc_intro (Bits_spec r rfl) fun v h' ⟨e1, e2⟩ => ?_
  subst e1; subst e2
  refine gInt_intro rfl ?_
  have hv : val xs ≠ 0 := fun e => by
    have := trimL_nil_iff.mpr e
    rw [f.2] at this; subst this; simp at h0
  have hbl : blen (val xs) ≤ 524288 := by
    rw [lim_blen, f.digs r.words]; exact hf1
  refine k_i64 (524288 - (blen (val xs) : Int)) rfl (by omega) (by omega) ?_
  refine c_dec (fun hbig => ⟨Keep.refl _, ?_⟩) fun hfit => ?_
  · rw [lim_big (by rw [blen_mul N hv]; omega)]; exact Ans.none
  have hbp := blen_pos hv
  refine ⟨by decide, k_i64 ((N / 64 : Nat) : Int) (tdiv_nat N 64) (by omega) (by omega) ?_⟩
  refine ⟨by decide, letK_intro (tmod_nat N 64) ?_⟩
  refine k_i64 ((N / 64 + xs.length : Nat) : Int) (by omega) (by omega) (by omega) ?_
  refine k_i64 ((N / 64 + xs.length + 1 : Nat) : Int) (by omega) (by omega) (by omega) ?_
  refine mk_intro (N / 64 + xs.length + 1) rfl rfl rfl rfl (by omega) fun h1 o k => ?_
  unfold nat_Shl.D3.t
  refine ⟨xs.length + 1, ?_⟩
  have hg : (List.replicate (N / 64 + xs.length + 1) 0).getD (N / 64 + 0) 0 = 0 := by
    simp only [List.getD, List.getElem?_replicate]; split <;> rfl
  refine Shl_walk r rfl (Nat.le_refl _) hf1 (by omega) (Nat.mod_lt _ (by decide)) rfl rfl (List.replicate (N / 64) 0 ++ shlL (2 ^ (N % 64)) xs 0) ?_ xs.length 0 _ h1 (by omega) (by simp) (by rw [hg]; exact Nat.pow_pos (by decide)) o k ?_
  · have e : val (List.replicate (N / 64) 0 ++ shlL (2 ^ (N % 64)) xs 0) = val xs * 2 ^ N := by
      have hz : ∀ m, val (List.replicate m 0) = 0 := by
        intro m; induction m with
        | zero => rfl
        | succ m ih => rw [List.replicate_succ]; simp [val, ih]
      rw [val_append, hz, shlL_val, List.length_replicate, Nat.zero_add, Nat.add_zero, Nat.mul_comm, Nat.mul_assoc, ← Nat.pow_add, show N % 64 + 64 * (N / 64) = N by omega]
    rw [e]; exact fun v h' k an => ⟨k, an⟩
  · rw [hg]; simp [List.take_replicate, show min (N / 64) (N / 64 + xs.length + 1) = N / 64 by omega]
/-! ### to the right -/
def shrL (p q : Nat) : List Nat → List Nat
  | [] => []
  | x :: xs => (x / p + xs.headD 0 * q % 18446744073709551616) :: shrL p q xs
theorem shrL_length (p q : Nat) : ∀ xs : List Nat, (shrL p q xs).length = xs.length
  | [] => rfl
  | x :: xs => by simp [shrL, shrL_length p q xs]
theorem shrL_val {p q : Nat} (h : p * q = 18446744073709551616) (hp : 0 < p) (hq : 0 < q) : ∀ xs : List Nat, val (shrL p q xs) = val xs / p
  | [] => by simp [shrL, val]
  | x :: xs => by
    simp only [shrL, val, shrL_val h hp hq xs]
    have e1 : (x + 18446744073709551616 * val xs) / p = x / p + q * val xs := by
      rw [← h, Nat.mul_assoc, Nat.add_mul_div_left _ _ hp]
    rw [e1]
    have ev := val_head_tail xs
    generalize xs.headD 0 = u at *
    generalize val xs.tail = t at *
    have e2 : val xs / p = u / p + q * t := by
      rw [ev, ← h, Nat.mul_assoc, Nat.add_mul_div_left _ _ hp]
    have e3 : u * q / 18446744073709551616 = u / p := by rw [← h, Nat.mul_div_mul_right _ _ hq]
    have e4 : q * (u + 18446744073709551616 * t) = u * q + 18446744073709551616 * (q * t) := by rw [Nat.mul_add, Nat.mul_left_comm q, Nat.mul_comm q u]
    rw [e2, ev, ← e3, e4]
    generalize u * q = z; generalize q * t = y; omega
theorem shr_or {k x y : Nat} (hk : k < 64) (hx : x < 18446744073709551616) : (x / 2 ^ k) ||| (y * 2 % 18446744073709551616 * 2 ^ (63 - k) % 18446744073709551616) = x / 2 ^ k + y * 2 ^ (64 - k) % 18446744073709551616 := by
  have e1 : y * 2 % 18446744073709551616 * 2 ^ (63 - k) % 18446744073709551616 = y * 2 ^ (64 - k) % 18446744073709551616 := by
    rw [Nat.mod_mul_mod, Nat.mul_assoc, ← Nat.pow_succ', show (63 - k).succ = 64 - k by omega]
  have e2 : y * 2 ^ (64 - k) % 18446744073709551616 = 2 ^ (64 - k) * (y % 2 ^ k) := by
    rw [← pq hk, Nat.mul_comm y, Nat.mul_comm (2 ^ k), Nat.mul_mod_mul_left]
  have hlt : x / 2 ^ k < 2 ^ (64 - k) := by
    rw [Nat.div_lt_iff_lt_mul (Nat.pow_pos (by decide)), Nat.mul_comm, pq hk]; exact hx
  rw [e1, e2, or_add hlt, Nat.add_comm]
theorem shr_lt {k x y : Nat} (hk : k < 64) (hx : x < 18446744073709551616) : x / 2 ^ k + y * 2 ^ (64 - k) % 18446744073709551616 < 18446744073709551616 := by
  have e2 : y * 2 ^ (64 - k) % 18446744073709551616 = 2 ^ (64 - k) * (y % 2 ^ k) := by
    rw [← pq hk, Nat.mul_comm y, Nat.mul_comm (2 ^ k), Nat.mul_mod_mul_left]
  have hlt : x / 2 ^ k < 2 ^ (64 - k) := by
    rw [Nat.div_lt_iff_lt_mul (Nat.pow_pos (by decide)), Nat.mul_comm, pq hk]; exact hx
  have h1 : y % 2 ^ k + 1 ≤ 2 ^ k := Nat.mod_lt _ (Nat.pow_pos (by decide))
  have h2 := Nat.mul_le_mul_left (2 ^ (64 - k)) h1
  rw [Nat.mul_comm (2 ^ (64 - k)) (2 ^ k), pq hk, Nat.mul_add, Nat.mul_one] at h2
  omega
theorem Shr_walk {R : Rt} {a : Option Addr} {c l m k z w : Nat} {xs : List Nat} {h0 : Hp} {q : Nat} (r : Rd h0 a c xs) (hl : l = xs.length) (hq : h0.size ≤ q) (hx : xs.length ≤ 8192) (hk : k < 64) (hm : m < xs.length) (hz : z = xs.length - m) (hw : w = xs.length - m)
    (fs : List Nat) (g : ∀ v h', Keep h0 h' → Ans h0 h' v (lim (val fs)) → R v h') :
    ∀ (j n : Nat) (zs : List Nat) (h : Hp), m + n + j = xs.length → zs.length = xs.length - m → Own h q zs → Keep h0 h → zs.take n ++ shrL (2 ^ k) (2 ^ (64 - k)) (xs.drop (m + n)) = fs →
      nat_Shr.L4.t R (j + 1) a l c (m : Int) (k : Int) (some ⟨q, 0, none⟩) z w (z : Int) (n : Int) h := by
  subst hl
  intro j
  induction j with
  | zero =>
    intro n zs h hn hzs ho kp e
    unfold nat_Shr.L4.t nat_Shr.D5.t
    refine c_dec (fun hb => absurd hb (by omega)) fun _ => ?_
    rw [List.drop_of_length_le (by omega)] at e
    have ez : zs = fs := by
      rw [← e]; simp only [shrL, List.append_nil]
      rw [List.take_of_length_le (by omega)]
    subst ez
    unfold nat_Shr.D2.t
    refine hc_intro (told_spec (ho.got' (c := w) hq (by omega)) (by omega)) fun v h' ⟨e1, an⟩ => ?_
    subst e1
    refine an.elimG fun a c r i => ?_
    exact g _ _ kp (Ans.back r i)
  | succ j ih =>
    intro n zs h hn hzs ho kp e
    have hxn : xs.getD (m + n) 0 < 18446744073709551616 := r.word _
    have hyn : xs.getD (m + n + 1) 0 < 18446744073709551616 := r.word _
    have hlt := shr_lt (k := k) (y := xs.getD (m + n + 1) 0) hk hxn
    have hdl : xs.getD (m + n) 0 / 2 ^ k ≤ xs.getD (m + n) 0 := Nat.div_le_self _ _
    rw [drop_getD (xs := xs) (j := m + n) (by omega)] at e
    simp only [shrL, headD_drop] at e
    unfold nat_Shr.L4.t nat_Shr.D5.t
    refine c_dec (fun hb => ?_) fun hb => absurd (by omega) hb
    refine k_i64 ((m + n : Nat) : Int) (by omega) (by omega) (by omega) ?_
    refine at_intro (r.keep kp) (j := m + n) rfl rfl (by omega) ?_
    refine shr_k' rfl k _ (by omega) rfl rfl ?_
    refine put_intro ho (j := n) rfl (by omega) (by omega) rfl (by omega) fun o => ?_
    have kp1 := kp.set (v := wv (xs.getD (m + n) 0 / 2 ^ k)) (i := n) hq
    refine k_i64 ((m + n : Nat) : Int) (by omega) (by omega) (by omega) ?_
    refine k_i64 ((m + n + 1 : Nat) : Int) (by omega) (by omega) (by omega) ?_
    refine c_dec (fun hb2 => ?_) fun hb2 => ?_
    · refine at_intro (o.rd (c := w) (by rw [List.length_set]; omega)) (j := n) rfl (by rw [List.length_set]; omega) (by rw [List.length_set]; omega) ?_
      have eg : (zs.set n (xs.getD (m + n) 0 / 2 ^ k)).getD n 0 = xs.getD (m + n) 0 / 2 ^ k := by
        simp [List.getD, show n < zs.length by omega]
      rw [eg]
      refine k_i64 ((m + n : Nat) : Int) (by omega) (by omega) (by omega) ?_
      refine k_i64 ((m + n + 1 : Nat) : Int) (by omega) (by omega) (by omega) ?_
      refine at_intro (r.keep kp1) (j := m + n + 1) rfl rfl (by omega) ?_
      refine shl_k rfl 1 2 (by omega) (by decide) (by omega) ?_
      refine k_i64 ((63 - k : Nat) : Int) (by omega) (by omega) (by omega) ?_
      refine shl_k rfl (63 - k) _ (by omega) rfl rfl ?_
      refine or_k rfl rfl (by omega) (Nat.mod_lt _ (by decide)) ?_
      rw [shr_or hk hxn]
      refine put_intro o (j := n) rfl (by rw [List.length_set]; omega) (by rw [List.length_set]; omega) rfl hlt fun o2 => ?_
      refine k_i64 ((n + 1 : Nat) : Int) (by omega) (by omega) (by omega) ?_
      refine ih (n + 1) _ _ (by omega) (by simp; omega) o2 (kp1.set hq) ?_
      rw [← e, List.set_set, take_set_succ (by omega)]
      simp [Nat.add_assoc]
    · refine k_i64 ((n + 1 : Nat) : Int) (by omega) (by omega) (by omega) ?_
      refine ih (n + 1) _ _ (by omega) (by simp; omega) o kp1 ?_
      have hy0 : xs.getD (m + n + 1) 0 = 0 := by simp [List.getD, show xs.length ≤ m + n + 1 by omega]
      rw [hy0] at e
      rw [← e, take_set_succ (by omega)]
      simp [Nat.add_assoc]
/-- a / 2^n. -/
def shrS (xs : List Nat) (n : Int) : List Nat × Int := if n < 0 then ([], 1) else if Frm xs then lim (val xs / 2 ^ n.toNat) else ([], 2)
theorem Shr_spec {a : Option Addr} {c l : Nat} {xs : List Nat} {h : Hp} (r : Rd h a c xs) (hl : l = xs.length) {n : Int} (hn : n < 9223372036854775808) :
    HC nat_Shr.id #[.slice a l c, .int .i64 n] h fun v h' => Keep h h' ∧ Ans h h' v (shrS xs n) := by
  refine nat_Shr.ok ?_
  unfold nat_Shr.t nat_Shr.D1.t
  refine c_dec (fun hb => ⟨Keep.refl _, ?_⟩) fun hb => ?_
  · unfold shrS; rw [if_pos hb]; exact Ans.none
  unfold shrS; rw [if_neg hb]
  obtain ⟨N, rfl⟩ : ∃ N : Nat, n = (N : Int) := ⟨n.toNat, by omega⟩
  rw [Int.toNat_natCast]
  refine hc_intro (Form_spec r hl) fun v h' ⟨e1, e2⟩ => ?_
  subst e1; subst e2; subst hl
  refine gBool_intro rfl ?_
  refine c_not (fun hf => ⟨Keep.refl _, ?_⟩) fun hf => ?_
  · rw [if_neg (of_decide_eq_false hf)]; exact Ans.none
  have f := of_decide_eq_true hf
  rw [if_pos f]
  have hf1 := f.1
  have hN : N = 64 * (N / 64) + N % 64 := by omega
  have ev : val xs / 2 ^ N = val (xs.drop (N / 64)) / 2 ^ (N % 64) := by
    rw [val_drop r.words, Nat.div_div_eq_div_mul, ← Nat.pow_add, ← hN]
  rw [ev]
  refine ⟨by decide, k_i64 ((N / 64 : Nat) : Int) (tdiv_nat N 64) (by omega) (by omega) ?_⟩
  refine ⟨by decide, letK_intro (tmod_nat N 64) ?_⟩
  refine c_dec (fun hge => ⟨Keep.refl _, ?_⟩) fun hlt => ?_
  · rw [List.drop_of_length_le (by omega)]
    have e : lim (val [] / 2 ^ (N % 64)) = ([], 0) := by simp [val, lim, digs_zero]
    rw [e]; exact Ans.none
  · refine k_i64 ((xs.length - N / 64 : Nat) : Int) (by omega) (by omega) (by omega) ?_
    refine mk_intro (xs.length - N / 64) rfl rfl rfl rfl (by omega) fun h1 o k => ?_
    unfold nat_Shr.D3.t
    refine ⟨xs.length - N / 64 + 1, ?_⟩
    refine Shr_walk r rfl (Nat.le_refl _) hf1 (Nat.mod_lt _ (by decide)) (by omega) rfl rfl (shrL (2 ^ (N % 64)) (2 ^ (64 - N % 64)) (xs.drop (N / 64))) ?_ (xs.length - N / 64) 0 _ h1 (by omega) (by simp) o k (by simp)
    rw [shrL_val (pq (Nat.mod_lt _ (by decide))) (Nat.pow_pos (by decide)) (Nat.pow_pos (by decide))]
    exact fun v h' k an => ⟨k, an⟩
/-! ### the lowest bits -/
def lowS (xs : List Nat) (n : Int) : List Nat × Int := if n < 0 then ([], 1) else if Frm xs then lim (val xs % 2 ^ n.toNat) else ([], 2)
theorem Low_spec {a : Option Addr} {c l : Nat} {xs : List Nat} {h : Hp} (r : Rd h a c xs) (hl : l = xs.length) {n : Int} (hn : n < 9223372036854775808) :
    HC nat_Low.id #[.slice a l c, .int .i64 n] h fun v h' => Keep h h' ∧ Ans h h' v (lowS xs n) := by
  refine nat_Low.ok ?_
  unfold nat_Low.t nat_Low.D1.t
  refine c_dec (fun hb => ⟨Keep.refl _, ?_⟩) fun hb => ?_
  · unfold lowS; rw [if_pos hb]; exact Ans.none
  unfold lowS; rw [if_neg hb]
  obtain ⟨N, rfl⟩ : ∃ N : Nat, n = (N : Int) := ⟨n.toNat, by omega⟩
  rw [Int.toNat_natCast]
  refine hc_intro (Form_spec r hl) fun v h' ⟨e1, e2⟩ => ?_
  subst e1; subst e2; subst hl
  refine gBool_intro rfl ?_
  refine c_not (fun hf => ⟨Keep.refl _, ?_⟩) fun hf => ?_
  · rw [if_neg (of_decide_eq_false hf)]; exact Ans.none
  have f := of_decide_eq_true hf
  rw [if_pos f]
  have hf1 := f.1
  have hN : N = 64 * (N / 64) + N % 64 := by omega
  have hk : N % 64 < 64 := Nat.mod_lt _ (by decide)
  refine ⟨by decide, k_i64 ((N / 64 : Nat) : Int) (tdiv_nat N 64) (by omega) (by omega) ?_⟩
  refine ⟨by decide, letK_intro (tmod_nat N 64) ?_⟩
  refine mk_intro xs.length rfl rfl rfl rfl (by omega) fun h1 o k => ?_
  refine cp_intro o (r.keep k) (by simp) rfl (Nat.le_refl _) k fun h2 o2 k2 => ?_
  have e3 : List.take (List.replicate xs.length 0).length xs ++ List.drop xs.length (List.replicate xs.length 0) = xs := by simp
  rw [e3] at o2
  have tail : ∀ {zs : List Nat} {c z : Nat} {h3 : Hp}, GotE eU64 h' h3 (some ⟨h'.size, 0, none⟩) c zs → z = zs.length → Keep h' h3 → val zs = val xs % 2 ^ N → nat_Low.D2.t (fun v h9 => Keep h' h9 ∧ Ans h' h9 v (lim (val xs % 2 ^ N))) (some ⟨h'.size, 0, none⟩) z c h3 := by
    intro zs c z h3 rz hz k3 e
    unfold nat_Low.D2.t
    refine hc_intro (told_spec rz hz) fun v h8 ⟨e1, an⟩ => ?_
    subst e1
    rw [e] at an
    refine an.elimG fun a c r i => ?_
    exact ⟨k3, Ans.back r i⟩
  refine c_dec (fun hlt => ?_) fun hge => ?_
  · refine at_intro (o2.rd (c := xs.length) (by omega)) (j := N / 64) rfl (by omega) (by omega) ?_
    have hp : 2 ^ (N % 64) < 18446744073709551616 := pow_lt64 hk
    have hp0 : 0 < 2 ^ (N % 64) := Nat.pow_pos (by decide)
    refine shl_k (n := 1) rfl (N % 64) _ (by omega) rfl rfl ?_
    rw [Nat.one_mul, Nat.mod_eq_of_lt hp]
    refine k_u64 (2 ^ (N % 64) - 1) (by omega) (by omega) ?_
    refine and_k rfl rfl (r.word _) (by omega) ?_
    rw [Nat.and_two_pow_sub_one_eq_mod]
    have hml : xs.getD (N / 64) 0 % 2 ^ (N % 64) ≤ xs.getD (N / 64) 0 := Nat.mod_le _ _
    have hw := r.word (N / 64)
    refine put_intro o2 (j := N / 64) rfl (by omega) (by omega) rfl (by omega) fun o4 => ?_
    refine k_i64 ((N / 64 + 1 : Nat) : Int) (by omega) (by omega) (by omega) ?_
    refine sl_to rfl (by omega) ?_
    have hr := (o4.got' (h0 := h') (c := xs.length) (Nat.le_refl _) (by simp)).take (N / 64 + 1)
    rw [take_set_succ (by omega)] at hr
    refine tail hr (by simp; omega) (k2.set (Nat.le_refl _)) ?_
    rw [val_low r.words (by omega) hk, ← hN]
  · refine tail (o2.got' (c := xs.length) (Nat.le_refl _) rfl) (by omega) k2 ?_
    have h1 := val_lt r.words
    have h2 : 2 ^ (64 * xs.length) ≤ 2 ^ N := Nat.pow_le_pow_right (by decide) (by omega)
    rw [Nat.mod_eq_of_lt (by omega)]
end Go.Proofs.Ytaglonbkdcmmpaa.G
