/- What next, power and Pow answer. -/
import Derived.Test.YtaglonbkdcmmpaaMulRing
namespace Go.Proofs.Ytaglonbkdcmmpaa.G
open Go.Gv
set_option maxRecDepth 100000
theorem clr_intro {h : Hp} {b l : Nat} {X : List Nat} (o : Own h b X) (hl : l ≤ X.length) {K : Hp → Prop} (g : ∀ h', Own h' b (List.replicate l 0 ++ X.drop l) → KeepB b h h' → K h') : clK h T23 (some ⟨b, 0, none⟩) l K := by
  cases l with
  | zero => exact g h (by simpa using o) (KeepB.refl _ _)
  | succ l =>
    have ez : zerosL T23.zs (l + 1) = (List.replicate (l + 1) 0).map wv := by
      rw [show T23.zs = [wv 0] from rfl, zerosL_one, List.map_replicate]
    refine ⟨?_, ?_⟩
    · refine stL_of fun j hj => ?_
      have hj' : j < (l + 1) * 1 := hj
      rw [Nat.zero_add, base_add]
      exact ⟨⟨_, o.cell (by omega)⟩, o.frozen j⟩
    · rw [ez]
      have := stH_own (h0 := #[]) (vs := List.replicate (l + 1) 0) (i := 0) o (fun x hx => by rw [List.eq_of_mem_replicate hx]; decide) (by simpa using hl) (by simp) ⟨by simp, fun b hb => absurd hb (by simp)⟩
      refine g _ ?_ stH_keepB
      simpa using this.1
/-- A list that fills the beginning of a block of so many cells. -/
def Room (h : Hp) (q room : Nat) (xs : List Nat) : Prop := ∃ rest, Own h q (xs ++ rest) ∧ (xs ++ rest).length = room
theorem Room.keepB {h h' : Hp} {q p room : Nat} {xs : List Nat} (o : Room h p room xs) (hb : p ≠ q) (k : KeepB q h h') : Room h' p room xs := by
  obtain ⟨r, o, e⟩ := o; exact ⟨r, o.keepB hb k, e⟩
theorem Room.nil {h : Hp} {p room : Nat} {xs : List Nat} (o : Room h p room xs) : Room h p room [] := by
  obtain ⟨r, o, e⟩ := o; exact ⟨xs ++ r, o, e⟩
theorem Room.mine {h : Hp} {p room : Nat} {xs : List Nat} (o : Room h p room xs) : Mine h p xs := by
  obtain ⟨r, o, e⟩ := o; exact ⟨r, o⟩
theorem Room.le {h : Hp} {p room : Nat} {xs : List Nat} (o : Room h p room xs) : xs.length ≤ room := by
  obtain ⟨r, o, e⟩ := o; rw [List.length_append] at e; omega
theorem Room.take {h : Hp} {p room : Nat} {xs : List Nat} (o : Room h p room xs) (n : Nat) : Room h p room (xs.take n) := by
  obtain ⟨r, o, e⟩ := o; exact ⟨xs.drop n ++ r, by rw [← List.append_assoc, List.take_append_drop]; exact o, by rw [← List.append_assoc, List.take_append_drop]; exact e⟩
theorem next_spec {a b : Option Addr} {c1 c2 la lb ls q room : Nat} {xs ys : List Nat} {h : Hp} (o : Room h q room []) (r : Rd h a c1 xs) (s : Rd h b c2 ys) (hla : la = xs.length) (hlb : lb = ys.length) (ox : Off q a) (oy : Off q b) (hn : xs.length + ys.length ≤ room) :
    HC natmul_next.id #[.slice (some ⟨q, 0, none⟩) ls room, .slice a la c1, .slice b lb c2] h fun v h' => KeepB q h h' ∧ v = .slice (some ⟨q, 0, none⟩) (digs (val xs * val ys)).length room ∧ Room h' q room (digs (val xs * val ys)) := by
  subst hla; subst hlb
  obtain ⟨X, o, hX⟩ := o
  rw [List.nil_append] at o hX
  have hrl := o.len
  refine natmul_next.ok ?_
  unfold natmul_next.t natmul_next.D1.t
  refine k_i64 ((xs.length + ys.length : Nat) : Int) (by omega) (by omega) (by omega) ?_
  refine sl_to rfl hn ?_
  refine clr_intro o (by omega) fun h1 o1 k1 => ?_
  refine hc_intro (fill_ok _ (Nat.le_refl _) ⟨_, o1⟩ (r.keepB ox k1) (s.keepB oy k1) rfl rfl (.inr ox) (.inr oy) rfl) fun v h2 ⟨e2, k2, zs, o2, hz, ev⟩ => ?_
  subst e2
  refine gTup_intro rfl (unnil_intro ?_)
  have hlen1 : (List.replicate (xs.length + ys.length) 0 ++ X.drop (xs.length + ys.length)).length = room := by simp; omega
  have o3 := o2.room k2 o1.cellsN
  rw [hlen1] at o3
  have o3' : Room h2 q room zs := o3
  refine hc_intro (mtrim_spec (o2.rd (c := room) (by omega)) hz.symm) fun v h3 ⟨e3, e4⟩ => ?_
  subst e3; subst e4
  refine gSlice_intro rfl ?_
  have hd : digs (val xs * val ys) = trimL zs := by rw [← ev, digs_val o2.words]
  have htl := trimL_le zs
  refine sl_to rfl (by omega) ?_
  rw [hd]
  refine ⟨k1.trans k2, rfl, ?_⟩
  have := o3'.take (trimL zs).length
  rw [trimL_take] at this; exact this
theorem mLen_spec {x : Int} {n : Nat} (hx : x = (n : Int)) (hn : n < 18446744073709551616) (h : Hp) : HC bits_Len.id #[.int .u64 x] h fun v h' => h' = h ∧ v = .int .i64 (blen n : Int) := by
  refine bits_Len.ok ?_
  unfold bits_Len.t bits_Len.D1.t
  refine hc_intro (Len64_spec hx hn h) fun v h' ⟨e1, e2⟩ => ?_
  subst e1; subst e2
  exact gInt_intro rfl ⟨rfl, rfl⟩
theorem pow_len {A B m : Nat} (hA : A < 2 ^ B) (hm : m ≠ 0) : (digs (A ^ m)).length ≤ (m * B + 63) / 64 := by
  refine digs_len.mpr ?_
  have h1 : A ^ m < (2 ^ B) ^ m := Nat.pow_lt_pow_left hA hm
  rw [← Nat.pow_mul] at h1
  have e : B * m = m * B := Nat.mul_comm _ _
  rw [e] at h1
  refine Nat.lt_of_lt_of_le h1 (Nat.pow_le_pow_right (by decide) (by omega))
theorem shr_i64 {x y : Int} {n k : Nat} (hx : x = (n : Int)) (hy : y = (k : Int)) (hk : k ≤ 64) {K : Int → Prop} (g : K ((n / 2 ^ k : Nat) : Int)) : 0 ≤ y ∧ letK (shrI .i64 x y) K := by
  subst hx; subst hy
  refine ⟨by omega, ⟨?_⟩⟩
  have e : shrI .i64 (n : Int) (k : Int) = ((n / 2 ^ k : Nat) : Int) := by
    unfold shrI
    rw [Int.toNat_natCast, show min k IntKind.i64.bits = k by show min k 64 = k; omega]
    rw [Int.fdiv_eq_ediv_of_nonneg _ (Int.pow_nonneg (by decide))]
    push_cast
    rfl
  rw [e]; exact g
theorem and_one64 {x : Int} {n : Nat} (hx : x = (n : Int)) (hn : n < 9223372036854775808) {K : Int → Prop} (g : K ((n % 2 : Nat) : Int)) : letK (andI .i64 x 1) K := by
  subst hx
  refine ⟨?_⟩
  show K (IntKind.i64.wrap (BitVec.ofInt 64 (n : Int) &&& BitVec.ofInt 64 1).toNat)
  have e : (BitVec.ofInt 64 (n : Int) &&& BitVec.ofInt 64 1).toNat = n % 2 := by
    have e1 : BitVec.ofInt 64 (1 : Int) = BitVec.ofNat 64 1 := rfl
    rw [BitVec.ofInt_natCast, e1, BitVec.toNat_and, BitVec.toNat_ofNat, BitVec.toNat_ofNat, Nat.mod_eq_of_lt (by omega)]
    exact Nat.and_two_pow_sub_one_eq_mod n 1
  rw [e, wrap_i64 (by omega) (by omega)]; exact g
/-! ### the rounds: V is what is reached, from n's top bit down -/
theorem half_step (n k : Nat) : n / 2 ^ k = 2 * (n / 2 ^ (k + 1)) + n / 2 ^ k % 2 := by
  have : n / 2 ^ (k + 1) = n / 2 ^ k / 2 := by rw [Nat.pow_succ, Nat.div_div_eq_div_mul]
  rw [this]; omega
structure PowSt (h0 h : Hp) (p q room : Nat) (V : Nat) : Prop where
  kp : Keep h0 h
  hp : h0.size ≤ p
  hq : h0.size ≤ q
  ne : p ≠ q
  z : Room h p room (digs V)
  s : Room h q room []
theorem power_loop {R : Rt} {a : Option Addr} {c la room n A B : Nat} {xs : List Nat} {h0 : Hp} (r : Rd h0 a c xs) (hla : la = xs.length) (hA : val xs = A) (hlen : A < 2 ^ B) (hxl : xs.length ≤ (B + 63) / 64) (hroom : n * B / 64 + 2 = room) (hn : n < 9223372036854775808)
    (ox : ∀ q, h0.size ≤ q → Off q a)
    (g : ∀ h p q, PowSt h0 h p q room (A ^ n) → natmul_power.D3.t R (some ⟨p, 0, none⟩) (digs (A ^ n)).length room h) :
    ∀ (k : Nat) (p q ls : Nat) (h : Hp), k ≤ 63 → n / 2 ^ k ≠ 0 → PowSt h0 h p q room (A ^ (n / 2 ^ k)) →
      natmul_power.L5.t R (k + 1) a la c (n : Int) (room : Int) (some ⟨p, 0, none⟩) (digs (A ^ (n / 2 ^ k))).length room (some ⟨q, 0, none⟩) ls room ((k : Int) - 1) h := by
  subst hla
  intro k
  induction k with
  | zero =>
    intro p q ls h hk hnz st
    unfold natmul_power.L5.t natmul_power.D6.t
    refine c_dec (fun hb => absurd hb (by omega)) fun hb => ?_
    rw [Nat.pow_zero, Nat.div_one] at st ⊢
    exact g h p q st
  | succ k ih =>
    intro p q ls h hk hnz st
    unfold natmul_power.L5.t natmul_power.D6.t
    have ek : ((k + 1 : Nat) : Int) - 1 = (k : Int) := by omega
    rw [ek]
    refine c_dec (fun hb => ?_) fun hb => absurd (by omega) hb
    have hm := half_step n k
    have hmn : n / 2 ^ k ≤ n := Nat.div_le_self _ _
    generalize hM : n / 2 ^ (k + 1) = m at *
    have hV := pow_len hlen hnz
    have hzl := st.z.le
    have h2m : 2 * m * B ≤ n * B := Nat.mul_le_mul_right _ (by omega)
    rw [Nat.mul_assoc] at h2m
    have rz : Rd h (some ⟨p, 0, none⟩) room (digs (A ^ m)) := st.z.mine.rd hzl
    refine hc_intro (next_spec st.s rz rz rfl rfl (off_of_ne st.ne) (off_of_ne st.ne) (by omega)) fun v h1 ⟨k1, e1, z1⟩ => ?_
    subst e1
    rw [val_digs, ← Nat.pow_add, ← Nat.two_mul] at z1 ⊢
    refine gSlice_intro rfl ?_
    refine sl_to (n := room) rfl (Nat.le_refl _) ?_
    refine shr_i64 rfl rfl (by omega) ?_
    refine and_one64 rfl (by omega) ?_
    have s1 : Room h1 p room [] := (st.z.keepB st.ne k1).nil
    have kp1 : Keep h0 h1 := k1.keep st.kp st.hq
    have hkk : ((k : Int) - 1) = ((k : Nat) : Int) - 1 := rfl
    have hnz2 : n / 2 ^ k ≠ 0 := by omega
    refine c_eq (fun hbit => ?_) fun hbit => ?_
    · have hbit' : n / 2 ^ k % 2 = 1 := by omega
      have hV2 := pow_len hlen (show 2 * m ≠ 0 by omega)
      have h2m1 : (2 * m + 1) * B ≤ n * B := Nat.mul_le_mul_right _ (by omega)
      rw [Nat.add_mul, Nat.one_mul, Nat.mul_assoc] at h2m1
      rw [Nat.mul_assoc] at hV2
      have rz1 : Rd h1 (some ⟨q, 0, none⟩) room (digs (A ^ (2 * m))) := z1.mine.rd z1.le
      refine hc_intro (next_spec s1 rz1 (r.keep kp1) rfl rfl (off_of_ne (Ne.symm st.ne)) (ox p st.hp) (by omega)) fun v h2 ⟨k2, e2, z2⟩ => ?_
      subst e2
      rw [val_digs, hA, ← Nat.pow_succ] at z2 ⊢
      refine gSlice_intro rfl ?_
      refine sl_to (n := room) rfl (Nat.le_refl _) ?_
      refine k_i64 ((k : Int) - 1) rfl (by omega) (by omega) ?_
      have e3 : 2 * m + 1 = n / 2 ^ k := by omega
      rw [Nat.succ_eq_add_one, e3] at z2 ⊢
      exact ih p q room h2 (by omega) hnz2 ⟨k2.keep kp1 st.hp, st.hp, st.hq, st.ne, z2, (z1.keepB (Ne.symm st.ne) k2).nil⟩
    · have hbit' : n / 2 ^ k % 2 = 0 := by omega
      refine k_i64 ((k : Int) - 1) rfl (by omega) (by omega) ?_
      have e3 : 2 * m = n / 2 ^ k := by omega
      rw [e3] at z1 ⊢
      exact ih q p room h1 (by omega) hnz2 ⟨kp1, st.hq, st.hp, Ne.symm st.ne, z1, s1⟩
theorem top_one {n : Nat} (hn : n ≠ 0) : n / 2 ^ (blen n - 1) = 1 ∧ 1 ≤ blen n := by
  have h0 := blen_pos hn
  have h1 : ¬ n < 2 ^ (blen n - 1) := fun h => by have := blen_le.mpr h; omega
  have h2 : n < 2 ^ blen n := blen_le.mp (Nat.le_refl _)
  have e : 2 ^ blen n = 2 * 2 ^ (blen n - 1) := by
    rw [show blen n = blen n - 1 + 1 by omega, Nat.pow_succ]; simp; omega
  refine ⟨?_, h0⟩
  rw [e] at h2
  have := Nat.div_eq_of_lt_le (m := n) (n := 2 ^ (blen n - 1)) (k := 1) (by omega) (by omega)
  exact this
theorem power_spec {a : Option Addr} {c l n : Nat} {xs : List Nat} {h : Hp} {x : Int} (r : Rd h a c xs) (hl : l = xs.length) (hx : x = (n : Int)) (hf : Frm xs) (hv : 2 ≤ blen (val xs)) (hn0 : n ≠ 0) (hb : n * (blen (val xs) - 1) ≤ 524288) :
    HC natmul_power.id #[.slice a l c, .int .i64 x] h fun v h' => Keep h h' ∧ Fresh h h' v (digs (val xs ^ n)) := by
  subst hl; subst hx
  have hdx : digs (val xs) = xs := hf.digs r.words
  have hA : val xs < 2 ^ blen (val xs) := blen_le.mp (Nat.le_refl _)
  have hxl : xs.length ≤ (blen (val xs) + 63) / 64 := by
    have := pow_len hA (m := 1) (by decide)
    rw [Nat.pow_one, hdx, Nat.one_mul] at this; exact this
  have hx0 : xs ≠ [] := fun e => by rw [e] at hv; simp [val, blen] at hv
  have ox : ∀ q, h.size ≤ q → Off q a := fun q hq => (r.off hq).resolve_left hx0
  refine natmul_power.ok ?_
  unfold natmul_power.t natmul_power.D1.t
  refine hc_intro (Bits_spec r rfl) fun v h1 ⟨e1, e2⟩ => ?_
  subst e1; subst e2
  refine gInt_intro rfl ?_
  generalize hB : blen (val xs) = B at *
  have hn1 : n ≤ n * (B - 1) := Nat.le_mul_of_pos_right n (by omega)
  have hnB : n * B = n * (B - 1) + n := by
    rw [show B = (B - 1) + 1 by omega, Nat.mul_add, Nat.mul_one]; simp
  have hBn : B ≤ n * B := Nat.le_mul_of_pos_left B (by omega)
  refine k_i64 ((n * B : Nat) : Int) (by push_cast; rfl) (by omega) (by omega) ?_
  refine ⟨by decide, ?_⟩
  refine k_i64 ((n * B / 64 : Nat) : Int) (by rw [Int.tdiv_eq_ediv_of_nonneg (by omega)]; omega) (by omega) (by omega) ?_
  refine k_i64 ((n * B / 64 + 2 : Nat) : Int) (by omega) (by omega) (by omega) ?_
  generalize hroom : n * B / 64 + 2 = room
  have key : ∀ (p q : Nat) (h2 : Hp), p ≠ q → h1.size ≤ p → h1.size ≤ q → Keep h1 h2 → Own h2 p (List.replicate room 0) → Own h2 q (List.replicate room 0) →
      natmul_power.D2.t (fun v h' => Keep h1 h' ∧ Fresh h1 h' v (digs (val xs ^ n))) a xs.length c (n : Int) (room : Int) (some ⟨p, 0, none⟩) room room (some ⟨q, 0, none⟩) room room h2 := by
    intro p q h2 hpq hp hq k2 op oq
    unfold natmul_power.D2.t
    refine mine_cp op.mine (r.keep k2) (by simp) rfl (by simp; omega) fun h3 o3 k3 => ?_
    obtain ⟨rest, o3r, e3⟩ := o3.room k3 op.cellsN
    have hst : Room h3 p room xs := by
      refine ⟨(List.replicate room 0).drop xs.length ++ rest, by rw [← List.append_assoc]; exact o3r, ?_⟩
      rw [← List.append_assoc, e3]; simp
    refine sl_to rfl (by omega) ?_
    unfold natmul_power.D4.t
    refine k_u64 n rfl (by omega) ?_
    refine hc_intro (mLen_spec rfl (by omega) _) fun v h4 ⟨e4, e5⟩ => ?_
    subst e4; subst e5
    refine gInt_intro rfl ?_
    obtain ⟨ht, hb1⟩ := top_one hn0
    have hble : blen n ≤ 63 := blen_le.mpr (by omega)
    refine k_i64 (((blen n - 1 : Nat) : Int) - 1) (by omega) (by omega) (by omega) ?_
    refine ⟨blen n - 1 + 1, ?_⟩
    have hp1 : val xs ^ (n / 2 ^ (blen n - 1)) = val xs := by rw [ht, Nat.pow_one]
    have main := power_loop (R := fun v h' => Keep h1 h' ∧ Fresh h1 h' v (digs (val xs ^ n))) (B := B) r rfl rfl hA hxl hroom (by omega) ox (fun h5 p5 q5 st => by
      unfold natmul_power.D3.t
      refine hc_intro (mtrim_spec (st.z.mine.rd st.z.le) rfl) fun v h6 ⟨e6, e7⟩ => ?_
      subst e6; subst e7
      rw [trimL_digs]
      exact gSlice_intro rfl ⟨st.kp, p5, st.hp, rfl, st.z.mine⟩) (blen n - 1) p q room h4 (by omega) (by rw [ht]; decide)
      ⟨k3.keep k2 hp, hp, hq, hpq, by rw [hp1, hdx]; exact hst, (by refine ⟨_, oq.keepB (Ne.symm hpq) k3, by simp⟩)⟩
    rw [hp1, hdx] at main
    exact main
  refine ⟨?_, ?_⟩
  · refine mk_intro room rfl rfl rfl rfl (by omega) fun h2 o2 k2 => ⟨fun b hb => k2.pre b hb, ?_⟩
    refine mk_intro room rfl rfl rfl rfl (by omega) fun h3 o3 k3 => ⟨fun b hb => k3.pre b (Nat.lt_of_lt_of_le hb k2.le), ?_⟩
    exact key _ _ h3 (Nat.ne_of_lt o2.lt) (Nat.le_refl _) k2.le (k2.trans k3) (o2.keep k3) o3
  · refine mk_intro room rfl rfl rfl rfl (by omega) fun h2 o2 k2 => ⟨fun b hb => k2.pre b hb, ?_⟩
    refine mk_intro room rfl rfl rfl rfl (by omega) fun h3 o3 k3 => ⟨fun b hb => k3.pre b (Nat.lt_of_lt_of_le hb k2.le), ?_⟩
    exact key _ _ h3 (Ne.symm (Nat.ne_of_lt o2.lt)) k2.le (Nat.le_refl _) (k2.trans k3) o3 (o2.keep k3)
/-- a to the n-th; errors as the code gives them. -/
def powS (xs : List Nat) (n : Int) : List Nat × Int := if n < 0 then ([], 1) else if Frm xs then lim (val xs ^ n.toNat) else ([], 2)
theorem mtold_spec {h0 h : Hp} {q V : Nat} (hq : h0.size ≤ q) (o : Mine h q (digs V)) : HC natmul_told.id #[.slice (some ⟨q, 0, none⟩) (digs V).length (digs V).length] h fun v h' => h' = h ∧ Ans h0 h v (lim V) := by
  refine natmul_told.ok ?_
  unfold natmul_told.t natmul_told.D1.t
  refine c_dec (fun hb => ⟨rfl, ?_⟩) fun hb => ⟨rfl, ?_⟩
  · unfold lim; rw [if_neg (by omega)]; exact Ans.none
  · unfold lim; rw [if_pos (by omega)]; exact Ans.mk rfl rfl (o.got hq) (show In .i64 0 by decide)
theorem pow_big {A n : Nat} (hA : 2 ≤ blen A) (h : 524288 / (blen A - 1) < n) : lim (A ^ n) = ([], 5) := by
  refine lim_big fun hh => ?_
  have h1 : 2 ^ (blen A - 1) ≤ A := by
    rcases Nat.lt_or_ge A (2 ^ (blen A - 1)) with h | h
    · have := blen_le.mpr h; omega
    · exact h
  have h2 : (2 ^ (blen A - 1)) ^ n ≤ A ^ n := Nat.pow_le_pow_left h1 n
  rw [← Nat.pow_mul] at h2
  have h3 := blen_le.mp hh
  have h4 : (blen A - 1) * n < 524288 := (Nat.pow_lt_pow_iff_right (by decide)).mp (Nat.lt_of_le_of_lt h2 h3)
  have h5 := Nat.lt_mul_of_div_lt h (by omega)
  rw [Nat.mul_comm] at h5
  omega
theorem lim_bad {n : Nat} (hh : (lim n).2 ≠ 0) : lim n = ([], 5) := by
  unfold lim at hh ⊢; split at hh
  · exact absurd rfl hh
  · rename_i hl; rw [if_neg hl]
theorem Pow_spec {a : Option Addr} {c l : Nat} {xs : List Nat} {h : Hp} {x : Int} (r : Rd h a c xs) (hl : l = xs.length) (hx : In .i64 x) :
    HC natmul_Pow.id #[.slice a l c, .int .i64 x] h fun v h' => Keep h h' ∧ Ans h h' v (powS xs x) := by
  subst hl
  have hrl := r.len
  refine natmul_Pow.ok ?_
  unfold natmul_Pow.t natmul_Pow.D1.t
  unfold powS
  refine c_dec (fun hb => ⟨Keep.refl _, ?_⟩) fun hb => ?_
  · rw [if_pos hb]; exact Ans.none
  rw [if_neg hb]
  obtain ⟨n, rfl⟩ := Int.eq_ofNat_of_zero_le (show 0 ≤ x by omega)
  refine hc_intro (Form_spec r rfl) fun v h' ⟨e1, e2⟩ => ?_
  subst e1; subst e2
  refine gBool_intro rfl ?_
  refine c_not (fun hf => ⟨Keep.refl _, ?_⟩) fun hf => ?_
  · rw [if_neg (of_decide_eq_false hf)]; exact Ans.none
  have f1 := of_decide_eq_true hf
  rw [if_pos f1, Int.toNat_natCast]
  refine c_eq (fun h0 => ?_) fun h0 => ?_
  · have e0 : n = 0 := by omega
    subst e0
    refine box_intro [1] (by rfl) (by decide) (by decide) fun h1 o1 k1 => ?_
    refine ⟨k1, ?_⟩
    rw [Nat.pow_zero, show lim 1 = ([1], 0) from Frm.lim (xs := [1]) (by decide) (by unfold Words; decide)]
    exact Ans.mk rfl rfl (o1.mine.got (Nat.le_refl _)) (by decide)
  have hn0 : n ≠ 0 := fun e => h0 (by rw [e]; rfl)
  refine hc_intro (Bits_spec r rfl) fun v h1 ⟨e1, e2⟩ => ?_
  subst e1; subst e2
  refine gInt_intro rfl ?_
  refine c_dec (fun hs => ?_) fun hs => ?_
  · have hsmall : val xs = 0 ∨ val xs = 1 := by
      have : val xs < 2 ^ 1 := blen_le.mp (by omega)
      omega
    have hp : val xs ^ n = val xs := by
      rcases hsmall with e | e <;> rw [e]
      · exact Nat.zero_pow (by omega)
      · exact Nat.one_pow n
    rw [hp, f1.lim r.words]
    refine mk_intro xs.length rfl rfl rfl rfl (by omega) fun h2 o2 k2 => ?_
    refine cp_intro o2 (r.keep k2) (by simp) rfl (Nat.le_refl _) k2 fun h3 o3 k3 => ?_
    refine ⟨k3, ?_⟩
    simp only [List.length_replicate, List.take_length, List.drop_replicate, Nat.sub_self, List.replicate_zero, List.append_nil] at o3
    exact Ans.mk rfl rfl (o3.mine.got (Nat.le_refl _)) (show In .i64 0 by decide)
  have hB : 2 ≤ blen (val xs) := by omega
  have hbl : blen (val xs) ≤ 64 * xs.length := blen_le.mpr (val_lt r.words)
  have hQ : Int.tdiv 524288 ((blen (val xs) - 1 : Nat) : Int) = ((524288 / (blen (val xs) - 1) : Nat) : Int) := by
    rw [Int.tdiv_eq_ediv_of_nonneg (by decide)]
    exact (Int.natCast_ediv 524288 _).symm
  have hQ2 : 524288 / (blen (val xs) - 1) ≤ 524288 := Nat.div_le_self _ _
  have hQ3 := pow_big (A := val xs) (n := n) hB
  have hQ4 := Nat.div_mul_le_self 524288 (blen (val xs) - 1)
  refine k_i64 ((blen (val xs) - 1 : Nat) : Int) (by omega) (by omega) (by omega) ?_
  refine ⟨by omega, ?_⟩
  rw [hQ]
  generalize 524288 / (blen (val xs) - 1) = Q at *
  refine k_i64 ((Q : Nat) : Int) rfl (by omega) (by omega) ?_
  refine c_dec (fun hq => ⟨Keep.refl _, ?_⟩) fun hq => ?_
  · rw [hQ3 (by omega)]; exact Ans.none
  have hle : n * (blen (val xs) - 1) ≤ 524288 := Nat.le_trans (Nat.mul_le_mul_right _ (show n ≤ Q by omega)) hQ4
  refine hc_intro (power_spec r rfl rfl f1 hB hn0 hle) fun v h3 ⟨k3, f⟩ => ?_
  refine f.elim fun b3 hb3 o3 => ?_
  refine hc_intro (mtold_spec hb3 o3) fun v h4 ⟨e4, an⟩ => ?_
  subst e4
  refine an.elimG fun a5 c5 r5 i5 => ?_
  exact ⟨k3, Ans.back r5 i5⟩
end Go.Proofs.Ytaglonbkdcmmpaa.G
