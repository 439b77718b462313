/- Contracts of natmul and of the theorems' helpers in the form that the lifted functions use. -/
import Derived.Test.YtaglonbkdcmmpaaNatHv
import Derived.Test.YtaglonbkdcmmpaaMulPartsS
import Derived.Test.YtaglonbkdcmmpaaMulPow
import Derived.Test.YtaglonbkdcmmpaaMulList
namespace Go.Proofs.Ytaglonbkdcmmpaa.G
open Go.Gv
set_option linter.unusedVariables false
set_option maxRecDepth 100000
section
variable {a b : Option Addr} {c d l m : Nat} {xs ys : List Nat} {h : Hp} {x : Int}
theorem natmul_Mul.hv (r : Rd h a c xs) (e : l = xs.length) (s : Rd h b d ys) (f : m = ys.length) : HC natmul_Mul.id #[.slice a l c, .slice b m d] h fun v h' => Keep h h' ∧ Ans h h' v (mulS xs ys) := Mul_spec r s e f
theorem natmul_Sqr.hv (r : Rd h a c xs) (e : l = xs.length) : HC natmul_Sqr.id #[.slice a l c] h fun v h' => Keep h h' ∧ Ans h h' v (mulS xs xs) := Sqr_spec r e
theorem natmul_Pow.hv (r : Rd h a c xs) (e : l = xs.length) (i : In .i64 x) : HC natmul_Pow.id #[.slice a l c, .int .i64 x] h fun v h' => Keep h h' ∧ Ans h h' v (powS xs x) := Pow_spec r e i
theorem Own1.got {lo hi : Nat} {h0 h : Hp} {s : Sl} {xs : List Nat} (o : Own1 lo hi h s xs) (hl : h0.size ≤ lo) : GotE eU64 h0 h s.1 s.2.2 xs := by
  obtain ⟨e1, e2, e3, e4⟩ := o
  refine ⟨e3, e2, e4.imp id ?_⟩
  rintro ⟨b, rest, e5, e6, _, o, e7⟩
  exact ⟨b, rest, e5, Nat.le_trans hl e6, o, e7⟩
theorem partsS_in (xs ys : List Nat) (x : Int) : In .i64 (partsS xs ys x).2.2.2 := by
  have i0 : In .i64 0 := by decide
  have i1 : In .i64 1 := by decide
  have i2 : In .i64 2 := by decide
  have i5 : In .i64 5 := by decide
  unfold partsS partsV
  split
  · exact i1
  · split
    · split
      · exact i0
      · exact i5
    · exact i2
theorem natmul_Parts.hv (r : Rd h a c xs) (e : l = xs.length) (s : Rd h b d ys) (f : m = ys.length) (i : In .i64 x) : HC natmul_Parts.id #[.slice a l c, .slice b m d, .int .i64 x] h fun v h' => Keep h h' ∧ s4 sW sW sW (sI .i64) h h' v (partsS xs ys x) := by
  refine hc_intro (Parts_fullF r s e f) fun v h' ⟨k, an⟩ => ⟨k, ?_⟩
  obtain ⟨a1, b1, d1, c1, c2, c3, e1, F⟩ := an
  subst e1
  exact ⟨_, _, _, _, rfl, ⟨_, _, rfl, Own1.got (F.at_ 0 _ _ rfl rfl) (Nat.le_refl _)⟩, ⟨_, _, rfl, Own1.got (F.at_ 1 _ _ rfl rfl) (Nat.le_refl _)⟩, ⟨_, _, rfl, Own1.got (F.at_ 2 _ _ rfl rfl) (Nat.le_refl _)⟩, rfl, partsS_in _ _ _⟩
/-! ### helpers of the theorems -/
theorem tsame_loop {R : Rt} (r : Rd h a c xs) (s : Rd h b d ys) (hl : l = xs.length) (hm : m = ys.length) (he : xs.length = ys.length) (g : R (.bool (decide (xs = ys))) h) :
    ∀ (k i : Nat), i + k = xs.length → xs.take i = ys.take i → gnomontop_same.L4.t R (k + 1) a l c b m d (i : Int) h := by
  subst hl; subst hm
  have h1 := r.len
  intro k
  induction k with
  | zero =>
    intro i hik ht
    unfold gnomontop_same.L4.t gnomontop_same.D5.t
    refine c_dec (fun hb => absurd hb (by omega)) fun _ => ?_
    unfold gnomontop_same.D2.t
    have : xs = ys := by rw [← List.take_length (l := xs), ← List.take_length (l := ys), ← he, show xs.length = i by omega]; exact ht
    rw [decide_eq_true this] at g; exact g
  | succ k ih =>
    intro i hik ht
    unfold gnomontop_same.L4.t gnomontop_same.D5.t
    refine c_dec (fun _ => ?_) fun hb => absurd (by omega) hb
    refine at_intro r (j := i) rfl rfl (by omega) ?_
    refine at_intro s (j := i) rfl rfl (by omega) ?_
    refine c_ne (fun hne => ?_) fun heq => ?_
    · have : xs ≠ ys := fun e => by subst e; exact hne rfl
      rw [decide_eq_false this] at g; exact g
    · refine k_i64 ((i + 1 : Nat) : Int) (by omega) (by omega) (by omega) ?_
      refine ih (i + 1) (by omega) ?_
      have e : xs.getD i 0 = ys.getD i 0 := by exact_mod_cast heq
      rw [take_snoc (by omega), take_snoc (by omega), ht, e]
theorem gnomontop_same.hv (r : Rd h a c xs) (e : l = xs.length) (s : Rd h b d ys) (f : m = ys.length) : HC gnomontop_same.id #[.slice a l c, .slice b m d] h fun v h' => Keep h h' ∧ sBool h h' v (decide (xs = ys)) := by
  refine hc_intro (S := fun v h' => h' = h ∧ v = .bool (decide (xs = ys))) ?_ fun v h' ⟨e1, e2⟩ => by subst e1; exact ⟨Keep.refl _, e2⟩
  refine gnomontop_same.ok ?_
  unfold gnomontop_same.t gnomontop_same.D1.t
  refine c_ne (fun hne => ?_) fun heq => ?_
  · have : xs ≠ ys := fun e' => by subst e'; subst e; subst f; exact hne rfl
    rw [decide_eq_false this]; exact ⟨rfl, rfl⟩
  · unfold gnomontop_same.D3.t
    exact ⟨xs.length + 1, tsame_loop r s e f (by omega) ⟨rfl, rfl⟩ xs.length 0 (by omega) rfl⟩
theorem gnomontop_natural.hv {n : Nat} (hn : n < 4294967296) (r : Rd h a c xs) (e : l = xs.length) (i : x = (n : Int)) : HC gnomontop_natural.id #[.slice a l c, .int .i64 x] h fun v h' => Keep h h' ∧ sW h h' v (digs (val (xs.take n))) := by
  subst e; subst i
  have hc := r.cap
  refine gnomontop_natural.ok ?_
  unfold gnomontop_natural.t gnomontop_natural.D1.t
  have go : ∀ k : Nat, k ≤ xs.length → xs.take k = xs.take n → gnomontop_natural.D2.t (fun v h' => Keep h h' ∧ sW h h' v (digs (val (xs.take n)))) a xs.length c (k : Int) h := by
    intro k hk hkn
    unfold gnomontop_natural.D2.t
    refine sl_to rfl (by omega) ?_
    have r2 : Rd h a c (xs.take k) := r.take k
    refine hc_intro (From_spec r2 (by rw [List.length_take]; omega)) fun v h1 ⟨k1, a1, c1, e1, g1⟩ => ?_
    subst e1
    refine gSlice_intro rfl ?_
    refine hc_intro (To_spec g1.rd rfl) fun v h2 ⟨k2, a2, c2, e2, g2⟩ => ?_
    subst e2
    refine gSlice_intro rfl ?_
    rw [hkn] at g2 ⊢
    exact ⟨k1.trans k2, a2, c2, rfl, g2.from k1.le⟩
  refine c_dec (fun hb => ?_) fun hb => ?_
  · exact go n (by omega) rfl
  · refine go xs.length (Nat.le_refl _) ?_
    rw [List.take_length, List.take_of_length_le (by omega)]
theorem gnomontop_among.hv {y : Int} (i : In .i64 x) (j : In .i64 y) (hy : 0 < y) : HC gnomontop_among.id #[.int .i64 x, .int .i64 y] h fun v h' => h' = h ∧ ∃ z : Nat, v = .int .i64 (z : Int) ∧ (z : Int) < y := by
  rw [in_i64] at i j
  refine gnomontop_among.ok ?_
  unfold gnomontop_among.t gnomontop_among.D1.t
  refine ⟨by omega, ⟨?_⟩⟩
  have h1 := Int.tmod_lt_of_pos x hy
  have h2 := Int.lt_tmod_of_pos x hy
  refine c_dec (fun hb => ?_) fun hb => ?_
  · refine k_i64 (Int.tmod x y + y) rfl (by omega) (by omega) ?_
    exact ⟨rfl, (Int.tmod x y + y).toNat, by rw [Int.toNat_of_nonneg (by omega)], by omega⟩
  · exact ⟨rfl, (Int.tmod x y).toNat, by rw [Int.toNat_of_nonneg (by omega)], by omega⟩
end
end Go.Proofs.Ytaglonbkdcmmpaa.G
