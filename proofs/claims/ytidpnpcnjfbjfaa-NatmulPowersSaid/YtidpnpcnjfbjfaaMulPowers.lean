/- The law NatmulPowers of the translation answers true. -/
import Derived.Test.YtidpnpcnjfbjfaaMulPow
import Derived.Test.YtidpnpcnjfbjfaaNatCmp
namespace Go.Proofs.Ytidpnpcnjfbjfaa.G
open Go.Gv
set_option maxRecDepth 100000
theorem lim_bad {n : Nat} (hh : (lim n).2 ≠ 0) : lim n = ([], 5) := by
  unfold lim at hh ⊢; split at hh
  · exact absurd rfl hh
  · rename_i hl; rw [if_neg hl]
theorem powS_neg {xs : List Nat} {x : Int} (h : x < 0) : powS xs x = ([], 1) := if_pos h
theorem powS_nat {X : Nat} (f : Frm (digs X)) (n : Nat) : powS (digs X) (n : Int) = lim (X ^ n) := by
  unfold powS; rw [if_neg (by omega), if_pos f, val_digs, Int.toNat_natCast]
/-- The two ways of an exponent below nought. -/
theorem pow_refused {a : Option Addr} {c l : Nat} {xs : List Nat} {h0 h : Hp} {x : Int} (k0 : Keep h0 h) (r : Rd h a c xs) (hl : l = xs.length) (hi : In .i64 x) (hx : x < 0) :
    HC natmul_Pow.id #[.slice a l c, .int .i64 x] h fun v h' => gTup v fun y => uncons y fun v1 y1 => gSlice v1 fun _ l1 _ => uncons y1 fun v2 y2 => gInt .i64 v2 fun x1 => unnil y2 <|
      cond ((((l1 : Nat) : Int)) == 0) (Keep h0 h' ∧ Value.bool (x1 == 1) = .bool true) (Keep h0 h' ∧ Value.bool false = .bool true) := by
  refine HCalls.mono (Pow_spec r hl hi) fun v h1 ⟨k1, an⟩ => ?_
  rw [powS_neg hx] at an
  refine an.elim fun a1 c1 r1 => ?_
  exact ⟨k0.trans k1, rfl⟩
theorem powers_big {x1 x2 : Int} {a : Option Addr} {c X N : Nat} {h0 h : Hp} (k0 : Keep h0 h) (r : Rd h a c (digs X)) (f : Frm (digs X)) (hN : (if x2 > x1 then x2 else x1) = (N : Int)) (hN1 : 1048576 < N) (hN2 : N < 9223372036854775808) :
    HC natmul_Pow.id #[.slice a (digs X).length c, .int .i64 (if x2 > x1 then x2 else x1)] h fun v45 h46 =>
      gTup v45 fun y47 => uncons y47 fun v48 y48 => gSlice v48 fun a_49 l_49 c_49 => uncons y48 fun v50 y50 => gInt .i64 v50 fun x_51 => unnil y50 <| boxK h46 28 [.int .u64 1] fun q52 h53 =>
      HC nat_Cmp.id #[.slice a (digs X).length c, .slice (some q52) 1 1] h53 fun v54 h55 =>
      gInt .i64 v54 fun x_56 =>
      cond (decide (x_56 ≤ 0)) (cond (x_51 == 0) (HQC gnomonref01_Same.id #[.slice a_49 l_49 c_49, .slice a (digs X).length c] h55 fun v57 =>
      gBool v57 fun b_58 => Keep h0 h55 ∧ Value.bool b_58 = .bool true) (Keep h0 h55 ∧ Value.bool false = .bool true)) (cond (x_51 == 5) (Keep h0 h55 ∧ Value.bool ((((l_49 : Nat) : Int)) == 0) = .bool true) (Keep h0 h55 ∧ Value.bool false = .bool true)) := by
  rw [hN]
  refine HCalls.mono (Pow_spec r rfl (in_i64.mpr ⟨by omega, by omega⟩)) fun v h1 ⟨k1, an⟩ => ?_
  rw [powS_nat f] at an
  refine an.elim fun a1 c1 r1 => ?_
  refine box_intro [1] (by rfl) (by decide) (by decide) fun h2 o2 k2 => ?_
  refine hc_intro (Cmp_spec (r.keep (k1.trans k2)) (o2.rd (c := 1) (by decide)) rfl (by rfl)) fun v h3 ⟨e3, e4⟩ => ?_
  subst e3; subst e4
  rw [val_digs]
  refine gInt_intro rfl ?_
  have k02 := k0.trans (k1.trans k2)
  have hv1 : val [1] = 1 := by decide
  rw [hv1]
  by_cases hX : X ≤ 1
  · have hp : X ^ N = X := by
      have : X = 0 ∨ X = 1 := by omega
      rcases this with e | e <;> rw [e]
      · exact Nat.zero_pow (by omega)
      · exact Nat.one_pow N
    have hl : lim X = (digs X, 0) := by have := f.lim (digs_words X); rwa [val_digs] at this
    rw [hp, hl] at r1 ⊢
    refine c_dec (fun _ => ?_) fun hh => absurd (show cmpI X 1 ≤ 0 by unfold cmpI; split; decide; rw [if_pos (by omega)]; decide) hh
    refine c_eq (fun _ => ?_) fun hh => absurd rfl hh
    refine Same_intro (r1.keep k2) (r.keep (k1.trans k2)) rfl rfl ⟨k02, by simp⟩
  · have hB : 2 ≤ blen X := by
      rcases Nat.lt_or_ge (blen X) 2 with h | h
      · have : X < 2 ^ 1 := blen_le.mp (by omega)
        omega
      · exact h
    have hl : lim (X ^ N) = ([], 5) := pow_big hB (by
      have := Nat.div_le_self 524288 (blen X - 1); omega)
    rw [hl]
    refine c_dec (fun hh => absurd hh (by unfold cmpI; rw [if_neg (by omega), if_neg (by omega)]; decide)) fun _ => ?_
    refine c_eq (fun _ => ⟨k02, rfl⟩) fun hh => absurd rfl hh
theorem NatmulPowers_law {a0 : Option Addr} {c0 l0 : Nat} {xs : List Nat} {x1 x2 : Int} {h : Hp} (r0 : Rd h a0 c0 xs) (hl0 : l0 = xs.length) (b1 : -9223372036854775808 ≤ x1 ∧ x1 < 9223372036854775808) (b2 : -9223372036854775808 ≤ x2 ∧ x2 < 9223372036854775808) :
    HC gnomonlaw02_NatmulPowers.id #[.slice a0 l0 c0, .int .i64 x1, .int .i64 x2] h fun v h' => Keep h h' ∧ v = .bool true := by
  have i1 : In .i64 x1 := in_i64.mpr b1
  have i2 : In .i64 x2 := in_i64.mpr b2
  refine gnomonlaw02_NatmulPowers.ok ?_
  unfold gnomonlaw02_NatmulPowers.t gnomonlaw02_NatmulPowers.D1.t
  refine hc_intro (lnorm_spec r0 hl0) fun v h1 ⟨k1, a, c, e, rx⟩ => ?_
  subst e
  refine gTup_intro rfl (uncons_intro (gSlice_intro rfl (uncons_intro (gBool_intro rfl (unnil_intro ?_)))))
  refine box_intro [10] (by rfl) (by decide) (by decide) fun h2 o2 k2 => ?_
  refine hc_intro (Pow_spec (o2.rd (c := 1) (by decide)) (by rfl) (by decide)) fun v h3 ⟨k3, an⟩ => ?_
  have e10 : powS [10] 20 = ([7766279631452241920, 5], 0) := by
    have : powS [10] 20 = lim (val [10] ^ 20) := by unfold powS; rw [if_neg (by decide), if_pos (by decide)]; rfl
    rw [this, show val [10] ^ 20 = val [7766279631452241920, 5] by decide]
    exact Frm.lim (xs := [7766279631452241920, 5]) (by decide) (by unfold Words; decide)
  rw [e10] at an
  refine an.elim fun a3 c3 r3 => ?_
  refine c_ne (fun hh => absurd rfl hh) fun _ => ?_
  refine box_intro [7766279631452241920, 5] (by rfl) (by decide) (by decide) fun h4 o4 k4 => ?_
  refine Same_intro (r3.keep k4) (o4.rd (c := 2) (by decide)) rfl (by rfl) ?_
  refine c_not (fun hh => absurd hh (by simp)) fun _ => ?_
  refine hc_intro (lawake_spec _) fun v h5 ⟨k5, e⟩ => ?_
  subst e
  refine gBool_intro rfl ?_
  refine c_not (fun hh => absurd hh (by simp)) fun _ => ?_
  have k25 := k2.trans (k3.trans (k4.trans k5))
  have k05 := k1.trans k25
  have rx := rx.keep k25
  unfold gnomonlaw02_NatmulPowers.D2.t
  have hneg : (if (-1 : Int) < (if x2 < x1 then x2 else x1) then (-1) else (if x2 < x1 then x2 else x1)) < 0 ∧ In .i64 (if (-1 : Int) < (if x2 < x1 then x2 else x1) then (-1) else (if x2 < x1 then x2 else x1)) := by
    have hi : In .i64 (if x2 < x1 then x2 else x1) := in_ite i2 i1
    generalize (if x2 < x1 then x2 else x1) = y at hi ⊢
    by_cases hy : -1 < y
    · rw [if_pos hy]; exact ⟨by decide, by decide⟩
    · rw [if_neg hy]; exact ⟨by omega, hi⟩
  refine c_not (fun _ => pow_refused k05 rx rfl hneg.2 hneg.1) fun hx => ?_
  refine c_dec (fun _ => pow_refused k05 rx rfl hneg.2 hneg.1) fun h1n => ?_
  refine c_dec (fun _ => pow_refused k05 rx rfl hneg.2 hneg.1) fun h2n => ?_
  have hx := of_decide_eq_true hx
  have fx := form_digs hx
  rw [lim_ok hx] at rx ⊢
  generalize val xs = X at *
  obtain ⟨m, rfl⟩ := Int.eq_ofNat_of_zero_le (show 0 ≤ x1 by omega)
  obtain ⟨n, rfl⟩ := Int.eq_ofNat_of_zero_le (show 0 ≤ x2 by omega)
  have hmax : (if (n : Int) > (m : Int) then (n : Int) else (m : Int)) = ((max m n : Nat) : Int) := by split <;> omega
  unfold gnomonlaw02_NatmulPowers.D3.t
  refine c_dec (fun hb => powers_big k05 rx fx hmax (by omega) (by omega)) fun hb => ?_
  refine c_dec (fun hb => powers_big k05 rx fx hmax (by omega) (by omega)) fun hb2 => ?_
  unfold gnomonlaw02_NatmulPowers.D4.t
  refine hc_intro (Pow_spec rx rfl i1) fun v h6 ⟨k6, an⟩ => ?_
  rw [powS_nat fx] at an
  refine an.elim fun a6 c6 r6 => ?_
  refine hc_intro (Pow_spec (rx.keep k6) rfl i2) fun v h7 ⟨k7, an⟩ => ?_
  rw [powS_nat fx] at an
  refine an.elim fun a7 c7 r7 => ?_
  refine k_i64 ((m + n : Nat) : Int) (by omega) (by omega) (by omega) ?_
  refine hc_intro (Pow_spec (rx.keep (k6.trans k7)) rfl (in_i64.mpr ⟨by omega, by omega⟩)) fun v h8 ⟨k8, an⟩ => ?_
  rw [powS_nat fx] at an
  refine an.elim fun a8 c8 r8 => ?_
  have k68 := k6.trans (k7.trans k8)
  have k08 := k05.trans k68
  have big : ∀ j k : Nat, j ≤ k → (lim (X ^ j)).2 ≠ 0 → lim (X ^ k) = ([], 5) := by
    intro j k hjk hh
    refine lim_bad fun h0 => hh (lim_mono (Nat.pow_le_pow_right ?_ hjk) h0)
    rcases Nat.eq_zero_or_pos X with e | e
    · exfalso
      subst e
      apply hh
      have : (0 : Nat) ^ j ≤ 1 := by
        cases j with
        | zero => simp
        | succ j => rw [Nat.zero_pow (by omega)]; omega
      exact lim_mono this (by rw [show lim 1 = ([1], 0) from Frm.lim (xs := [1]) (by decide) (by unfold Words; decide)])
    · exact e
  refine c_ne (fun hh => ?_) fun hm => ?_
  · rw [big m (m + n) (by omega) hh]
    exact c_eq (fun _ => ⟨k08, rfl⟩) fun h9 => absurd rfl h9
  refine c_ne (fun hh => ?_) fun hn => ?_
  · rw [big n (m + n) (by omega) hh]
    exact c_eq (fun _ => ⟨k08, rfl⟩) fun h9 => absurd rfl h9
  have r6 := r6.keep (k7.trans k8)
  have r7 := r7.keep k8
  have f6 := form_digs hm
  have f7 := form_digs hn
  rw [lim_ok hm] at r6 ⊢
  rw [lim_ok hn] at r7 ⊢
  unfold gnomonlaw02_NatmulPowers.D5.t
  refine hc_intro (Mul_spec r6 r7 rfl rfl) fun v h9 ⟨k9, an⟩ => ?_
  rw [mulS_form f6 f7, val_digs, val_digs, ← Nat.pow_add] at an
  refine an.elim fun a9 c9 r9 => ?_
  refine c_ne (fun hh => absurd rfl hh) fun _ => ?_
  refine Same_intro (r8.keep k9) r9 rfl rfl ?_
  refine c_not (fun hh => absurd hh (by simp)) fun _ => ?_
  unfold gnomonlaw02_NatmulPowers.D6.t
  refine hc_intro (Pow_spec (r6.keep k9) rfl i2) fun v h10 ⟨k10, an⟩ => ?_
  rw [powS_nat f6, ← Nat.pow_mul] at an
  refine an.elim fun a10 c10 r10 => ?_
  have hmn : m * n ≤ 1048576 * 1048576 := Nat.mul_le_mul (by omega) (by omega)
  refine k_i64 ((m * n : Nat) : Int) (by push_cast; rfl) (by omega) (by omega) ?_
  refine hc_intro (Pow_spec (rx.keep (k68.trans (k9.trans k10))) rfl (in_i64.mpr ⟨by omega, by omega⟩)) fun v h11 ⟨k11, an⟩ => ?_
  rw [powS_nat fx] at an
  refine an.elim fun a11 c11 r11 => ?_
  refine c_eq (fun _ => ?_) fun hh => absurd rfl hh
  refine Same_intro (r10.keep k11) r11 rfl rfl ⟨k08.trans (k9.trans (k10.trans k11)), by simp⟩
end Go.Proofs.Ytidpnpcnjfbjfaa.G
