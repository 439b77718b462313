/- What the document's power and DocPow answer. -/
import Derived.Test.YtidpnpcnjfbjfaaRef02a
namespace Go.Proofs.Ytidpnpcnjfbjfaa.G
open Go.Gv
set_option maxRecDepth 100000
theorem dl_lim {V : Nat} (h : (lim V).2 = 0) : (D.digs V).length ≤ 16384 := (dlen_lim V).mpr (lim_len h)
theorem pow_up {A m n : Nat} (hA : A ≠ 0) (h : m ≤ n) (hh : (lim (A ^ m)).2 ≠ 0) : lim (A ^ n) = ([], 5) :=
  lim_bad fun h0 => hh (lim_mono (Nat.pow_le_pow_right (Nat.pos_of_ne_zero hA) h) h0)
theorem rpower_loop {a : Option Addr} {c la n A : Nat} {h0 : Hp} (r : RdE eU32 h0 a c (D.digs A)) (hla : la = (D.digs A).length) (hA0 : A ≠ 0) (hAl : (D.digs A).length ≤ 16384) (hn : n < 9223372036854775808) :
    ∀ (k : Nat) (p : Option Addr) (cp : Nat) (h : Hp), k ≤ 63 → Keep h0 h → GotE eU32 h0 h p cp (D.digs (A ^ (n / 2 ^ k))) → (lim (A ^ (n / 2 ^ k))).2 = 0 →
      gnomonref02_power.L4.t (fun v h' => Keep h0 h' ∧ Ans h0 h' v (lim (A ^ n))) (k + 1) a la c (n : Int) p (D.digs (A ^ (n / 2 ^ k))).length cp ((k : Int) - 1) h := by
  subst hla
  intro k
  induction k with
  | zero =>
    intro p cp h hk kp g hl
    unfold gnomonref02_power.L4.t gnomonref02_power.D5.t
    refine c_dec (fun hb => absurd hb (by omega)) fun hb => ?_
    rw [Nat.pow_zero, Nat.div_one] at g ⊢
    unfold gnomonref02_power.D2.t
    exact told_tail g rfl kp rfl
  | succ k ih =>
    intro p cp h hk kp g hl
    unfold gnomonref02_power.L4.t gnomonref02_power.D5.t
    have ek : ((k + 1 : Nat) : Int) - 1 = (k : Int) := by omega
    rw [ek]
    refine c_dec (fun hb => ?_) fun hb => absurd (by omega) hb
    have hm := half_step n k
    have hmn : n / 2 ^ k ≤ n := Nat.div_le_self _ _
    generalize hM : n / 2 ^ (k + 1) = m at *
    have hl1 := dl_lim hl
    refine hc_intro (rproduct_spec g.rd g.rd rfl rfl (by omega) (by omega)) fun v h1 ⟨k1, an⟩ => ?_
    rw [← Nat.pow_add, ← Nat.two_mul] at an
    refine an.elimG fun a1 c1 g1 i1 => ?_
    have kp1 := kp.trans k1
    refine c_ne (fun hh => ⟨kp1, ?_⟩) fun hh => ?_
    · rw [pow_up hA0 (show 2 * m ≤ n by omega) hh, lim_bad hh]; exact Ans.none
    rw [lim_ok hh] at g1 ⊢
    refine hc_intro (From_spec g1.rd64 rfl) fun v h2 ⟨k2, a2, c2, e, g2⟩ => ?_
    subst e
    have kp2 := kp1.trans k2
    rw [val_digs] at g2 ⊢
    refine gSlice_intro rfl ?_
    refine shr_i64 rfl rfl (by omega) ?_
    refine and_one64 rfl (by omega) ?_
    refine c_eq (fun hbit => ?_) fun hbit => ?_
    · have hbit' : n / 2 ^ k % 2 = 1 := by omega
      have hl2 := dl_lim hh
      refine hc_intro (rproduct_spec g2.rd (r.keep kp2) rfl rfl (by omega) (by omega)) fun v h3 ⟨k3, an⟩ => ?_
      rw [← Nat.pow_succ, Nat.succ_eq_add_one] at an
      have e3 : 2 * m + 1 = n / 2 ^ k := by omega
      rw [e3] at an
      refine an.elimG fun a3 c3 g3 i3 => ?_
      have kp3 := kp2.trans k3
      refine c_ne (fun hh3 => ⟨kp3, ?_⟩) fun hh3 => ?_
      · rw [pow_up hA0 hmn hh3, lim_bad hh3]; exact Ans.none
      rw [lim_ok hh3] at g3 ⊢
      refine hc_intro (From_spec g3.rd64 rfl) fun v h4 ⟨k4, a4, c4, e, g4⟩ => ?_
      subst e
      rw [val_digs] at g4 ⊢
      refine gSlice_intro rfl ?_
      refine k_i64 ((k : Int) - 1) rfl (by omega) (by omega) ?_
      exact ih a4 c4 h4 (by omega) (kp3.trans k4) (g4.from kp3.le) hh3
    · have hbit' : n / 2 ^ k % 2 = 0 := by omega
      refine k_i64 ((k : Int) - 1) rfl (by omega) (by omega) ?_
      have e3 : 2 * m = n / 2 ^ k := by omega
      rw [e3] at g2 hh ⊢
      exact ih a2 c2 h2 (by omega) kp2 (g2.from kp1.le) hh
theorem rpower_spec {a : Option Addr} {c l n A : Nat} {h : Hp} {x : Int} (r : RdE eU32 h a c (D.digs A)) (hl : l = (D.digs A).length) (hx : x = (n : Int)) (hA0 : A ≠ 0) (hAl : (D.digs A).length ≤ 16384) (hn0 : n ≠ 0) (hn : n < 4611686018427387904) :
    HC gnomonref02_power.id #[.slice a l c, .int .i64 x] h fun v h' => Keep h h' ∧ Ans h h' v (lim (A ^ n)) := by
  subst hl; subst hx
  refine gnomonref02_power.ok ?_
  unfold gnomonref02_power.t gnomonref02_power.D1.t
  refine hc_intro (rWord_spec (w := 1) rfl (by decide) h) fun v h1 ⟨k1, a1, c1, e, g1⟩ => ?_
  subst e
  refine gSlice_intro rfl ?_
  obtain ⟨ht, hb1⟩ := top_one hn0
  have hbn : blen n ≤ 62 := blen_le.mpr (by omega)
  refine ⟨blen n, ?_⟩
  have main : gnomonref02_power.D3.t (fun v h' => Keep h h' ∧ Ans h h' v (lim (A ^ n))) a (D.digs A).length c (n : Int) a1 (D.digs 1).length c1 ((blen n - 1 : Nat) : Int) h1 := by
    unfold gnomonref02_power.D3.t
    refine ⟨blen n + 1, ?_⟩
    have hz : n / 2 ^ blen n = 0 := Nat.div_eq_of_lt (blen_le.mp (Nat.le_refl _))
    have h1e : A ^ (n / 2 ^ blen n) = 1 := by rw [hz, Nat.pow_zero]
    have := rpower_loop (n := n) (h0 := h) r rfl hA0 hAl (by omega) (blen n) a1 c1 h1 (by omega) k1 (by rw [h1e]; exact g1) (by rw [h1e, show lim 1 = ([1], 0) from Frm.lim (xs := [1]) (by decide) (by unfold Words; decide)])
    rw [h1e, show ((blen n : Nat) : Int) - 1 = ((blen n - 1 : Nat) : Int) by omega] at this
    exact this
  have up : ∀ (k t : Nat), t + k = blen n → 0 < k → gnomonref02_power.L8.t (fun v h' => Keep h h' ∧ Ans h h' v (lim (A ^ n))) k a (D.digs A).length c (n : Int) a1 (D.digs 1).length c1 (t : Int) h1 := by
    intro k
    induction k with
    | zero => intro t _ h0; omega
    | succ k ih =>
      intro t htk _
      unfold gnomonref02_power.L8.t gnomonref02_power.D9.t
      refine c_dec (fun _ => ?_) fun hb => absurd (by omega) hb
      refine k_i64 ((t + 1 : Nat) : Int) (by omega) (by omega) (by omega) ?_
      refine shr_i64 rfl rfl (by omega) ?_
      refine c_dec (fun hp => ?_) fun hp => ?_
      · refine k_i64 ((t + 1 : Nat) : Int) (by omega) (by omega) (by omega) ?_
        have hk0 : 0 < k := by
          rcases Nat.eq_zero_or_pos k with e | e
          · exfalso
            have : n / 2 ^ (t + 1) = 0 := Nat.div_eq_of_lt (blen_le.mp (by omega))
            omega
          · exact e
        exact ih (t + 1) (by omega) hk0
      · have hk0 : k = 0 := by
          rcases Nat.eq_zero_or_pos k with e | e
          · exact e
          · exfalso
            have h2 : 2 ^ (t + 1) ≤ n := by
              rcases Nat.lt_or_ge n (2 ^ (t + 1)) with h | h
              · have := blen_le.mpr h; omega
              · exact h
            have : 0 < n / 2 ^ (t + 1) := Nat.div_pos h2 (Nat.pow_pos (by decide))
            omega
        have et : t = blen n - 1 := by omega
        rw [et]; exact main
  exact up (blen n) 0 (by omega) (by omega)
theorem DocPow_spec {a : Option Addr} {c l : Nat} {xs : List Nat} {h : Hp} {x : Int} (r : Rd h a c xs) (hl : l = xs.length) (hx : In .i64 x) :
    HC gnomonref02_DocPow.id #[.slice a l c, .int .i64 x] h fun v h' => Keep h h' ∧ Ans h h' v (powS xs x) := by
  subst hl
  have hxr := in_i64.mp hx
  refine gnomonref02_DocPow.ok ?_
  unfold gnomonref02_DocPow.t gnomonref02_DocPow.D1.t
  unfold powS
  refine c_dec (fun hb => ⟨Keep.refl _, ?_⟩) fun hb => ?_
  · rw [if_pos hb]; exact Ans.none
  rw [if_neg hb]
  obtain ⟨n, rfl⟩ := Int.eq_ofNat_of_zero_le (show 0 ≤ x by omega)
  refine hc_intro (DocForm_spec r rfl) fun v h' ⟨e1, e2⟩ => ?_
  subst e1; subst e2
  refine gBool_intro rfl ?_
  refine c_not (fun hf => ⟨Keep.refl _, ?_⟩) fun hf => ?_
  · rw [if_neg (of_decide_eq_false hf)]; exact Ans.none
  have f1 := of_decide_eq_true hf
  rw [if_pos f1, Int.toNat_natCast]
  have d1 := dl_of f1 r
  refine hc_intro (From_spec r rfl) fun v h1 ⟨k1, a1, c1, e, g1⟩ => ?_
  subst e
  refine gSlice_intro rfl ?_
  generalize val xs = A at *
  have l1 : lim 1 = ([1], 0) := Frm.lim (xs := [1]) (by decide) (by unfold Words; decide)
  have d1' : digs 1 = [1] := by have := l1; unfold lim at this; split at this <;> simp at this; exact this
  have one : ∀ {h2 : Hp}, Keep h' h2 → lim (A ^ n) = ([1], 0) → HC gnomonref01_Word.id #[.int .u64 1] h2 fun v7 h8 => gSlice v7 fun a_9 l_9 c_9 => HC gnomonref01_To.id #[.slice a_9 l_9 c_9] h8 fun v10 h11 => gSlice v10 fun a_12 l_12 c_12 =>
      (fun v h'' => Keep h' h'' ∧ Ans h' h'' v (lim (A ^ n))) (.tuple #[.slice a_12 l_12 c_12, .int .i64 0]) h11 := by
    intro h2 k2 e
    refine hc_intro (rWord_spec (w := 1) rfl (by decide) h2) fun v h3 ⟨k3, a3, c3, e3, g3⟩ => ?_
    subst e3
    refine gSlice_intro rfl ?_
    refine hc_intro (To_spec g3.rd rfl) fun v h4 ⟨k4, a4, c4, e4, g4⟩ => ?_
    subst e4
    refine gSlice_intro rfl ⟨k2.trans (k3.trans k4), ?_⟩
    rw [d1'] at g4 ⊢
    rw [e]
    exact Ans.mk rfl rfl (g4.from (k2.trans k3).le) (show In .i64 0 by decide)
  refine c_eq (fun h0 => ?_) fun h0 => ?_
  · have : n = 0 := by omega
    subst this
    exact one k1 (by rw [Nat.pow_zero]; exact l1)
  have hn0 : n ≠ 0 := fun e => h0 (by rw [e]; rfl)
  refine hc_intro (rWord_spec (w := 1) rfl (by decide) h1) fun v h3 ⟨k3, a3, c3, e3, g3⟩ => ?_
  subst e3
  refine gSlice_intro rfl ?_
  have k13 := k1.trans k3
  have g1 := g1.keep k3
  refine hc_intro (rCmp_spec g1.rd g3.rd rfl rfl) fun v h4 ⟨e4, e5⟩ => ?_
  subst e4; subst e5
  refine gInt_intro rfl ?_
  refine c_eq (fun hc => ?_) fun hc => ?_
  · have hA1 : A = 1 := by
      unfold cmpI at hc
      split at hc
      · cases hc
      · split at hc
        · assumption
        · cases hc
    exact one k13 (by rw [hA1, Nat.one_pow]; exact l1)
  have hA1 : A ≠ 1 := fun e => hc (by rw [e]; rfl)
  unfold gnomonref02_DocPow.D2.t
  refine c_eq (fun hz => ⟨k13, ?_⟩) fun hz => ?_
  · rw [(D.len_bits A).mp (by omega), Nat.zero_pow (by omega), show lim 0 = ([], 0) by simp [lim, digs_zero]]; exact Ans.none
  have hA0 : A ≠ 0 := fun e => hz (by rw [(D.len_bits A).mpr e]; rfl)
  have hB : 2 ≤ blen A := by
    rcases Nat.lt_or_ge (blen A) 2 with h | h
    · have : A < 2 ^ 1 := blen_le.mp (by omega)
      omega
    · exact h
  refine c_dec (fun hbig => ⟨k13, ?_⟩) fun hbig => ?_
  · have := Nat.div_le_self 524288 (blen A - 1)
    rw [pow_big hB (by omega)]; exact Ans.none
  refine hc_intro (rBits_spec g1.rd rfl) fun v h5 ⟨e5, e6⟩ => ?_
  subst e5; subst e6
  refine gInt_intro rfl ?_
  have hbl := D.bits_len A
  have hmul : (blen A - 1) * n ≤ 524288 * 524288 := Nat.mul_le_mul (by omega) (by omega)
  have hpb : 524288 < (blen A - 1) * n + 1 → lim (A ^ n) = ([], 5) := by
    intro hh
    refine lim_big fun hh2 => ?_
    have h1 : 2 ^ (blen A - 1) ≤ A := by
      rcases Nat.lt_or_ge A (2 ^ (blen A - 1)) with h | h
      · have := blen_le.mpr h; omega
      · exact h
    have h2 : (2 ^ (blen A - 1)) ^ n ≤ A ^ n := Nat.pow_le_pow_left h1 n
    rw [← Nat.pow_mul] at h2
    have h3 := blen_le.mp hh2
    have h4 := (Nat.pow_lt_pow_iff_right (a := 2) (by decide)).mp (Nat.lt_of_le_of_lt h2 h3)
    omega
  refine k_i64 ((blen A - 1 : Nat) : Int) (by omega) (by omega) (by omega) ?_
  refine k_i64 (((blen A - 1) * n : Nat) : Int) (by rw [Int.natCast_mul]) (by omega) (by omega) ?_
  generalize (blen A - 1) * n = W at *
  refine k_i64 ((W + 1 : Nat) : Int) (by omega) (by omega) (by omega) ?_
  refine hc_intro (least_spec rfl (by omega) _) fun v h6 ⟨e6, e7⟩ => ?_
  subst e6; subst e7
  refine gInt_intro rfl ?_
  refine c_dec (fun hbg => ⟨k13, ?_⟩) fun hbg => ?_
  · rw [hpb (by omega)]; exact Ans.none
  unfold gnomonref02_DocPow.D3.t
  refine hc_intro (rpower_spec g1.rd rfl rfl hA0 d1 hn0 (by omega)) fun v h7 ⟨k7, an⟩ => ?_
  refine an.elimG fun a7 c7 g7 i7 => ?_
  exact ⟨k13.trans k7, Ans.back (g7.from k13.le) i7⟩
end Go.Proofs.Ytidpnpcnjfbjfaa.G
