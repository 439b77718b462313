/- What DocProduct answers; the law NatmulProducts of the translation answers true. -/
import Derived.Test.YtidpnpcnjfbjfaaMulPlays
namespace Go.Proofs.Ytidpnpcnjfbjfaa.G
open Go.Gv
set_option linter.unusedVariables false
set_option maxRecDepth 100000
theorem bits_more {l : List (List Nat)} (h : ∀ x ∈ l, val x ≠ 0) : l.length ≤ bitsV l ∧ blen (prodV l) + 2 * l.length ≤ 2 * bitsV l + 1 := by
  induction l with
  | nil => simp [bitsV, prodV, show blen 1 = 1 by decide]
  | cons x l ih =>
    have hx := h x (by simp)
    have ih := ih fun y hy => h y (by simp [hy])
    have hp : prodV l ≠ 0 := prodV_pos fun y hy => h y (by simp [hy])
    have hb := blen_prod hx hp
    have h1 := blen_pos hx
    simp only [bitsV, prodV, List.length_cons]
    by_cases e : val x = 1
    · rw [e, Nat.one_mul, show blen 1 = 1 by decide]; omega
    · have h2 : 2 ≤ blen (val x) := by
        rcases Nat.lt_or_ge (blen (val x)) 2 with h | h
        · have : val x < 2 ^ 1 := blen_le.mp (by omega)
          omega
        · exact h
      omega
theorem dlen_blen {X k : Nat} (h : blen X ≤ 32 * k) : (D.digs X).length ≤ k := dlen_pow.mpr (blen_le.mp h)
theorem DocProduct_spec {a : Option Addr} {c l : Nat} {xss : List (List Nat)} {h : Hp} (r : RdLL h a c xss) (hl : l = xss.length) :
    HC gnomonref02_DocProduct.id #[.slice a l c] h fun v h' => Keep h h' ∧ Ans h h' v (prodS xss) := by
  subst hl
  have hlen := r.len
  refine gnomonref02_DocProduct.ok ?_
  unfold gnomonref02_DocProduct.t gnomonref02_DocProduct.D1.t gnomonref02_DocProduct.D15.t
  refine ⟨xss.length + 1, ?_⟩
  have mul : (∀ x ∈ xss, Frm x) → (∀ x ∈ xss, val x ≠ 0) → bitsV xss + 1 ≤ 524288 + xss.length → ∀ (k i : Nat) (p : Option Addr) (cp : Nat) (h2 : Hp), i + k = xss.length → Keep h h2 → GotE eU32 h h2 p cp (D.digs (prodV (xss.take i))) →
      gnomonref02_DocProduct.L6.t (fun v h' => Keep h h' ∧ Ans h h' v (prodS xss)) (k + 1) a xss.length c p (D.digs (prodV (xss.take i))).length cp (i : Int) h2 := by
    intro hf hv hB k
    have hps : prodS xss = lim (prodV xss) := if_pos hf
    induction k with
    | zero =>
      intro i p cp h2 hik kp g
      unfold gnomonref02_DocProduct.L6.t gnomonref02_DocProduct.D7.t
      refine c_dec (fun hb => absurd hb (by omega)) fun _ => ?_
      have ei : i = xss.length := by omega
      subst ei
      rw [List.take_length] at g ⊢
      unfold gnomonref02_DocProduct.D4.t
      exact told_tail g rfl kp hps.symm
    | succ k ih =>
      intro i p cp h2 hik kp g
      unfold gnomonref02_DocProduct.L6.t gnomonref02_DocProduct.D7.t
      refine c_dec (fun _ => ?_) fun hb => absurd (by omega) hb
      have hx : xss[i]? = some (xss[i]'(by omega)) := by simp
      generalize hxe : (xss[i]'(by omega)) = x at hx
      have hmem : x ∈ xss := List.mem_of_getElem? hx
      have hfx := hf x hmem
      have ht : prodV (xss.take (i + 1)) = prodV (xss.take i) * val x := by
        rw [List.take_add_one, hx, prodV_append]; simp [prodV]
      have hb1 := bits_more (l := xss.take i) fun y hy => hv y (List.mem_of_mem_take hy)
      have hb2 := bits_more (l := xss.drop i) fun y hy => hv y (List.mem_of_mem_drop hy)
      have hb3 : bitsV xss = bitsV (xss.take i) + bitsV (xss.drop i) := by rw [← bitsV_append, List.take_append_drop]
      rw [List.length_take, Nat.min_eq_left (by omega)] at hb1
      rw [List.length_drop] at hb2
      have hdl : (D.digs (prodV (xss.take i))).length ≤ 40000 := dlen_blen (by omega)
      refine list_at (r.keep kp) rfl rfl hx fun a' c' rd => ?_
      have d1 := dl_of hfx rd
      refine hc_intro (From_spec rd rfl) fun v h3 ⟨k3, a3, c3, e, g3⟩ => ?_
      subst e
      refine gSlice_intro rfl ?_
      refine hc_intro (rWord_spec (w := 1) rfl (by decide) h3) fun v h4 ⟨k4, a4, c4, e, g4⟩ => ?_
      subst e
      refine gSlice_intro rfl ?_
      refine hc_intro (rCmp_spec (g3.keep k4).rd g4.rd rfl rfl) fun v h5 ⟨e5, e6⟩ => ?_
      subst e5; subst e6
      refine gInt_intro rfl ?_
      have kp4 := kp.trans (k3.trans k4)
      refine c_ne (fun hc => ?_) fun hc => ?_
      · refine hc_intro (rMul_spec (g.keep (k3.trans k4)).rd (g3.keep k4).rd rfl rfl (by omega) (by omega)) fun v h6 ⟨k6, a6, c6, e, g6⟩ => ?_
        subst e
        refine gSlice_intro rfl ?_
        refine k_i64 ((i + 1 : Nat) : Int) (by omega) (by omega) (by omega) ?_
        rw [← ht] at g6 ⊢
        exact ih (i + 1) a6 c6 h6 (by omega) (kp4.trans k6) (g6.from kp4.le)
      · have h1 : val x = 1 := by
          unfold cmpI at hc
          split at hc
          · cases hc
          · split at hc
            · assumption
            · cases hc
        rw [h1, Nat.mul_one] at ht
        refine k_i64 ((i + 1 : Nat) : Int) (by omega) (by omega) (by omega) ?_
        rw [← ht] at g ⊢
        exact ih (i + 1) p cp h5 (by omega) kp4 (g.keep (k3.trans k4))
  have bits : (∀ x ∈ xss, Frm x) → ∀ (k i B : Nat) (h2 : Hp), i + k = xss.length → Keep h h2 → (∀ x ∈ xss.take i, val x ≠ 0) → B ≤ 1048576 → B + i ≤ 1 + bitsV (xss.take i) → (B + i = 1 + bitsV (xss.take i) ∨ 524288 < B) →
      gnomonref02_DocProduct.L11.t (fun v h' => Keep h h' ∧ Ans h h' v (prodS xss)) (k + 1) a xss.length c (B : Int) (i : Int) h2 := by
    intro hf k
    have hps : prodS xss = lim (prodV xss) := if_pos hf
    induction k with
    | zero =>
      intro i B h2 hik kp hv hB1 hB2 hB3
      unfold gnomonref02_DocProduct.L11.t gnomonref02_DocProduct.D12.t
      refine c_dec (fun hb => absurd hb (by omega)) fun _ => ?_
      have ei : i = xss.length := by omega
      subst ei
      rw [List.take_length] at hv hB2 hB3
      have hbp := bits_prod hv
      unfold gnomonref02_DocProduct.D3.t
      refine hc_intro (least_spec rfl (by omega) _) fun v h3 ⟨e3, e4⟩ => ?_
      subst e3; subst e4
      refine gInt_intro rfl ?_
      refine c_dec (fun hb => ⟨kp, ?_⟩) fun hb => ?_
      · rw [hps, lim_big (v := prodV xss) (by omega)]; exact Ans.none
      · refine hc_intro (rWord_spec (w := 1) rfl (by decide) h3) fun v h4 ⟨k4, a4, c4, e, g4⟩ => ?_
        subst e
        refine gSlice_intro rfl ?_
        unfold gnomonref02_DocProduct.D5.t
        refine ⟨xss.length + 1, ?_⟩
        have := mul hf hv (by omega) xss.length 0 a4 c4 h4 (by omega) (kp.trans k4) (by rw [List.take_zero]; exact g4.from kp.le)
        rw [List.take_zero] at this
        exact this
    | succ k ih =>
      intro i B h2 hik kp hv hB1 hB2 hB3
      unfold gnomonref02_DocProduct.L11.t gnomonref02_DocProduct.D12.t
      refine c_dec (fun _ => ?_) fun hb => absurd (by omega) hb
      have hx : xss[i]? = some (xss[i]'(by omega)) := by simp
      generalize hxe : (xss[i]'(by omega)) = x at hx
      have hmem : x ∈ xss := List.mem_of_getElem? hx
      have hfx := hf x hmem
      have ht : xss.take (i + 1) = xss.take i ++ [x] := by rw [List.take_add_one, hx]; rfl
      have hbt : bitsV (xss.take (i + 1)) = bitsV (xss.take i) + blen (val x) := by rw [ht, bitsV_append]; simp [bitsV]
      refine list_at (r.keep kp) rfl rfl hx fun a' c' rd => ?_
      refine c_eq (fun h0 => ⟨kp, ?_⟩) fun h0 => ?_
      · have hxn : x = [] := List.length_eq_zero_iff.mp (by omega)
        subst hxn
        rw [hps, prodV_zero hmem rfl, show lim 0 = ([], 0) by simp [lim, digs_zero]]
        exact Ans.none
      have hvx : val x ≠ 0 := fun hv0 => by
        have h2 := hfx.2
        have h3 := trimL_nil_iff.mpr hv0
        rw [h2] at h3
        subst h3
        exact h0 rfl
      have hbx := blen_pos hvx
      have hv' : ∀ y ∈ xss.take (i + 1), val y ≠ 0 := fun y hy => by
        rw [ht] at hy
        rcases List.mem_append.mp hy with h1 | h1
        · exact hv y h1
        · simp at h1; subst h1; exact hvx
      have hbl : blen (val x) ≤ 524288 := by
        have h1 := hfx.1
        have := blen_le.mpr (val_lt rd.words)
        omega
      refine c_dec (fun hs => ?_) fun hs => ?_
      · refine list_at (r.keep kp) rfl rfl hx fun a'' c'' rd2 => ?_
        refine hc_intro (From_spec rd2 rfl) fun v h3 ⟨k3, a3, c3, e, g3⟩ => ?_
        subst e
        refine gSlice_intro rfl ?_
        refine hc_intro (rBits_spec g3.rd rfl) fun v h4 ⟨e4, e5⟩ => ?_
        subst e4; subst e5
        refine gInt_intro rfl ?_
        refine k_i64 ((blen (val x) - 1 : Nat) : Int) (by omega) (by omega) (by omega) ?_
        refine k_i64 ((B + (blen (val x) - 1) : Nat) : Int) (by omega) (by omega) (by omega) ?_
        refine k_i64 ((i + 1 : Nat) : Int) (by omega) (by omega) (by omega) ?_
        exact ih (i + 1) _ h4 (by omega) (kp.trans k3) hv' (by omega) (by omega) (by omega)
      · refine k_i64 ((i + 1 : Nat) : Int) (by omega) (by omega) (by omega) ?_
        exact ih (i + 1) B h2 (by omega) kp hv' hB1 (by omega) (.inr (by omega))
  have forms : ∀ (k i : Nat), i + k = xss.length → (∀ x ∈ xss.take i, Frm x) →
      gnomonref02_DocProduct.L16.t (fun v h' => Keep h h' ∧ Ans h h' v (prodS xss)) (k + 1) a xss.length c (i : Int) h := by
    intro k
    induction k with
    | zero =>
      intro i hik hf
      unfold gnomonref02_DocProduct.L16.t gnomonref02_DocProduct.D17.t
      refine c_dec (fun hb => absurd hb (by omega)) fun _ => ?_
      have ei : i = xss.length := by omega
      subst ei
      rw [List.take_length] at hf
      unfold gnomonref02_DocProduct.D2.t gnomonref02_DocProduct.D10.t
      refine ⟨xss.length + 1, ?_⟩
      exact bits hf xss.length 0 1 h (by omega) (Keep.refl _) (by simp) (by omega) (by simp [bitsV]) (by simp [bitsV])
    | succ k ih =>
      intro i hik hf
      unfold gnomonref02_DocProduct.L16.t gnomonref02_DocProduct.D17.t
      refine c_dec (fun _ => ?_) fun hb => absurd (by omega) hb
      have hx : xss[i]? = some (xss[i]'(by omega)) := by simp
      generalize hxe : (xss[i]'(by omega)) = x at hx
      have hmem : x ∈ xss := List.mem_of_getElem? hx
      refine list_at r rfl rfl hx fun a' c' rd => ?_
      refine hc_intro (DocForm_spec rd rfl) fun v h' ⟨e1, e2⟩ => ?_
      subst e1; subst e2
      refine gBool_intro rfl ?_
      refine c_not (fun hb => ⟨Keep.refl _, ?_⟩) fun hb => ?_
      · unfold prodS; rw [if_neg fun hh => of_decide_eq_false hb (hh x hmem)]; exact Ans.none
      refine k_i64 ((i + 1 : Nat) : Int) (by omega) (by omega) (by omega) ?_
      refine ih (i + 1) (by omega) fun y hy => ?_
      rw [List.take_add_one, hx] at hy
      rcases List.mem_append.mp hy with h1 | h1
      · exact hf y h1
      · simp at h1; subst h1; exact of_decide_eq_true hb
  exact forms xss.length 0 (by omega) (by simp)
theorem play5 : PlayOK 5 := by
  intro h a b e c d f xs ys n ls r s i rl
  refine gnomonlaw02_plays.ok ?_
  unfold gnomonlaw02_plays.t gnomonlaw02_plays.D1.t
  refine boxV fun h2 o2 k2 => ?_
  refine ⟨o2.addLt 1, ?_⟩
  refine ldV o2 (k := 1) rfl ?_
  refine gSlice_intro rfl ?_
  refine hc_intro (Twin_spec (r.keep k2) rfl) fun v h6 ⟨k6, an⟩ => ?_
  refine an.elim fun a7 c7 r7 => ?_
  refine ⟨k6.preLe (Nat.le_refl _), o2.addLt 2, ?_⟩
  have o6 := o2.keep k6
  refine ldV o6 (k := 2) rfl ?_
  refine gSlice_intro rfl ?_
  refine hc_intro (Twin_spec (s.keep (k2.trans k6)) rfl) fun v h11 ⟨k11, an⟩ => ?_
  refine an.elim fun a12 c12 r12 => ?_
  refine ⟨k11.preLe k6.le, ?_⟩
  have o11 := o6.keep k11
  have r7 := r7.keep k11
  have k0 := k2.trans (k6.trans k11)
  refine ldV o11 (k := 0) rfl ?_
  refine gInt_intro rfl ?_
  refine c_eq (fun hh => absurd hh (by decide)) fun _ => ?_
  refine c_eq (fun hh => absurd hh (by decide)) fun _ => ?_
  refine c_eq (fun hh => absurd hh (by decide)) fun _ => ?_
  refine c_eq (fun hh => absurd hh (by decide)) fun _ => ?_
  refine c_eq (fun _ => ?_) fun hh => absurd rfl hh
  refine ldV o11 (k := 4) rfl ?_
  refine gSlice_intro rfl ?_
  refine hc_intro (llists_spec (rl.keep k0) rfl) fun v h12 ⟨k12, a12, c12', e12, r12'⟩ => ?_
  subst e12
  refine gSlice_intro rfl ?_
  refine hc_intro (Product_spec r12' rfl) fun v h13 ⟨k13, an⟩ => ?_
  refine an.elim fun a13 c13 r13 => ?_
  have o13 := o11.keep (k12.trans k13)
  have k0 := k0.trans k12
  refine ldV o13 (k := 4) rfl ?_
  refine gSlice_intro rfl ?_
  refine hc_intro (DocProduct_spec (rl.keep (k0.trans k13)) rfl) fun v h14 ⟨k14, an⟩ => ?_
  refine an.elim fun a14 c14 r14 => ?_
  refine hc_intro (ltold_spec (r13.keep k14) r14 rfl rfl) fun v h15 ⟨e15, ev⟩ => ?_
  subst e15; subst ev
  exact gBool_intro rfl ⟨k0.trans (k13.trans k14), by simp⟩
theorem NatmulProducts_law {a0 : Option Addr} {c0 l0 : Nat} {os : List Op2} {h : Hp} (r0 : RdOps2 h a0 c0 os) (hl0 : l0 = os.length) :
    HC gnomonlaw02_NatmulProducts.id #[.slice a0 l0 c0] h fun v h' => Keep h h' ∧ v = .bool true := by
  refine gnomonlaw02_NatmulProducts.ok ?_
  unfold gnomonlaw02_NatmulProducts.t gnomonlaw02_NatmulProducts.D1.t
  refine box_intro [2] (by rfl) (by decide) (by decide) fun h1 o1 k1 => ?_
  refine box_intro [3] (by rfl) (by decide) (by decide) fun h2 o2 k2 => ?_
  refine box_intro [7] (by rfl) (by decide) (by decide) fun h3 o3 k3 => ?_
  refine boxE eSl [((some ⟨h.size, 0, none⟩, 1, 1) : Sl), (some ⟨h1.size, 0, none⟩, 1, 1), (some ⟨h2.size, 0, none⟩, 1, 1)] rfl (fun _ _ => trivial) fun h4 o4 k4 => ?_
  have hd : Heads h4 [((some ⟨h.size, 0, none⟩, 1, 1) : Sl), (some ⟨h1.size, 0, none⟩, 1, 1), (some ⟨h2.size, 0, none⟩, 1, 1)] [[2], [3], [7]] :=
    (((Heads.nil h4).snoc (s := (some ⟨h.size, 0, none⟩, 1, 1)) (xs := [2]) rfl ((o1.rd (c := 1) (by decide)).keep (k2.trans (k3.trans k4)))).snoc (s := (some ⟨h1.size, 0, none⟩, 1, 1)) (xs := [3]) rfl ((o2.rd (c := 1) (by decide)).keep (k3.trans k4))).snoc (s := (some ⟨h2.size, 0, none⟩, 1, 1)) (xs := [7]) rfl ((o3.rd (c := 1) (by decide)).keep k4)
  have rl : RdLL h4 (some ⟨h3.size, 0, none⟩) 3 [[2], [3], [7]] := hd.rdLL (o4.rd' (c := 3) (show 3 ≤ 11728124029610 by decide) (Nat.le_refl 3)) (by decide) (by decide)
  refine hc_intro (Product_spec rl (by rfl)) fun v h5 ⟨k5, an⟩ => ?_
  have e1 : prodS [[2], [3], [7]] = ([42], 0) := by
    have : prodS [[2], [3], [7]] = lim (prodV [[2], [3], [7]]) := if_pos (by decide)
    rw [this, show prodV [[2], [3], [7]] = val [42] by decide]
    exact Frm.lim (xs := [42]) (by decide) (by unfold Words; decide)
  rw [e1] at an
  refine an.elim fun a5 c5 r5 => ?_
  have rn : RdLL h5 none 0 [] := (Heads.nil h5).rdLL (RdE.nil _ _ _) (by decide) (by decide)
  refine hc_intro (Product_spec rn (by rfl)) fun v h6 ⟨k6, an⟩ => ?_
  have e2 : prodS [] = ([1], 0) := by
    have : prodS [] = lim (prodV []) := if_pos (by decide)
    rw [this, show prodV [] = val [1] by decide]
    exact Frm.lim (xs := [1]) (by decide) (by unfold Words; decide)
  rw [e2] at an
  refine an.elim fun a6 c6 r6 => ?_
  refine box_intro [42] (by rfl) (by decide) (by decide) fun h7 o7 k7 => ?_
  refine hc_intro (ltold_spec (r5.keep (k6.trans k7)) (o7.rd (c := 1) (by decide)) rfl (by rfl)) fun v h8 ⟨e8, ev⟩ => ?_
  subst e8; subst ev
  refine gBool_intro rfl ?_
  refine c_bool (fun _ => ?_) fun hh => absurd hh (by simp)
  refine box_intro [1] (by rfl) (by decide) (by decide) fun h9 o9 k9 => ?_
  refine hc_intro (ltold_spec (r6.keep (k7.trans k9)) (o9.rd (c := 1) (by decide)) rfl (by rfl)) fun v h10 ⟨e10, ev⟩ => ?_
  subst e10; subst ev
  refine gBool_intro rfl ?_
  refine c_bool (fun _ => ?_) fun hh => absurd hh (by simp)
  have k0 := k1.trans (k2.trans (k3.trans (k4.trans (k5.trans (k6.trans (k7.trans k9))))))
  refine hc_intro (lall_spec (r0.keep k0) hl0 fun k h1 h2 => ?_) fun v h11 ⟨k11, e⟩ => ?_
  · have : k = 5 := by omega
    subst this
    exact play5
  · subst e
    exact gBool_intro rfl ⟨k0.trans k11, rfl⟩
end Go.Proofs.Ytidpnpcnjfbjfaa.G
