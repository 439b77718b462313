/- What Parts and DocParts answer; the law NatmulParted of the translation answers true. -/
import Derived.Test.YtidpnpcnjfbjfaaMulPlays
import Derived.Test.YtidpnpcnjfbjfaaMulJoins
namespace Go.Proofs.Ytidpnpcnjfbjfaa.G
open Go.Gv
set_option linter.unusedVariables false
set_option maxRecDepth 100000
abbrev P4 := List Nat × List Nat × List Nat × Int
def partsV (X Y k : Nat) : P4 :=
  if (lim (lo X k * lo Y k)).2 = 0 ∧ (lim (lo X k * hi Y k + hi X k * lo Y k)).2 = 0 ∧ (lim (hi X k * hi Y k)).2 = 0 then (digs (lo X k * lo Y k), digs (lo X k * hi Y k + hi X k * lo Y k), digs (hi X k * hi Y k), 0) else ([], [], [], 5)
def partsS (xs ys : List Nat) (x : Int) : P4 := if x < 1 ∨ x > 8192 then ([], [], [], 1) else if Frm xs ∧ Frm ys then partsV (val xs) (val ys) x.toNat else ([], [], [], 2)
theorem Parts_fullF {a b : Option Addr} {c d l m : Nat} {xs ys : List Nat} {h : Hp} {x : Int} (r : Rd h a c xs) (s : Rd h b d ys) (hl : l = xs.length) (hm : m = ys.length) :
    HC natmul_Parts.id #[.slice a l c, .slice b m d, .int .i64 x] h fun v h' => Keep h h' ∧ Ans4F h.size h' v (partsS xs ys x).1 (partsS xs ys x).2.1 (partsS xs ys x).2.2.1 (partsS xs ys x).2.2.2 := by
  by_cases hk : x < 1 ∨ x > 8192
  · have e : partsS xs ys x = ([], [], [], 1) := if_pos hk
    rw [e]
    refine hc_intro (Parts_badF hk) fun v h' ⟨e1, an⟩ => ?_
    subst e1; exact ⟨Keep.refl _, an⟩
  obtain ⟨k, rfl⟩ := Int.eq_ofNat_of_zero_le (show 0 ≤ x by omega)
  by_cases hf : Frm xs ∧ Frm ys
  · have e : partsS xs ys (k : Int) = partsV (val xs) (val ys) k := by unfold partsS; rw [if_neg hk, if_pos hf, Int.toNat_natCast]
    rw [e]
    refine hc_intro (Parts_specF r s hl hm hf.1 hf.2 (by omega) (by omega) rfl rfl rfl) fun v h' ⟨k1, o⟩ => ⟨k1, ?_⟩
    unfold partsV
    rcases o with ⟨o1, o2, o3, an⟩ | ⟨o1, an⟩
    · rw [if_pos ⟨o1, o2, o3⟩]; exact an
    · rw [if_neg o1]; exact an
  · have e : partsS xs ys (k : Int) = ([], [], [], 2) := by unfold partsS; rw [if_neg hk, if_neg hf]
    rw [e]
    refine natmul_Parts.ok ?_
    unfold natmul_Parts.t natmul_Parts.D1.t
    refine c_dec (fun hb => absurd hb (by omega)) fun _ => ?_
    refine c_dec (fun hb => absurd hb (by omega)) fun _ => ?_
    unfold natmul_Parts.D2.t
    refine hc_intro (Form_spec r hl) fun v h' ⟨e1, e2⟩ => ?_
    subst e1; subst e2
    refine gBool_intro rfl ?_
    refine c_not (fun _ => ⟨Keep.refl _, Ans4F.none⟩) fun h1 => ?_
    refine hc_intro (Form_spec s hm) fun v h' ⟨e1, e2⟩ => ?_
    subst e1; subst e2
    refine gBool_intro rfl ?_
    exact c_not (fun _ => ⟨Keep.refl _, Ans4F.none⟩) fun h2 => absurd ⟨of_decide_eq_true h1, of_decide_eq_true h2⟩ hf
theorem Parts_full {a b : Option Addr} {c d l m : Nat} {xs ys : List Nat} {h : Hp} {x : Int} (r : Rd h a c xs) (s : Rd h b d ys) (hl : l = xs.length) (hm : m = ys.length) :
    HC natmul_Parts.id #[.slice a l c, .slice b m d, .int .i64 x] h fun v h' => Keep h h' ∧ Ans4 h' v (partsS xs ys x).1 (partsS xs ys x).2.1 (partsS xs ys x).2.2.1 (partsS xs ys x).2.2.2 := hc_intro (Parts_fullF r s hl hm) fun v h' ⟨k1, an⟩ => ⟨k1, an.weak⟩
theorem dlen_mul2 {X Y j k : Nat} (hX : (D.digs X).length ≤ j) (hY : (D.digs Y).length ≤ k) : (D.digs (X * Y)).length ≤ j + k := by
  rw [dlen_pow] at hX hY ⊢
  rw [show 32 * (j + k) = 32 * j + 32 * k by omega, Nat.pow_add]
  exact Nat.mul_lt_mul'' hX hY
theorem D.len_le {X Y : Nat} (h : X ≤ Y) : (D.digs X).length ≤ (D.digs Y).length := D.digs_len_mono h
theorem DocParts_specF {a b : Option Addr} {c d l m : Nat} {xs ys : List Nat} {h : Hp} {x : Int} (r : Rd h a c xs) (s : Rd h b d ys) (hl : l = xs.length) (hm : m = ys.length) :
    HC gnomonref02_DocParts.id #[.slice a l c, .slice b m d, .int .i64 x] h fun v h' => Keep h h' ∧ Ans4F h.size h' v (partsS xs ys x).1 (partsS xs ys x).2.1 (partsS xs ys x).2.2.1 (partsS xs ys x).2.2.2 := by
  subst hl; subst hm
  refine gnomonref02_DocParts.ok ?_
  unfold gnomonref02_DocParts.t gnomonref02_DocParts.D1.t
  refine c_dec (fun hb => ⟨Keep.refl _, ?_⟩) fun hb => ?_
  · have e : partsS xs ys x = ([], [], [], 1) := if_pos (.inl hb)
    rw [e]; exact Ans4F.none
  refine c_dec (fun hb2 => ⟨Keep.refl _, ?_⟩) fun hb2 => ?_
  · have e : partsS xs ys x = ([], [], [], 1) := if_pos (.inr hb2)
    rw [e]; exact Ans4F.none
  obtain ⟨k, rfl⟩ := Int.eq_ofNat_of_zero_le (show 0 ≤ x by omega)
  have hk : ¬ ((k : Int) < 1 ∨ (k : Int) > 8192) := by omega
  unfold gnomonref02_DocParts.D2.t
  refine hc_intro (DocForm_spec r rfl) fun v h' ⟨e1, e2⟩ => ?_
  subst e1; subst e2
  refine gBool_intro rfl ?_
  refine c_not (fun hf => ⟨Keep.refl _, ?_⟩) fun hf => ?_
  · have e : partsS xs ys (k : Int) = ([], [], [], 2) := by unfold partsS; rw [if_neg hk, if_neg (fun hh => of_decide_eq_false hf hh.1)]
    rw [e]; exact Ans4F.none
  refine hc_intro (DocForm_spec s rfl) fun v h' ⟨e1, e2⟩ => ?_
  subst e1; subst e2
  refine gBool_intro rfl ?_
  refine c_not (fun hf2 => ⟨Keep.refl _, ?_⟩) fun hf2 => ?_
  · have e : partsS xs ys (k : Int) = ([], [], [], 2) := by unfold partsS; rw [if_neg hk, if_neg (fun hh => of_decide_eq_false hf2 hh.2)]
    rw [e]; exact Ans4F.none
  have f1 := of_decide_eq_true hf
  have f2 := of_decide_eq_true hf2
  have e : partsS xs ys (k : Int) = partsV (val xs) (val ys) k := by unfold partsS; rw [if_neg hk, if_pos ⟨f1, f2⟩, Int.toNat_natCast]
  rw [e]
  have d1 := dl_of f1 r
  have d2 := dl_of f2 s
  unfold gnomonref02_DocParts.D3.t
  refine hc_intro (From_spec r rfl) fun v h1 ⟨k1, a1, c1, e, g1⟩ => ?_
  subst e
  refine gSlice_intro rfl ?_
  refine hc_intro (From_spec (s.keep k1) rfl) fun v h2 ⟨k2, a2, c2, e, g2⟩ => ?_
  subst e
  refine gSlice_intro rfl ?_
  generalize val xs = X at *
  generalize val ys = Y at *
  have k02 := k1.trans k2
  have dx0 : (D.digs (lo X k)).length ≤ 16384 := Nat.le_trans (D.len_le (Nat.mod_le _ _)) d1
  have dx1 : (D.digs (hi X k)).length ≤ 16384 := Nat.le_trans (D.len_le (Nat.div_le_self _ _)) d1
  have dy0 : (D.digs (lo Y k)).length ≤ 16384 := Nat.le_trans (D.len_le (Nat.mod_le _ _)) d2
  have dy1 : (D.digs (hi Y k)).length ≤ 16384 := Nat.le_trans (D.len_le (Nat.div_le_self _ _)) d2
  have g1 := g1.keep k2
  refine k_i64 ((64 * k : Nat) : Int) (by omega) (by omega) (by omega) ?_
  refine hc_intro (rLow_spec g1.rd rfl rfl (by omega) (by omega)) fun v h3 ⟨k3, a3, c3, e, g3⟩ => ?_
  subst e
  refine gSlice_intro rfl ?_
  refine k_i64 ((64 * k : Nat) : Int) (by omega) (by omega) (by omega) ?_
  refine hc_intro (rShr_spec (g1.keep k3).rd rfl rfl (by omega)) fun v h4 ⟨k4, a4, c4, e, g4⟩ => ?_
  subst e
  refine gSlice_intro rfl ?_
  have k24 := k3.trans k4
  refine k_i64 ((64 * k : Nat) : Int) (by omega) (by omega) (by omega) ?_
  refine hc_intro (rLow_spec (g2.keep k24).rd rfl rfl (by omega) (by omega)) fun v h5 ⟨k5, a5, c5, e, g5⟩ => ?_
  subst e
  refine gSlice_intro rfl ?_
  refine k_i64 ((64 * k : Nat) : Int) (by omega) (by omega) (by omega) ?_
  refine hc_intro (rShr_spec (g2.keep (k24.trans k5)).rd rfl rfl (by omega)) fun v h6 ⟨k6, a6, c6, e, g6⟩ => ?_
  subst e
  refine gSlice_intro rfl ?_
  have x0 : RdE eU32 h6 a3 c3 (D.digs (lo X k)) := (g3.keep (k4.trans (k5.trans k6))).rd
  have x1 : RdE eU32 h6 a4 c4 (D.digs (hi X k)) := (g4.keep (k5.trans k6)).rd
  have y0 : RdE eU32 h6 a5 c5 (D.digs (lo Y k)) := (g5.keep k6).rd
  have y1 : RdE eU32 h6 a6 c6 (D.digs (hi Y k)) := g6.rd
  have k06 := k02.trans (k24.trans (k5.trans k6))
  have ex0 : X % 2 ^ (64 * k) = lo X k := rfl
  have ex1 : X / 2 ^ (64 * k) = hi X k := rfl
  have ey0 : Y % 2 ^ (64 * k) = lo Y k := rfl
  have ey1 : Y / 2 ^ (64 * k) = hi Y k := rfl
  rw [ex0, ex1, ey0, ey1]
  refine hc_intro (rproduct_spec x0 y0 rfl rfl (by omega) (by omega)) fun v h7 ⟨k7, an⟩ => ?_
  refine an.elimG fun a7 c7 g7 _ => ?_
  refine hc_intro (rproduct_spec (x1.keep k7) (y1.keep k7) rfl rfl (by omega) (by omega)) fun v h8 ⟨k8, an⟩ => ?_
  refine an.elimG fun a8 c8 g8 _ => ?_
  have k78 := k7.trans k8
  refine hc_intro (rMul_spec (x0.keep k78) (y1.keep k78) rfl rfl (by omega) (by omega)) fun v h9 ⟨k9, a9, c9, e, g9⟩ => ?_
  subst e
  refine gSlice_intro rfl ?_
  have k79 := k78.trans k9
  refine hc_intro (rMul_spec (x1.keep k79) (y0.keep k79) rfl rfl (by omega) (by omega)) fun v h10 ⟨k10, a10, c10, e, g10⟩ => ?_
  subst e
  refine gSlice_intro rfl ?_
  have m1 := dlen_mul2 dx0 dy1
  have m2 := dlen_mul2 dx1 dy0
  refine hc_intro (rAdd_spec (g9.keep k10).rd g10.rd rfl rfl (by omega) (by omega)) fun v h11 ⟨k11, a11, c11, e, g11⟩ => ?_
  subst e
  refine gSlice_intro rfl ?_
  refine hc_intro (Told_spec g11.rd rfl) fun v h12 ⟨k12, an⟩ => ?_
  refine an.elimG fun a12 c12 g12 _ => ?_
  have r8 := (Own1.of_got g8 rfl (Nat.le_refl _) (Nat.le_refl _)).keep (k9.trans (k10.trans (k11.trans k12)))
  have r7 := (Own1.of_got g7 rfl (Nat.le_refl _) (Nat.le_refl _)).keep (k8.trans (k9.trans (k10.trans (k11.trans k12))))
  have r12 := Own1.of_got g12 rfl (Nat.le_refl _) (Nat.le_refl _)
  have k0 := k06.trans (k79.trans (k10.trans (k11.trans k12)))
  unfold partsV
  refine c_ne (fun hh => ⟨k0, ?_⟩) fun hL => ?_
  · rw [if_neg (fun h3 => hh h3.1)]; exact Ans4F.none
  refine c_ne (fun hh => ⟨k0, ?_⟩) fun hH => ?_
  · rw [if_neg (fun h3 => hh h3.2.2)]; exact Ans4F.none
  refine c_ne (fun hh => ⟨k0, ?_⟩) fun hM => ?_
  · rw [if_neg (fun h3 => hh h3.2.1)]; exact Ans4F.none
  rw [if_pos ⟨hL, hM, hH⟩]
  rw [lim_ok hL] at r7 ⊢
  rw [lim_ok hH] at r8 ⊢
  rw [lim_ok hM] at r12 ⊢
  unfold gnomonref02_DocParts.D4.t
  have b7 := r7.block; have b8 := r8.block; have b12 := r12.block
  have z0 := k06.le; have z7 := k7.le; have z8 := k8.le; have z9 := k9.le; have z10 := k10.le; have z11 := k11.le; have z12 := k12.le
  refine ⟨k0, _, _, _, _, _, _, rfl, FreshL.three (r7.wide (by omega) (by omega)) (r12.wide (by omega) (by omega)) (r8.wide (by omega) (by omega)) (fun p q e1 e2 => ?_) (fun p q e1 e2 => ?_) (fun p q e1 e2 => ?_)⟩
  · have := b7 p e1; have := b12 q e2; omega
  · have := b7 p e1; have := b8 q e2; omega
  · have := b12 p e1; have := b8 q e2; omega
theorem DocParts_spec {a b : Option Addr} {c d l m : Nat} {xs ys : List Nat} {h : Hp} {x : Int} (r : Rd h a c xs) (s : Rd h b d ys) (hl : l = xs.length) (hm : m = ys.length) :
    HC gnomonref02_DocParts.id #[.slice a l c, .slice b m d, .int .i64 x] h fun v h' => Keep h h' ∧ Ans4 h' v (partsS xs ys x).1 (partsS xs ys x).2.1 (partsS xs ys x).2.2.1 (partsS xs ys x).2.2.2 := hc_intro (DocParts_specF r s hl hm) fun v h' ⟨k1, an⟩ => ⟨k1, an.weak⟩
theorem play4 : PlayOK 4 := by
  intro h a b e c d f xs ys n ls r s i rl
  refine gnomonlaw02_plays.ok ?_
  unfold gnomonlaw02_plays.t gnomonlaw02_plays.D1.t
  refine boxV fun h2 o2 k2 => ?_
  refine ⟨o2.addLt 1, ?_⟩
  refine ldV o2 (k := 1) rfl ?_
  refine gSlice_intro rfl ?_
  refine hc_intro (Twin_spec (r.keep k2) rfl) fun v h6 ⟨k6, an⟩ => ?_
  refine an.elim fun a7 c7 r7 => ?_
  refine ⟨k6.preLe (Nat.le_refl _), o2.addLt 2, ?_⟩
  have o6 := o2.keep k6
  refine ldV o6 (k := 2) rfl ?_
  refine gSlice_intro rfl ?_
  refine hc_intro (Twin_spec (s.keep (k2.trans k6)) rfl) fun v h11 ⟨k11, an⟩ => ?_
  refine an.elim fun a12 c12 r12 => ?_
  refine ⟨k11.preLe k6.le, ?_⟩
  have o11 := o6.keep k11
  have r7 := r7.keep k11
  have k0 := k2.trans (k6.trans k11)
  refine ldV o11 (k := 0) rfl ?_
  refine gInt_intro rfl ?_
  refine c_eq (fun hh => absurd hh (by decide)) fun _ => ?_
  refine c_eq (fun hh => absurd hh (by decide)) fun _ => ?_
  refine c_eq (fun hh => absurd hh (by decide)) fun _ => ?_
  refine c_eq (fun _ => ?_) fun hh => absurd rfl hh
  refine ldV o11 (k := 3) rfl ?_
  refine gInt_intro rfl ?_
  refine hc_intro (Parts_full r7 r12 rfl rfl) fun v h13 ⟨k13, an⟩ => ?_
  refine an.elim fun a13 b13 d13 c13 c23 c33 r13 r23 r33 => ?_
  have o13 := o11.keep k13
  refine ldV o13 (k := 1) rfl ?_
  refine gSlice_intro rfl ?_
  refine ldV o13 (k := 2) rfl ?_
  refine gSlice_intro rfl ?_
  refine ldV o13 (k := 3) rfl ?_
  refine gInt_intro rfl ?_
  refine hc_intro (DocParts_spec (r.keep (k0.trans k13)) (s.keep (k0.trans k13)) rfl rfl) fun v h14 ⟨k14, an⟩ => ?_
  refine an.elim fun a14 b14 d14 c14 c24 c34 r14 r24 r34 => ?_
  refine hc_intro (ltold_spec (r13.keep k14) r14 rfl rfl) fun v h15 ⟨e15, ev⟩ => ?_
  subst e15; subst ev
  refine gBool_intro rfl ?_
  refine c_bool (fun _ => ?_) fun hh => absurd hh (by simp)
  refine Same_intro (r23.keep k14) r24 rfl rfl ?_
  refine c_bool (fun _ => ?_) fun hh => absurd hh (by simp)
  refine Same_intro (r33.keep k14) r34 rfl rfl ?_
  exact ⟨k0.trans (k13.trans k14), by simp⟩
theorem NatmulParted_law {a0 : Option Addr} {c0 l0 : Nat} {os : List Op2} {h : Hp} (r0 : RdOps2 h a0 c0 os) (hl0 : l0 = os.length) :
    HC gnomonlaw02_NatmulParted.id #[.slice a0 l0 c0] h fun v h' => Keep h h' ∧ v = .bool true := by
  refine gnomonlaw02_NatmulParted.ok ?_
  unfold gnomonlaw02_NatmulParted.t gnomonlaw02_NatmulParted.D1.t
  refine box_intro [1, 2, 3] (by rfl) (by decide) (by decide) fun h1 o1 k1 => ?_
  refine box_intro [4, 5] (by rfl) (by decide) (by decide) fun h2 o2 k2 => ?_
  have hv1 : val [1, 2, 3] = 1 + 18446744073709551616 * (2 + 18446744073709551616 * 3) := by decide
  have hv2 : val [4, 5] = 4 + 18446744073709551616 * 5 := by decide
  have e0 : (2 : Nat) ^ (64 * 1) = 18446744073709551616 := by decide
  refine hc_intro (Parts_spec (k := 1) (L := 4) (M := 13 + 18446744073709551616 * 12) (H := 10 + 18446744073709551616 * 15) ((o1.rd (c := 3) (by decide)).keep k2) (o2.rd (c := 2) (by decide)) (by rfl) (by rfl) (by decide) (by decide) (by decide) (by decide)
    (by unfold lo; rw [hv1, hv2, e0]) (by unfold hi; rw [hv1, hv2, e0]) (by unfold lo hi; rw [hv1, hv2, e0])) fun v h3 ⟨k3, o⟩ => ?_
  have l1 : lim 4 = ([4], 0) := Frm.lim (xs := [4]) (by decide) (by unfold Words; decide)
  have l2 : lim (13 + 18446744073709551616 * 12) = ([13, 12], 0) := by
    have := Frm.lim (xs := [13, 12]) (by decide) (by unfold Words; decide)
    rwa [show val [13, 12] = 13 + 18446744073709551616 * 12 by decide] at this
  have l3 : lim (10 + 18446744073709551616 * 15) = ([10, 15], 0) := by
    have := Frm.lim (xs := [10, 15]) (by decide) (by unfold Words; decide)
    rwa [show val [10, 15] = 10 + 18446744073709551616 * 15 by decide] at this
  have dg : ∀ {n : Nat} {l : List Nat}, lim n = (l, 0) → digs n = l := fun {n l} hh => by
    have h2 : (lim n).2 = 0 := by rw [hh]
    rw [lim_ok h2] at hh
    exact (Prod.mk.inj hh).1
  obtain ⟨_, _, _, an⟩ := o.resolve_right fun hh => hh.1 ⟨by rw [l1], by rw [l2], by rw [l3]⟩
  rw [dg l1, dg l2, dg l3] at an
  refine an.elim fun a3 b3 d3 c3 c4 c5 r3 r4 r5 => ?_
  refine box_intro [4] (by rfl) (by decide) (by decide) fun h4 o4 k4 => ?_
  refine hc_intro (ltold_spec (r3.keep k4) (o4.rd (c := 1) (by decide)) rfl (by rfl)) fun v h5 ⟨e5, ev⟩ => ?_
  subst e5; subst ev
  refine gBool_intro rfl ?_
  refine c_not (fun hh => absurd hh (by simp)) fun _ => ?_
  refine box_intro [13, 12] (by rfl) (by decide) (by decide) fun h6 o6 k6 => ?_
  refine Same_intro (r4.keep (k4.trans k6)) (o6.rd (c := 2) (by decide)) rfl (by rfl) ?_
  refine c_not (fun hh => absurd hh (by simp)) fun _ => ?_
  refine box_intro [10, 15] (by rfl) (by decide) (by decide) fun h7 o7 k7 => ?_
  refine Same_intro (r5.keep (k4.trans (k6.trans k7))) (o7.rd (c := 2) (by decide)) rfl (by rfl) ?_
  refine c_not (fun hh => absurd hh (by simp)) fun _ => ?_
  have k0 := k1.trans (k2.trans (k3.trans (k4.trans (k6.trans k7))))
  refine hc_intro (lall_spec (r0.keep k0) hl0 fun k h1 h2 => ?_) fun v h8 ⟨k8, e⟩ => ?_
  · have : k = 4 := by omega
    subst this
    exact play4
  · subst e
    exact gBool_intro rfl ⟨k0.trans k8, rfl⟩
end Go.Proofs.Ytidpnpcnjfbjfaa.G
