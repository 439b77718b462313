/- The law NatmulRing of the translation answers true. -/
import Derived.Test.YtidpnpcnjfbjfaaMulSpec3
namespace Go.Proofs.Ytidpnpcnjfbjfaa.G
open Go.Gv
set_option maxRecDepth 100000
theorem mulS_form {xs ys : List Nat} (fx : Frm xs) (fy : Frm ys) : mulS xs ys = lim (val xs * val ys) := if_pos ⟨fx, fy⟩
theorem ltold_spec {a b : Option Addr} {c d l m : Nat} {xs ys : List Nat} {h : Hp} {x y : Int} (r : Rd h a c xs) (s : Rd h b d ys) (hl : l = xs.length) (hm : m = ys.length) :
    HC gnomonlaw02_told.id #[.slice a l c, .int .i64 x, .slice b m d, .int .i64 y] h fun v h' => h' = h ∧ v = .bool (decide (xs = ys ∧ x = y)) := by
  refine gnomonlaw02_told.ok ?_
  unfold gnomonlaw02_told.t gnomonlaw02_told.D1.t
  refine Same_intro r s hl hm ?_
  refine c_bool (fun hb => ⟨rfl, ?_⟩) fun hb => ⟨rfl, ?_⟩
  · have e := of_decide_eq_true hb
    congr 1
    by_cases hx : x = y
    · simp [e, hx]
    · simp [hx]
  · have e := of_decide_eq_false hb
    simp [e]
theorem Sqr_spec {a : Option Addr} {c l : Nat} {xs : List Nat} {h : Hp} (r : Rd h a c xs) (hl : l = xs.length) :
    HC natmul_Sqr.id #[.slice a l c] h fun v h' => Keep h h' ∧ Ans h h' v (mulS xs xs) := by
  refine natmul_Sqr.ok ?_
  unfold natmul_Sqr.t natmul_Sqr.D1.t
  refine hc_intro (Mul_spec r r hl hl) fun v h1 ⟨k, an⟩ => ?_
  refine an.elimG fun a5 c5 r5 i5 => ?_
  exact ⟨k, Ans.back r5 i5⟩
theorem lawake_spec (h : Hp) : HC gnomonlaw02_awake.id #[] h fun v h' => Keep h h' ∧ v = .bool true := by
  refine gnomonlaw02_awake.ok ?_
  unfold gnomonlaw02_awake.t gnomonlaw02_awake.D1.t
  refine box_intro [18446744073709551615] (by rfl) (by decide) (by decide) fun h1 o1 k1 => ?_
  refine box_intro [18446744073709551615] (by rfl) (by decide) (by decide) fun h2 o2 k2 => ?_
  refine hc_intro (Mul_spec ((o1.rd (c := 1) (by decide)).keep k2) (o2.rd (c := 1) (by decide)) (by rfl) (by rfl)) fun v h3 ⟨k3, an⟩ => ?_
  have e1 : mulS [18446744073709551615] [18446744073709551615] = ([1, 18446744073709551614], 0) := by
    rw [mulS_form (by decide) (by decide)]
    exact Frm.lim (xs := [1, 18446744073709551614]) (by decide) (by unfold Words; decide)
  rw [e1] at an
  refine an.elim fun a c r => ?_
  refine box_intro [0, 1] (by rfl) (by decide) (by decide) fun h4 o4 k4 => ?_
  refine hc_intro (Sqr_spec (o4.rd (c := 2) (by decide)) (by rfl)) fun v h5 ⟨k5, an⟩ => ?_
  have e2 : mulS [0, 1] [0, 1] = ([0, 0, 1], 0) := by
    rw [mulS_form (by decide) (by decide)]
    exact Frm.lim (xs := [0, 0, 1]) (by decide) (by unfold Words; decide)
  rw [e2] at an
  refine an.elim fun a2 c2 r2 => ?_
  refine box_intro [1, 18446744073709551614] (by rfl) (by decide) (by decide) fun h6 o6 k6 => ?_
  refine hc_intro (ltold_spec (((r.keep k4).keep k5).keep k6) (o6.rd (c := 2) (by decide)) (by rfl) (by rfl)) fun v h7 ⟨e7, ev⟩ => ?_
  subst e7; subst ev
  refine gBool_intro rfl ?_
  refine c_bool (fun _ => ?_) fun hh => absurd hh (by simp)
  refine box_intro [0, 0, 1] (by rfl) (by decide) (by decide) fun h8 o8 k8 => ?_
  refine hc_intro (ltold_spec ((r2.keep k6).keep k8) (o8.rd (c := 3) (by decide)) (by rfl) (by rfl)) fun v h9 ⟨e9, ev⟩ => ?_
  subst e9; subst ev
  refine gBool_intro rfl ?_
  exact ⟨k1.trans (k2.trans (k3.trans (k4.trans (k5.trans (k6.trans k8))))), by simp⟩
theorem lnorm_spec {a : Option Addr} {c l : Nat} {xs : List Nat} {h : Hp} (r : Rd h a c xs) (hl : l = xs.length) :
    HC gnomonlaw02_norm.id #[.slice a l c] h fun v h' => Keep h h' ∧ ∃ a' c', v = .tuple #[.slice a' (lim (val xs)).1.length c', .bool (decide ((lim (val xs)).2 = 0))] ∧ Rd h' a' c' (lim (val xs)).1 := by
  refine gnomonlaw02_norm.ok ?_
  unfold gnomonlaw02_norm.t gnomonlaw02_norm.D1.t
  refine hc_intro (Twin_spec r hl) fun v h1 ⟨k1, an⟩ => ?_
  refine an.elim fun a1 c1 r1 => ?_
  refine hc_intro (Norm_spec r1 rfl) fun v h2 ⟨k2, an⟩ => ?_
  refine an.elim fun a2 c2 r2 => ?_
  refine ⟨k1.trans k2, a2, c2, ?_, r2⟩
  congr 4
theorem groups_spec {a b d : Option Addr} {c1 c2 c3 l1 l2 l3 X Y Z : Nat} {h : Hp} (rx : Rd h a c1 (digs X)) (ry : Rd h b c2 (digs Y)) (rz : Rd h d c3 (digs Z)) (h1 : l1 = (digs X).length) (h2 : l2 = (digs Y).length) (h3 : l3 = (digs Z).length) (fx : Frm (digs X)) (fy : Frm (digs Y)) (fz : Frm (digs Z)) :
    HC gnomonlaw02_groups.id #[.slice a l1 c1, .slice b l2 c2, .slice d l3 c3] h fun v h' => Keep h h' ∧ v = .bool true := by
  refine gnomonlaw02_groups.ok ?_
  unfold gnomonlaw02_groups.t gnomonlaw02_groups.D1.t
  refine hc_intro (Mul_spec rx ry h1 h2) fun v h4 ⟨k4, an⟩ => ?_
  rw [mulS_form fx fy, val_digs, val_digs] at an
  refine an.elim fun a4 c4 r4 => ?_
  refine hc_intro (Mul_spec (ry.keep k4) (rz.keep k4) h2 h3) fun v h5 ⟨k5, an⟩ => ?_
  rw [mulS_form fy fz, val_digs, val_digs] at an
  refine an.elim fun a5 c5 r5 => ?_
  have k05 := k4.trans k5
  have e5 : ∀ {n : Nat}, (lim n).2 ≠ 0 → (lim n).2 = 5 := fun {n} hh => (lim_err n).resolve_left hh
  refine c_ne (fun hh => ?_) fun hh => ?_
  · exact c_eq (fun _ => ⟨k05, rfl⟩) fun h9 => absurd (e5 hh) h9
  refine c_ne (fun hh2 => ?_) fun hh2 => ?_
  · refine c_eq (fun _ => ⟨k05, rfl⟩) fun h9 => ⟨k05, ?_⟩
    rw [e5 hh2]; rfl
  have r4 := r4.keep k5
  rw [lim_ok hh] at r4 ⊢
  rw [lim_ok hh2] at r5 ⊢
  unfold gnomonlaw02_groups.D2.t
  refine hc_intro (Mul_spec r4 (rz.keep k05) rfl h3) fun v h6 ⟨k6, an⟩ => ?_
  rw [mulS_form (form_digs hh) fz, val_digs, val_digs] at an
  refine an.elim fun a6 c6 r6 => ?_
  refine hc_intro (Mul_spec (rx.keep (k05.trans k6)) (r5.keep k6) h1 rfl) fun v h7 ⟨k7, an⟩ => ?_
  rw [mulS_form fx (form_digs hh2), val_digs, val_digs, ← Nat.mul_assoc] at an
  refine an.elim fun a7 c7 r7 => ?_
  refine c_eq (fun _ => ?_) fun h9 => absurd rfl h9
  refine Same_intro (r6.keep k7) r7 rfl rfl ⟨k05.trans (k6.trans k7), ?_⟩
  simp
theorem spreads_spec {a b d : Option Addr} {c1 c2 c3 l1 l2 l3 X Y Z : Nat} {h : Hp} (rx : Rd h a c1 (digs X)) (ry : Rd h b c2 (digs Y)) (rz : Rd h d c3 (digs Z)) (h1 : l1 = (digs X).length) (h2 : l2 = (digs Y).length) (h3 : l3 = (digs Z).length) (fx : Frm (digs X)) (fy : Frm (digs Y)) (fz : Frm (digs Z)) :
    HC gnomonlaw02_spreads.id #[.slice a l1 c1, .slice b l2 c2, .slice d l3 c3] h fun v h' => Keep h h' ∧ v = .bool true := by
  refine gnomonlaw02_spreads.ok ?_
  unfold gnomonlaw02_spreads.t gnomonlaw02_spreads.D1.t
  have e5 : ∀ {n : Nat}, (lim n).2 ≠ 0 → lim n = ([], 5) := fun {n} hh => by
    unfold lim at hh ⊢; split at hh
    · exact absurd rfl hh
    · rename_i hl; rw [if_neg hl]
  refine hc_intro (Add_spec ry rz h2 h3) fun v h4 ⟨k4, an⟩ => ?_
  rw [addS_form fy fz, val_digs, val_digs] at an
  refine an.elim fun a4 c4 r4 => ?_
  refine c_ne (fun hh => ⟨k4, rfl⟩) fun hs => ?_
  rw [lim_ok hs] at r4 ⊢
  refine hc_intro (Mul_spec (rx.keep k4) r4 h1 rfl) fun v h5 ⟨k5, an⟩ => ?_
  rw [mulS_form fx (form_digs hs), val_digs, val_digs] at an
  refine an.elim fun a5 c5 r5 => ?_
  have k05 := k4.trans k5
  refine hc_intro (Mul_spec (rx.keep k05) (ry.keep k05) h1 h2) fun v h6 ⟨k6, an⟩ => ?_
  rw [mulS_form fx fy, val_digs, val_digs] at an
  refine an.elim fun a6 c6 r6 => ?_
  have k06 := k05.trans k6
  refine hc_intro (Mul_spec (rx.keep k06) (rz.keep k06) h1 h3) fun v h7 ⟨k7, an⟩ => ?_
  rw [mulS_form fx fz, val_digs, val_digs] at an
  refine an.elim fun a7 c7 r7 => ?_
  have k07 := k06.trans k7
  have exp : X * (Y + Z) = X * Y + X * Z := Nat.mul_add _ _ _
  refine c_ne (fun hh => ?_) fun hh => ?_
  · have hb : lim (X * (Y + Z)) = ([], 5) := e5 fun h0 => hh (lim_mono (by omega) h0)
    rw [hb]
    exact c_eq (fun _ => ⟨k07, rfl⟩) fun h9 => absurd rfl h9
  refine c_ne (fun hh2 => ?_) fun hh2 => ?_
  · have hb : lim (X * (Y + Z)) = ([], 5) := e5 fun h0 => hh2 (lim_mono (by omega) h0)
    rw [hb]
    exact c_eq (fun _ => ⟨k07, rfl⟩) fun h9 => absurd rfl h9
  have r6 := r6.keep k7
  rw [lim_ok hh] at r6 ⊢
  rw [lim_ok hh2] at r7 ⊢
  unfold gnomonlaw02_spreads.D2.t
  refine hc_intro (Add_spec r6 r7 rfl rfl) fun v h8 ⟨k8, an⟩ => ?_
  rw [addS_form (form_digs hh) (form_digs hh2), val_digs, val_digs, ← exp] at an
  refine an.elim fun a8 c8 r8 => ?_
  refine c_eq (fun _ => ?_) fun h9 => absurd rfl h9
  refine Same_intro (((r5.keep k6).keep k7).keep k8) r8 rfl rfl ⟨k07.trans k8, ?_⟩
  simp
theorem NatmulRing_law {a0 a1 a2 : Option Addr} {c0 c1 c2 l0 l1 l2 : Nat} {xs ys zs : List Nat} {h : Hp} (r0 : Rd h a0 c0 xs) (hl0 : l0 = xs.length) (r1 : Rd h a1 c1 ys) (hl1 : l1 = ys.length) (r2 : Rd h a2 c2 zs) (hl2 : l2 = zs.length) :
    HC gnomonlaw02_NatmulRing.id #[.slice a0 l0 c0, .slice a1 l1 c1, .slice a2 l2 c2] h fun v h' => Keep h h' ∧ v = .bool true := by
  refine gnomonlaw02_NatmulRing.ok ?_
  unfold gnomonlaw02_NatmulRing.t gnomonlaw02_NatmulRing.D1.t
  refine hc_intro (lnorm_spec r0 hl0) fun v h1 ⟨k1, a, c, e, rx⟩ => ?_
  subst e
  refine gTup_intro rfl (uncons_intro (gSlice_intro rfl (uncons_intro (gBool_intro rfl (unnil_intro ?_)))))
  refine hc_intro (lnorm_spec (r1.keep k1) hl1) fun v h2 ⟨k2, b, d, e, ry⟩ => ?_
  subst e
  refine gTup_intro rfl (uncons_intro (gSlice_intro rfl (uncons_intro (gBool_intro rfl (unnil_intro ?_)))))
  have k02 := k1.trans k2
  refine hc_intro (lnorm_spec (r2.keep k02) hl2) fun v h3 ⟨k3, p, q, e, rz⟩ => ?_
  subst e
  refine gTup_intro rfl (uncons_intro (gSlice_intro rfl (uncons_intro (gBool_intro rfl (unnil_intro ?_)))))
  refine hc_intro (lawake_spec _) fun v h4 ⟨k4, e⟩ => ?_
  subst e
  refine gBool_intro rfl ?_
  have k34 := k3.trans k4
  have k04 := k02.trans k34
  refine c_not (fun hh => absurd hh (by simp)) fun _ => ?_
  refine c_not (fun _ => ⟨k04, rfl⟩) fun hx => ?_
  refine c_not (fun _ => ⟨k04, rfl⟩) fun hy => ?_
  refine c_not (fun _ => ⟨k04, rfl⟩) fun hz => ?_
  have hx := of_decide_eq_true hx
  have hy := of_decide_eq_true hy
  have hz := of_decide_eq_true hz
  have fx := form_digs hx
  have fy := form_digs hy
  have fz := form_digs hz
  have ex := lim_ok hx
  have rx := rx.keep (k2.trans k34)
  have ry := ry.keep k34
  have rz := rz.keep k4
  rw [lim_ok hx] at rx ⊢
  rw [lim_ok hy] at ry ⊢
  rw [lim_ok hz] at rz ⊢
  generalize val xs = X at *
  generalize val ys = Y at *
  generalize val zs = Z at *
  unfold gnomonlaw02_NatmulRing.D2.t
  refine box_intro [1] (by rfl) (by decide) (by decide) fun h5 o5 k5 => ?_
  refine hc_intro (Mul_spec (rx.keep k5) (o5.rd (c := 1) (by decide)) rfl (by rfl)) fun v h6 ⟨k6, an⟩ => ?_
  have e1 : mulS (digs X) [1] = (digs X, 0) := by
    rw [mulS_form fx (by decide), val_digs]; simp only [val, Nat.mul_zero, Nat.add_zero, Nat.mul_one]; exact ex
  rw [e1] at an
  refine an.elim fun a6 c6 r6 => ?_
  refine hc_intro (Mul_spec (Rd.nil h6 none 0) ((rx.keep k5).keep k6) (by rfl) rfl) fun v h7 ⟨k7, an⟩ => ?_
  have e2 : mulS [] (digs X) = ([], 0) := by
    rw [mulS_form (by decide) fx]; simp [val, lim, digs_zero]
  rw [e2] at an
  refine an.elim fun a7 c7 r7 => ?_
  refine c_ne (fun hh => absurd rfl hh) fun _ => ?_
  refine c_ne (fun hh => absurd rfl hh) fun _ => ?_
  have k57 := k5.trans (k6.trans k7)
  have rx := rx.keep k57
  have ry := ry.keep k57
  have rz := rz.keep k57
  refine Same_intro (r6.keep k7) rx rfl rfl ?_
  refine c_not (fun hh => absurd hh (by simp)) fun _ => ?_
  refine c_ne (fun hh => absurd rfl hh) fun _ => ?_
  unfold gnomonlaw02_NatmulRing.D3.t
  refine hc_intro (Mul_spec rx ry rfl rfl) fun v h8 ⟨k8, an⟩ => ?_
  rw [mulS_form fx fy, val_digs, val_digs] at an
  refine an.elim fun a8 c8 r8 => ?_
  refine hc_intro (Mul_spec (ry.keep k8) (rx.keep k8) rfl rfl) fun v h9 ⟨k9, an⟩ => ?_
  rw [mulS_form fy fx, val_digs, val_digs, Nat.mul_comm Y X] at an
  refine an.elim fun a9 c9 r9 => ?_
  refine c_ne (fun hh => absurd rfl hh) fun _ => ?_
  refine Same_intro (r8.keep k9) r9 rfl rfl ?_
  refine c_not (fun hh => absurd hh (by simp)) fun _ => ?_
  have k89 := k8.trans k9
  have rx := rx.keep k89
  have ry := ry.keep k89
  have rz := rz.keep k89
  unfold gnomonlaw02_NatmulRing.D4.t
  refine hc_intro (groups_spec rx ry rz rfl rfl rfl fx fy fz) fun v h10 ⟨k10, e⟩ => ?_
  subst e
  refine gBool_intro rfl ?_
  refine c_bool (fun _ => ?_) fun hh => absurd hh (by simp)
  refine hc_intro (spreads_spec (rx.keep k10) (ry.keep k10) (rz.keep k10) rfl rfl rfl fx fy fz) fun v h11 ⟨k11, e⟩ => ?_
  subst e
  exact gBool_intro rfl ⟨k04.trans (k57.trans (k89.trans (k10.trans k11))), rfl⟩
end Go.Proofs.Ytidpnpcnjfbjfaa.G
