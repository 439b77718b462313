/- The law NatRing of the translation answers true. -/
import Derived.Test.YtnbpbojcjihboaaNatSpec3
namespace Go.Proofs.Ytnbpbojcjihboaa.G
open Go.Gv
theorem digs_len {n k : Nat} : (digs n).length ≤ k ↔ n < 2 ^ (64 * k) := by
  constructor
  · intro h
    have := val_lt (digs_words n)
    rw [val_digs] at this
    exact Nat.lt_of_lt_of_le this (Nat.pow_le_pow_right (by decide) (by omega))
  · intro h
    induction k generalizing n with
    | zero => have : n = 0 := by simpa using h
              subst this; rw [digs_zero]; simp
    | succ k ih =>
      by_cases h0 : n = 0
      · subst h0; rw [digs_zero]; simp
      · rw [digs_pos h0, List.length_cons]
        have e : 2 ^ (64 * (k + 1)) = 2 ^ (64 * k) * 18446744073709551616 := by
          rw [show 64 * (k + 1) = 64 * k + 64 by omega, Nat.pow_add]
        rw [e] at h
        have := ih (n := n / 18446744073709551616) (Nat.div_lt_of_lt_mul (by rw [Nat.mul_comm]; exact h))
        omega
theorem digs_add_len {X Y k : Nat} (hX : (digs X).length ≤ k) (hY : (digs Y).length ≤ k) : (digs (X + Y)).length ≤ k + 1 := by
  refine digs_len.mpr ?_
  have h1 := digs_len.mp hX
  have h2 := digs_len.mp hY
  have e : 2 ^ (64 * (k + 1)) = 2 ^ (64 * k) * 18446744073709551616 := by
    rw [show 64 * (k + 1) = 64 * k + 64 by omega, Nat.pow_add]
  rw [e]; generalize 2 ^ (64 * k) = p at *; omega
theorem addS_form {xs ys : List Nat} (fx : Frm xs) (fy : Frm ys) : addS xs ys = lim (val xs + val ys) := if_pos ⟨fx, fy⟩
theorem subS_form {xs ys : List Nat} (fx : Frm xs) (fy : Frm ys) (h : val ys ≤ val xs) : subS xs ys = lim (val xs - val ys) := by
  unfold subS; rw [if_pos ⟨fx, fy⟩, if_neg (by omega)]
theorem awake_spec (h : Hp) : HC gnomonlaw01_awake.id #[] h fun v h' => Keep h h' ∧ v = .bool true := by
  refine gnomonlaw01_awake.ok ?_
  unfold gnomonlaw01_awake.t gnomonlaw01_awake.D1.t
  refine box_intro [18446744073709551615] (by rfl) (by decide) (by decide) fun h1 o1 k1 => ?_
  refine box_intro [1] (by rfl) (by decide) (by decide) fun h2 o2 k2 => ?_
  have k12 := k1.trans k2
  refine hc_intro (Add_spec ((o1.rd (c := 1) (by decide)).keep k2) (o2.rd (c := 1) (by decide)) (by rfl) (by rfl)) fun v h3 ⟨k3, an⟩ => ?_
  have e1 : addS [18446744073709551615] [1] = ([0, 1], 0) := by
    rw [addS_form (by decide) (by decide)]
    exact Frm.lim (xs := [0, 1]) (by decide) (by unfold Words; decide)
  rw [e1] at an
  refine an.elim fun a c r => ?_
  refine c_ne (fun hh => absurd rfl hh) fun _ => ?_
  refine box_intro [0, 1] (by rfl) (by decide) (by decide) fun h4 o4 k4 => ?_
  refine Same_intro (r.keep k4) (o4.rd (c := 2) (by decide)) (by rfl) (by rfl) ?_
  refine c_not (fun hh => absurd hh (by simp)) fun _ => ?_
  unfold gnomonlaw01_awake.D2.t
  refine box_intro [1] (by rfl) (by decide) (by decide) fun h5 o5 k5 => ?_
  have k15 := k12.trans (k3.trans (k4.trans k5))
  refine hc_intro (Sub_spec ((r.keep k4).keep k5) (o5.rd (c := 1) (by decide)) (by rfl) (by rfl)) fun v h6 ⟨k6, an⟩ => ?_
  have e2 : subS [0, 1] [1] = ([18446744073709551615], 0) := by
    rw [subS_form (by decide) (by decide) (by decide)]
    exact Frm.lim (xs := [18446744073709551615]) (by decide) (by unfold Words; decide)
  rw [e2] at an
  refine an.elim fun a c r => ?_
  refine c_ne (fun hh => absurd rfl hh) fun _ => ?_
  refine box_intro [18446744073709551615] (by rfl) (by decide) (by decide) fun h7 o7 k7 => ?_
  refine Same_intro (r.keep k7) (o7.rd (c := 1) (by decide)) (by rfl) (by rfl) ?_
  refine c_not (fun hh => absurd hh (by simp)) fun _ => ?_
  unfold gnomonlaw01_awake.D3.t
  refine box_intro [0, 1] (by rfl) (by decide) (by decide) fun h8 o8 k8 => ?_
  refine hc_intro (Bits_spec (o8.rd (c := 2) (by decide)) (by rfl)) fun v h9 ⟨e9, ev⟩ => ?_
  subst e9; subst ev
  refine gInt_intro rfl ?_
  have hb : blen (val [0, 1]) = 65 := by decide
  rw [hb]
  refine c_eq (fun _ => ?_) fun hh => absurd rfl hh
  refine box_intro [2] (by rfl) (by decide) (by decide) fun h10 o10 k10 => ?_
  refine box_intro [1] (by rfl) (by decide) (by decide) fun h11 o11 k11 => ?_
  refine hc_intro (Cmp_spec ((o10.rd (c := 1) (by decide)).keep k11) (o11.rd (c := 1) (by decide)) (by rfl) (by rfl)) fun v h12 ⟨e12, ev⟩ => ?_
  subst e12; subst ev
  refine gInt_intro rfl ?_
  exact ⟨k15.trans (k6.trans (k7.trans (k8.trans (k10.trans k11)))), rfl⟩
theorem norms_spec {a b : Option Addr} {c d l m : Nat} {xs ys : List Nat} {h : Hp} (r : Rd h a c xs) (s : Rd h b d ys) (hl : l = xs.length) (hm : m = ys.length) :
    HC gnomonlaw01_norms.id #[.slice a l c, .slice b m d] h fun v h' => Keep h h' ∧ ∃ a' c' b' d', v = .tuple #[.slice a' (lim (val xs)).1.length c', .slice b' (lim (val ys)).1.length d', .bool (decide ((lim (val xs)).2 = 0 ∧ (lim (val ys)).2 = 0))] ∧ Rd h' a' c' (lim (val xs)).1 ∧ Rd h' b' d' (lim (val ys)).1 := by
  refine gnomonlaw01_norms.ok ?_
  unfold gnomonlaw01_norms.t gnomonlaw01_norms.D1.t
  refine hc_intro (Twin_spec r hl) fun v h1 ⟨k1, an⟩ => ?_
  refine an.elim fun a1 c1 r1 => ?_
  refine hc_intro (Norm_spec r1 rfl) fun v h2 ⟨k2, an⟩ => ?_
  refine an.elim fun a2 c2 r2 => ?_
  have k02 := k1.trans k2
  refine hc_intro (Twin_spec (s.keep k02) hm) fun v h3 ⟨k3, an⟩ => ?_
  refine an.elim fun b1 d1 s1 => ?_
  refine hc_intro (Norm_spec s1 rfl) fun v h4 ⟨k4, an⟩ => ?_
  refine an.elim fun b2 d2 s2 => ?_
  have k24 := k3.trans k4
  refine c_eq (fun he => ⟨k02.trans k24, a2, c2, b2, d2, ?_, r2.keep k24, s2⟩) fun he => ⟨k02.trans k24, a2, c2, b2, d2, ?_, r2.keep k24, s2⟩
  · by_cases hy : (lim (val ys)).2 = 0
    · simp [he, hy]
    · simp [he, hy]
  · simp [he]
theorem NatRing_law {a0 a1 a2 : Option Addr} {c0 c1 c2 l0 l1 l2 : Nat} {xs ys zs : List Nat} {h : Hp} (r0 : Rd h a0 c0 xs) (hl0 : l0 = xs.length) (r1 : Rd h a1 c1 ys) (hl1 : l1 = ys.length) (r2 : Rd h a2 c2 zs) (hl2 : l2 = zs.length) :
    HC gnomonlaw01_NatRing.id #[.slice a0 l0 c0, .slice a1 l1 c1, .slice a2 l2 c2] h fun v h' => Keep h h' ∧ v = .bool true := by
  refine gnomonlaw01_NatRing.ok ?_
  unfold gnomonlaw01_NatRing.t gnomonlaw01_NatRing.D1.t
  refine hc_intro (awake_spec h) fun v h1 ⟨k1, e⟩ => ?_
  subst e
  refine gBool_intro rfl ?_
  refine c_not (fun hh => absurd hh (by simp)) fun _ => ?_
  refine hc_intro (norms_spec (r0.keep k1) (r1.keep k1) hl0 hl1) fun v h2 ⟨k2, a, c, b, d, e, ra, rb⟩ => ?_
  subst e
  refine gTup_intro rfl (uncons_intro (gSlice_intro rfl (uncons_intro (gSlice_intro rfl (uncons_intro (gBool_intro rfl (unnil_intro ?_)))))))
  have k02 := k1.trans k2
  refine hc_intro (Twin_spec (r2.keep k02) hl2) fun v h3 ⟨k3, an⟩ => ?_
  refine an.elim fun a3 c3 r3 => ?_
  refine hc_intro (Norm_spec r3 rfl) fun v h4 ⟨k4, an⟩ => ?_
  refine an.elim fun az cz rz => ?_
  have k24 := k3.trans k4
  have k04 := k02.trans k24
  refine c_not (fun _ => ⟨k04, rfl⟩) fun hxy => ?_
  obtain ⟨hx, hy⟩ := of_decide_eq_true hxy
  refine c_ne (fun _ => ⟨k04, rfl⟩) fun hz => ?_
  have ra := ra.keep k24
  have rb := rb.keep k24
  have fx := form_digs hx
  have fy := form_digs hy
  have fz := form_digs hz
  have vx := val_digs (val xs)
  have vy := val_digs (val ys)
  have vz := val_digs (val zs)
  have ex := lim_ok hx
  rw [lim_ok hx] at ra ⊢
  rw [lim_ok hy] at rb ⊢
  rw [lim_ok hz] at rz ⊢
  -- the numbers
  generalize val xs = X at *
  generalize val ys = Y at *
  generalize val zs = Z at *
  unfold gnomonlaw01_NatRing.D2.t
  refine hc_intro (Add_spec ra (Rd.nil h4 none 0) rfl rfl) fun v h5 ⟨k5, an⟩ => ?_
  have e5 : addS (digs X) [] = (digs X, 0) := by
    rw [addS_form fx (by decide)]; simp only [val, Nat.add_zero, vx]; exact ex
  rw [e5] at an
  refine an.elim fun a5 c5 r5 => ?_
  refine c_ne (fun hh => absurd rfl hh) fun _ => ?_
  refine Same_intro r5 (ra.keep k5) rfl rfl ?_
  refine c_not (fun hh => absurd hh (by simp)) fun _ => ?_
  unfold gnomonlaw01_NatRing.D3.t
  have ra := ra.keep k5
  have rb := rb.keep k5
  have rz := rz.keep k5
  refine hc_intro (Add_spec ra rb rfl rfl) fun v h6 ⟨k6, an⟩ => ?_
  rw [addS_form fx fy, vx, vy] at an
  refine an.elim fun a6 c6 r6 => ?_
  refine hc_intro (Add_spec (rb.keep k6) (ra.keep k6) rfl rfl) fun v h7 ⟨k7, an⟩ => ?_
  rw [addS_form fy fx, vx, vy, Nat.add_comm Y X] at an
  refine an.elim fun a7 c7 r7 => ?_
  refine c_ne (fun hh => absurd rfl hh) fun _ => ?_
  refine Same_intro (r6.keep k7) r7 rfl rfl ?_
  refine c_not (fun hh => absurd hh (by simp)) fun _ => ?_
  unfold gnomonlaw01_NatRing.D4.t
  have k67 := k6.trans k7
  have k07 := k04.trans (k5.trans k67)
  have ra := ra.keep k67
  have rb := rb.keep k67
  have rz := rz.keep k67
  have r6 := r6.keep k7
  refine c_ne (fun hs => ?_) fun hs => ?_
  · have h5 : (lim (X + Y)).2 = 5 := by rcases lim_err (X + Y) with e | e
                                        · exact absurd e hs
                                        · exact e
    refine c_eq (fun _ => ⟨k07, ?_⟩) fun hh => absurd h5 hh
    have hlen : ¬ (digs (X + Y)).length ≤ 8192 := fun hh => by
      unfold lim at h5; rw [if_pos hh] at h5; simp at h5
    have hX := fx.1
    have hY := fy.1
    have big : (digs X).length = 8192 ∨ (digs Y).length = 8192 := by
      exact Classical.byContradiction fun hh => hlen (digs_add_len (k := 8191) (by omega) (by omega))
    have em : (if (((digs Y).length : Nat) : Int) > (((digs X).length : Nat) : Int) then (((digs Y).length : Nat) : Int) else (((digs X).length : Nat) : Int)) = 8192 := by
      split <;> omega
    simp only [em]; rfl
  · have es := lim_ok hs
    have fs := form_digs hs
    rw [es] at r6 ⊢
    refine hc_intro (Sub_spec r6 rb rfl rfl) fun v h8 ⟨k8, an⟩ => ?_
    rw [subS_form fs fy (by show val (digs Y) ≤ val (digs (X + Y)); rw [val_digs, val_digs]; omega), val_digs, vy, Nat.add_sub_cancel, ex] at an
    refine an.elim fun a8 c8 r8 => ?_
    refine c_ne (fun hh => absurd rfl hh) fun _ => ?_
    refine Same_intro r8 (ra.keep k8) rfl rfl ?_
    refine c_not (fun hh => absurd hh (by simp)) fun _ => ?_
    unfold gnomonlaw01_NatRing.D5.t
    have ra := ra.keep k8
    have rb := rb.keep k8
    have rz := rz.keep k8
    have r6 := r6.keep k8
    refine hc_intro (Add_spec r6 rz rfl rfl) fun v h9 ⟨k9, an⟩ => ?_
    rw [addS_form fs fz, val_digs, vz] at an
    refine an.elim fun a9 c9 r9 => ?_
    refine hc_intro (Add_spec (rb.keep k9) (rz.keep k9) rfl rfl) fun v h10 ⟨k10, an⟩ => ?_
    rw [addS_form fy fz, vy, vz] at an
    refine an.elim fun a10 c10 r10 => ?_
    have k010 := k07.trans (k8.trans (k9.trans k10))
    refine c_ne (fun hu => ⟨k010, ?_⟩) fun hu => ?_
    · have : (lim (X + Y + Z)).2 = 5 := by
        rcases lim_err (X + Y + Z) with e | e
        · exact absurd (lim_mono (by omega) e) hu
        · exact e
      simp only [this]; rfl
    · have fu := form_digs hu
      rw [lim_ok hu] at r10 ⊢
      refine hc_intro (Add_spec ((ra.keep k9).keep k10) r10 rfl rfl) fun v h11 ⟨k11, an⟩ => ?_
      rw [addS_form fx fu, vx, val_digs, ← Nat.add_assoc] at an
      refine an.elim fun a11 c11 r11 => ?_
      refine c_eq (fun _ => ?_) fun hh => absurd rfl hh
      refine Same_intro ((r9.keep k10).keep k11) r11 rfl rfl ⟨k010.trans k11, ?_⟩
      simp
end Go.Proofs.Ytnbpbojcjihboaa.G
