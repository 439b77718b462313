/- The law NatmulJoins of the translation answers true. -/
import Derived.Test.YtidpnpcnjfbjfaaMulJoins
namespace Go.Proofs.Ytidpnpcnjfbjfaa.G
open Go.Gv
set_option maxRecDepth 100000
theorem lo_le (X k : Nat) : lo X k ≤ X := Nat.mod_le _ _
theorem hi_le (X k : Nat) : hi X k ≤ X := Nat.div_le_self _ _
theorem sum_le (X k : Nat) : lo X k + hi X k ≤ X := by
  have h1 := lo_hi X k
  have h2 : 1 * hi X k ≤ 2 ^ (64 * k) * hi X k := Nat.mul_le_mul_right _ (Nat.pow_pos (by decide))
  omega
theorem lowS_ok {X k : Nat} {n : Int} (fx : Frm (digs X)) (hx : (lim X).2 = 0) (hn : n = ((64 * k : Nat) : Int)) : lowS (digs X) n = (digs (lo X k), 0) := by
  subst hn
  unfold lowS; rw [if_neg (by omega), if_pos fx, val_digs, Int.toNat_natCast]
  exact lim_le (lo_le X k) hx
theorem shrS_ok {X k : Nat} {n : Int} (fx : Frm (digs X)) (hx : (lim X).2 = 0) (hn : n = ((64 * k : Nat) : Int)) : shrS (digs X) n = (digs (hi X k), 0) := by
  subst hn
  unfold shrS; rw [if_neg (by omega), if_pos fx, val_digs, Int.toNat_natCast]
  exact lim_le (hi_le X k) hx
theorem shlS_ok {X k : Nat} {n : Int} (hx : (lim (X * 2 ^ (64 * k))).2 = 0) (hn : n = ((64 * k : Nat) : Int)) : shlS (digs X) n = (digs (X * 2 ^ (64 * k)), 0) := by
  subst hn
  have hle : X ≤ X * 2 ^ (64 * k) := Nat.le_mul_of_pos_right _ (Nat.pow_pos (by decide))
  unfold shlS; rw [if_neg (by omega), if_pos (form_digs (lim_mono hle hx)), val_digs, Int.toNat_natCast]
  exact lim_ok hx
theorem crossed_spec {a b a3 a4 a5 : Option Addr} {c1 c2 c3 c4 c5 l1 l2 l3 l4 l5 X Y L M H k : Nat} {h : Hp} (rx : Rd h a c1 (digs X)) (ry : Rd h b c2 (digs Y)) (rl : Rd h a3 c3 (digs L)) (rm : Rd h a4 c4 (digs M)) (rh : Rd h a5 c5 (digs H))
    (h1 : l1 = (digs X).length) (h2 : l2 = (digs Y).length) (h3 : l3 = (digs L).length) (h4 : l4 = (digs M).length) (h5 : l5 = (digs H).length) (hx : (lim X).2 = 0) (hy : (lim Y).2 = 0) (hxy : (lim (X * Y)).2 = 0) (hk : k ≤ 8192)
    (hL : L = lo X k * lo Y k) (hH : H = hi X k * hi Y k) (hM : M = lo X k * hi Y k + hi X k * lo Y k) :
    HC gnomonlaw02_crossed.id #[.slice a l1 c1, .slice b l2 c2, .int .i64 (k : Int), .slice a3 l3 c3, .slice a4 l4 c4, .slice a5 l5 c5] h fun v h' => Keep h h' ∧ v = .bool true := by
  have fx := form_digs hx
  have fy := form_digs hy
  have km := kara (lo_hi X k) (lo_hi Y k)
  rw [← hL, ← hM, ← hH] at km
  have hsx := sum_le X k
  have hsy := sum_le Y k
  have hle : L + M + H ≤ X * Y := by rw [← km.1]; exact Nat.mul_le_mul hsx hsy
  refine gnomonlaw02_crossed.ok ?_
  unfold gnomonlaw02_crossed.t gnomonlaw02_crossed.D1.t
  refine k_i64 ((64 * k : Nat) : Int) (by omega) (by omega) (by omega) ?_
  refine hc_intro (Low_spec rx h1 (by omega)) fun v i1 ⟨k1, an⟩ => ?_
  rw [lowS_ok fx hx rfl] at an
  refine an.elim fun p1 q1 r1 => ?_
  refine k_i64 ((64 * k : Nat) : Int) (by omega) (by omega) (by omega) ?_
  refine hc_intro (Shr_spec (rx.keep k1) h1 (by omega)) fun v i2 ⟨k2, an⟩ => ?_
  rw [shrS_ok fx hx rfl] at an
  refine an.elim fun p2 q2 r2 => ?_
  refine k_i64 ((64 * k : Nat) : Int) (by omega) (by omega) (by omega) ?_
  have k12 := k1.trans k2
  refine hc_intro (Low_spec (ry.keep k12) h2 (by omega)) fun v i3 ⟨k3, an⟩ => ?_
  rw [lowS_ok fy hy rfl] at an
  refine an.elim fun p3 q3 r3 => ?_
  refine k_i64 ((64 * k : Nat) : Int) (by omega) (by omega) (by omega) ?_
  have k13 := k12.trans k3
  refine hc_intro (Shr_spec (ry.keep k13) h2 (by omega)) fun v i4 ⟨k4, an⟩ => ?_
  rw [shrS_ok fy hy rfl] at an
  refine an.elim fun p4 q4 r4 => ?_
  refine c_ne (fun hh => absurd rfl hh) fun _ => ?_
  refine c_ne (fun hh => absurd rfl hh) fun _ => ?_
  refine c_ne (fun hh => absurd rfl hh) fun _ => ?_
  refine c_ne (fun hh => absurd rfl hh) fun _ => ?_
  have k14 := k13.trans k4
  unfold gnomonlaw02_crossed.D2.t
  have hsxl : (lim (lo X k + hi X k)).2 = 0 := lim_mono hsx hx
  have hsyl : (lim (lo Y k + hi Y k)).2 = 0 := lim_mono hsy hy
  refine hc_intro (plus_spec (((r1.keep k2).keep k3).keep k4) ((r2.keep k3).keep k4) rfl rfl hsxl) fun v i5 ⟨k5, an⟩ => ?_
  refine an.elim fun p5 q5 r5 => ?_
  refine hc_intro (plus_spec ((r3.keep k4).keep k5) (r4.keep k5) rfl rfl hsyl) fun v i6 ⟨k6, an⟩ => ?_
  refine an.elim fun p6 q6 r6 => ?_
  refine hc_intro (Mul_spec (r5.keep k6) r6 rfl rfl) fun v i7 ⟨k7, an⟩ => ?_
  have hl : (lim (L + M + H)).2 = 0 := lim_mono hle hxy
  rw [mulS_form (form_digs hsxl) (form_digs hsyl), val_digs, val_digs, km.1, lim_ok hl] at an
  refine an.elim fun p7 q7 r7 => ?_
  refine c_eq (fun _ => ?_) fun hh => absurd rfl hh
  have k17 := k14.trans (k5.trans (k6.trans k7))
  refine hc_intro (plus_spec (rl.keep k17) (rm.keep k17) h3 h4 (lim_mono (by omega) hl)) fun v i8 ⟨k8, an⟩ => ?_
  refine an.elim fun p8 q8 r8 => ?_
  refine hc_intro (plus_spec r8 (rh.keep (k17.trans k8)) rfl h5 hl) fun v i9 ⟨k9, an⟩ => ?_
  refine an.elim fun p9 q9 r9 => ?_
  refine Same_intro ((r7.keep k8).keep k9) r9 rfl rfl ⟨k17.trans (k8.trans k9), ?_⟩
  simp
theorem NatmulJoins_law {a0 a1 : Option Addr} {c0 c1 l0 l1 : Nat} {xs ys : List Nat} {n : Int} {h : Hp} (r0 : Rd h a0 c0 xs) (hl0 : l0 = xs.length) (r1 : Rd h a1 c1 ys) (hl1 : l1 = ys.length) (hn : -9223372036854775808 ≤ n ∧ n < 9223372036854775808) :
    HC gnomonlaw02_NatmulJoins.id #[.slice a0 l0 c0, .slice a1 l1 c1, .int .i64 n] h fun v h' => Keep h h' ∧ v = .bool true := by
  refine gnomonlaw02_NatmulJoins.ok ?_
  unfold gnomonlaw02_NatmulJoins.t gnomonlaw02_NatmulJoins.D1.t
  refine hc_intro (lnorm_spec r0 hl0) fun v h1 ⟨k1, a, c, e, rx⟩ => ?_
  subst e
  refine gTup_intro rfl (uncons_intro (gSlice_intro rfl (uncons_intro (gBool_intro rfl (unnil_intro ?_)))))
  refine hc_intro (lnorm_spec (r1.keep k1) hl1) fun v h2 ⟨k2, b, d, e, ry⟩ => ?_
  subst e
  refine gTup_intro rfl (uncons_intro (gSlice_intro rfl (uncons_intro (gBool_intro rfl (unnil_intro ?_)))))
  refine box_intro [1, 2, 3] (by rfl) (by decide) (by decide) fun h3 o3 k3 => ?_
  refine box_intro [4, 5] (by rfl) (by decide) (by decide) fun h4 o4 k4 => ?_
  refine hc_intro (Parts_spec (k := 1) (L := 4) (M := val [13, 12]) (H := val [10, 15]) ((o3.rd (c := 3) (by decide)).keep k4) (o4.rd (c := 2) (by decide)) (by rfl) (by rfl) (by decide) (by decide) (by decide) (by decide) (by decide) (by decide) (by decide)) fun v h5 ⟨k5, an⟩ => ?_
  have d4 : digs 4 = [4] := Frm.digs (xs := [4]) (by decide) (by unfold Words; decide)
  have dm : digs (val [13, 12]) = [13, 12] := Frm.digs (xs := [13, 12]) (by decide) (by unfold Words; decide)
  have dh : digs (val [10, 15]) = [10, 15] := Frm.digs (xs := [10, 15]) (by decide) (by unfold Words; decide)
  have lims : (lim 4).2 = 0 ∧ (lim (val [13, 12])).2 = 0 ∧ (lim (val [10, 15])).2 = 0 := by
    unfold lim; rw [d4, dm, dh]; exact ⟨rfl, rfl, rfl⟩
  rcases an with ⟨_, _, _, an⟩ | ⟨hno, _⟩
  case inr => exact absurd lims hno
  rw [d4, dm, dh] at an
  refine an.elim fun p1 p2 p3 q1 q2 q3 s1 s2 s3 => ?_
  refine c_ne (fun hh => absurd rfl hh) fun _ => ?_
  refine box_intro [4] (by rfl) (by decide) (by decide) fun h6 o6 k6 => ?_
  refine Same_intro (s1.keep k6) (o6.rd (c := 1) (by decide)) (by rfl) (by rfl) ?_
  refine c_not (fun hh => absurd hh (by simp)) fun _ => ?_
  refine box_intro [13, 12] (by rfl) (by decide) (by decide) fun h7 o7 k7 => ?_
  refine Same_intro ((s2.keep k6).keep k7) (o7.rd (c := 2) (by decide)) (by rfl) (by rfl) ?_
  refine c_not (fun hh => absurd hh (by simp)) fun _ => ?_
  refine box_intro [10, 15] (by rfl) (by decide) (by decide) fun h8 o8 k8 => ?_
  refine Same_intro (((s3.keep k6).keep k7).keep k8) (o8.rd (c := 2) (by decide)) (by rfl) (by rfl) ?_
  refine c_not (fun hh => absurd hh (by simp)) fun _ => ?_
  refine hc_intro (lawake_spec _) fun v h9 ⟨k9, e⟩ => ?_
  subst e
  refine gBool_intro rfl ?_
  refine c_not (fun hh => absurd hh (by simp)) fun _ => ?_
  have k29 := k3.trans (k4.trans (k5.trans (k6.trans (k7.trans (k8.trans k9)))))
  have k09 := k1.trans (k2.trans k29)
  unfold gnomonlaw02_NatmulJoins.D2.t
  refine c_not (fun _ => ⟨k09, rfl⟩) fun hx => ?_
  refine c_not (fun _ => ⟨k09, rfl⟩) fun hy => ?_
  have hx := of_decide_eq_true hx
  have hy := of_decide_eq_true hy
  have fx := form_digs hx
  have fy := form_digs hy
  have rx := rx.keep (k2.trans k29)
  have ry := ry.keep k29
  rw [lim_ok hx] at rx ⊢
  rw [lim_ok hy] at ry ⊢
  generalize val xs = X at *
  generalize val ys = Y at *
  unfold gnomonlaw02_NatmulJoins.D3.t
  by_cases hk : n < 1 ∨ n > 8192
  · refine hc_intro (Parts_bad hk) fun v h10 ⟨e10, an⟩ => ?_
    subst e10
    refine an.elim fun p1 p2 p3 q1 q2 q3 s1 s2 s3 => ?_
    have fin : cond ((1 : Int) == 1) (cond ((((([] : List Nat).length : Nat) : Int)) == 0) (cond ((((([] : List Nat).length : Nat) : Int)) == 0) ((fun v h' => Keep h h' ∧ v = Value.bool true) (.bool ((((([] : List Nat).length : Nat) : Int)) == 0)) h10) ((fun v h' => Keep h h' ∧ v = Value.bool true) (.bool false) h10)) ((fun v h' => Keep h h' ∧ v = Value.bool true) (.bool false) h10)) ((fun v h' => Keep h h' ∧ v = Value.bool true) (.bool false) h10) := ⟨k09, rfl⟩
    refine c_dec (fun _ => fin) fun hh1 => ?_
    refine c_dec (fun _ => fin) fun hh2 => absurd hk (by omega)
  · obtain ⟨k, rfl⟩ : ∃ k : Nat, n = (k : Int) := ⟨n.toNat, by omega⟩
    refine hc_intro (Parts_spec (k := k) rx ry rfl rfl fx fy (by omega) (by omega) rfl rfl rfl) fun v h10 ⟨k10, an⟩ => ?_
    rw [val_digs, val_digs] at an
    obtain ⟨L, hL⟩ : ∃ L, L = lo X k * lo Y k := ⟨_, rfl⟩
    obtain ⟨H, hH⟩ : ∃ H, H = hi X k * hi Y k := ⟨_, rfl⟩
    obtain ⟨M, hM⟩ : ∃ M, M = lo X k * hi Y k + hi X k * lo Y k := ⟨_, rfl⟩
    have km := kara (lo_hi X k) (lo_hi Y k)
    rw [← hL, ← hM, ← hH] at km
    rw [← hL, ← hM, ← hH] at an
    have k010 := k09.trans k10
    have rx := rx.keep k10
    have ry := ry.keep k10
    have hW : 1 ≤ 2 ^ (64 * k) := Nat.pow_pos (by decide)
    have hMW : M ≤ M * 2 ^ (64 * k) := Nat.le_mul_of_pos_right _ hW
    have hHW : H * 2 ^ (64 * k) ≤ H * (2 ^ (64 * k) * 2 ^ (64 * k)) := Nat.mul_le_mul_left _ (Nat.le_mul_of_pos_right _ hW)
    have hHH : H ≤ H * 2 ^ (64 * k) := Nat.le_mul_of_pos_right _ hW
    rcases an with ⟨oL, oM, oH, an⟩ | ⟨hno, an⟩
    · refine an.elim fun p1 p2 p3 q1 q2 q3 s1 s2 s3 => ?_
      refine c_dec (fun hh => absurd hh (by omega)) fun _ => ?_
      refine c_dec (fun hh => absurd hh (by omega)) fun _ => ?_
      unfold gnomonlaw02_NatmulJoins.D4.t
      refine hc_intro (Mul_spec rx ry rfl rfl) fun v h11 ⟨k11, an⟩ => ?_
      rw [mulS_form fx fy, val_digs, val_digs] at an
      refine an.elim fun pp qp rp => ?_
      have k011 := k010.trans k11
      refine c_ne (fun _ => c_eq (fun _ => ⟨k011, rfl⟩) fun hh => absurd rfl hh) fun hp => ?_
      refine c_ne (fun hh => absurd rfl hh) fun _ => ?_
      rw [lim_ok hp] at rp ⊢
      refine hc_intro (Bits_spec (s1.keep k11) rfl) fun v h12 ⟨e12, ev⟩ => ?_
      subst e12; subst ev
      refine gInt_intro rfl ?_
      rw [val_digs]
      have hWW : 2 ^ (64 * k) * 2 ^ (64 * k) = 2 ^ (128 * k) := by rw [← Nat.pow_add, show 64 * k + 64 * k = 128 * k by omega]
      have hbl : blen L ≤ 128 * k := by
        rw [blen_le, ← hWW, hL]
        exact Nat.mul_lt_mul'' (Nat.mod_lt _ hW) (Nat.mod_lt _ hW)
      refine k_i64 ((128 * k : Nat) : Int) (by omega) (by omega) (by omega) ?_
      refine c_dec (fun hh => absurd hh (by omega)) fun _ => ?_
      unfold gnomonlaw02_NatmulJoins.D5.t
      have s1 := s1.keep k11
      have s2 := s2.keep k11
      have s3 := s3.keep k11
      have rx := rx.keep k11
      have ry := ry.keep k11
      have tot := km.2
      have oMW : (lim (M * 2 ^ (64 * k))).2 = 0 := lim_mono (by omega) hp
      have oHW : (lim (H * 2 ^ (64 * k))).2 = 0 := lim_mono (by omega) hp
      have oHWW : (lim (H * 2 ^ (64 * k) * 2 ^ (64 * k))).2 = 0 := lim_mono (by rw [Nat.mul_assoc]; omega) hp
      refine k_i64 ((64 * k : Nat) : Int) (by omega) (by omega) (by omega) ?_
      refine hc_intro (Shl_spec s2 rfl (by omega)) fun v h13 ⟨k13, an⟩ => ?_
      rw [shlS_ok oMW rfl] at an
      refine an.elim fun pm qm tm => ?_
      refine k_i64 ((64 * k : Nat) : Int) (by omega) (by omega) (by omega) ?_
      refine hc_intro (Shl_spec (s3.keep k13) rfl (by omega)) fun v h14 ⟨k14, an⟩ => ?_
      rw [shlS_ok oHW rfl] at an
      refine an.elim fun ph qh th => ?_
      refine k_i64 ((64 * k : Nat) : Int) (by omega) (by omega) (by omega) ?_
      refine hc_intro (Shl_spec th rfl (by omega)) fun v h15 ⟨k15, an⟩ => ?_
      rw [shlS_ok oHWW rfl] at an
      refine an.elim fun pg qg tg => ?_
      refine c_ne (fun hh => absurd rfl hh) fun _ => ?_
      refine c_ne (fun hh => absurd rfl hh) fun _ => ?_
      refine c_ne (fun hh => absurd rfl hh) fun _ => ?_
      have k135 := k13.trans (k14.trans k15)
      have etot : L + M * 2 ^ (64 * k) + H * 2 ^ (64 * k) * 2 ^ (64 * k) = X * Y := by rw [tot, Nat.mul_assoc H]
      refine hc_intro (plus_spec (s1.keep k135) ((tm.keep k14).keep k15) rfl rfl (lim_mono (by omega) hp)) fun v h16 ⟨k16, an⟩ => ?_
      refine an.elim fun p16 q16 t16 => ?_
      refine hc_intro (plus_spec t16 (tg.keep k16) rfl rfl (by rw [etot]; exact hp)) fun v h17 ⟨k17, an⟩ => ?_
      rw [etot] at an
      refine an.elim fun p17 q17 t17 => ?_
      have k1317 := k135.trans (k16.trans k17)
      refine Same_intro t17 (rp.keep k1317) rfl rfl ?_
      refine c_not (fun hh => absurd hh (by simp)) fun _ => ?_
      unfold gnomonlaw02_NatmulJoins.D6.t
      refine hc_intro (crossed_spec (rx.keep k1317) (ry.keep k1317) (s1.keep k1317) (s2.keep k1317) (s3.keep k1317) rfl rfl rfl rfl rfl hx hy hp (by omega) hL hH hM) fun v h18 ⟨k18, e⟩ => ?_
      subst e
      exact gBool_intro rfl ⟨k011.trans (k1317.trans k18), rfl⟩
    · refine an.elim fun p1 p2 p3 q1 q2 q3 s1 s2 s3 => ?_
      refine c_dec (fun hh => absurd hh (by omega)) fun _ => ?_
      refine c_dec (fun hh => absurd hh (by omega)) fun _ => ?_
      unfold gnomonlaw02_NatmulJoins.D4.t
      refine hc_intro (Mul_spec rx ry rfl rfl) fun v h11 ⟨k11, an⟩ => ?_
      rw [mulS_form fx fy, val_digs, val_digs] at an
      refine an.elim fun pp qp rp => ?_
      have k011 := k010.trans k11
      refine c_ne (fun _ => c_eq (fun hh => absurd hh (by decide)) fun hh => ⟨k011, rfl⟩) fun hp => ?_
      exact absurd ⟨lim_mono (by omega) hp, lim_mono (by omega) hp, lim_mono (by omega) hp⟩ hno
end Go.Proofs.Ytidpnpcnjfbjfaa.G
