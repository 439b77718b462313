/- The law NatCuts of the translation answers true. -/
import Derived.Test.YtnbpbojcjihboaaNatSpec4
namespace Go.Proofs.Ytnbpbojcjihboaa.G
open Go.Gv
theorem lim_le {n m : Nat} (h : n ≤ m) (hm : (lim m).2 = 0) : lim n = (digs n, 0) := lim_ok (lim_mono h hm)
theorem NatCuts_law {a0 : Option Addr} {c0 l0 : Nat} {xs : List Nat} {n : Int} {h : Hp} (r0 : Rd h a0 c0 xs) (hl0 : l0 = xs.length) (hn : -9223372036854775808 ≤ n ∧ n < 9223372036854775808) :
    HC gnomonlaw01_NatCuts.id #[.slice a0 l0 c0, .int .i64 n] h fun v h' => Keep h h' ∧ v = .bool true := by
  refine gnomonlaw01_NatCuts.ok ?_
  unfold gnomonlaw01_NatCuts.t gnomonlaw01_NatCuts.D1.t
  refine box_intro [13] (by rfl) (by decide) (by decide) fun h1 o1 k1 => ?_
  refine hc_intro (Low_spec (o1.rd (c := 1) (by decide)) (by rfl) (by decide)) fun v h2 ⟨k2, an⟩ => ?_
  have e1 : lowS [13] 2 = ([1], 0) := by
    unfold lowS; rw [if_neg (by decide), if_pos (by decide)]
    exact Frm.lim (xs := [1]) (by decide) (by unfold Words; decide)
  rw [e1] at an
  refine an.elim fun a c r => ?_
  refine c_ne (fun hh => absurd rfl hh) fun _ => ?_
  refine box_intro [1] (by rfl) (by decide) (by decide) fun h3 o3 k3 => ?_
  refine Same_intro (r.keep k3) (o3.rd (c := 1) (by decide)) (by rfl) (by rfl) ?_
  refine c_not (fun hh => absurd hh (by simp)) fun _ => ?_
  refine hc_intro (awake_spec _) fun v h4 ⟨k4, e⟩ => ?_
  subst e
  refine gBool_intro rfl ?_
  refine c_not (fun hh => absurd hh (by simp)) fun _ => ?_
  have k04 := k1.trans (k2.trans (k3.trans k4))
  unfold gnomonlaw01_NatCuts.D2.t
  refine hc_intro (Twin_spec (r0.keep k04) hl0) fun v h5 ⟨k5, an⟩ => ?_
  refine an.elim fun a5 c5 r5 => ?_
  refine hc_intro (Norm_spec r5 rfl) fun v h6 ⟨k6, an⟩ => ?_
  refine an.elim fun ax cx rx => ?_
  have k06 := k04.trans (k5.trans k6)
  refine c_ne (fun _ => ⟨k06, rfl⟩) fun hx => ?_
  refine c_dec (fun _ => ⟨k06, rfl⟩) fun hneg => ?_
  obtain ⟨N, rfl⟩ : ∃ N : Nat, n = (N : Int) := ⟨n.toNat, by omega⟩
  have fx := form_digs hx
  have ex := lim_ok hx
  have vx := val_digs (val xs)
  rw [ex] at rx ⊢
  generalize val xs = X at *
  unfold gnomonlaw01_NatCuts.D3.t
  have hN := hn.2
  refine hc_intro (Shr_spec rx rfl hN) fun v h7 ⟨k7, an⟩ => ?_
  have es : shrS (digs X) (N : Int) = (digs (X / 2 ^ N), 0) := by
    unfold shrS; rw [if_neg hneg, if_pos fx, vx, Int.toNat_natCast]
    exact lim_le (Nat.div_le_self _ _) hx
  rw [es] at an
  refine an.elim fun ah ch rh => ?_
  refine hc_intro (Low_spec (rx.keep k7) rfl hN) fun v h8 ⟨k8, an⟩ => ?_
  have el : lowS (digs X) (N : Int) = (digs (X % 2 ^ N), 0) := by
    unfold lowS; rw [if_neg hneg, if_pos fx, vx, Int.toNat_natCast]
    exact lim_le (Nat.mod_le _ _) hx
  rw [el] at an
  refine an.elim fun al cl rl => ?_
  have hle : X / 2 ^ N * 2 ^ N ≤ X := Nat.div_mul_le_self _ _
  have fh : Frm (digs (X / 2 ^ N)) := form_digs (lim_mono (Nat.div_le_self _ _) hx)
  have fl : Frm (digs (X % 2 ^ N)) := form_digs (lim_mono (Nat.mod_le _ _) hx)
  have fb : Frm (digs (X / 2 ^ N * 2 ^ N)) := form_digs (lim_mono hle hx)
  refine hc_intro (Shl_spec (rh.keep k8) rfl hN) fun v h9 ⟨k9, an⟩ => ?_
  have eb : shlS (digs (X / 2 ^ N)) (N : Int) = (digs (X / 2 ^ N * 2 ^ N), 0) := by
    unfold shlS; rw [if_neg hneg, if_pos fh, val_digs, Int.toNat_natCast]
    exact lim_le hle hx
  rw [eb] at an
  refine an.elim fun ab cb rb => ?_
  refine c_ne (fun hh => absurd rfl hh) fun _ => ?_
  refine c_ne (fun hh => absurd rfl hh) fun _ => ?_
  refine c_ne (fun hh => absurd rfl hh) fun _ => ?_
  unfold gnomonlaw01_NatCuts.D4.t
  have k79 := k7.trans (k8.trans k9)
  refine hc_intro (Add_spec rb (rl.keep k9) rfl rfl) fun v h10 ⟨k10, an⟩ => ?_
  have ea : addS (digs (X / 2 ^ N * 2 ^ N)) (digs (X % 2 ^ N)) = (digs X, 0) := by
    rw [addS_form fb fl, val_digs, val_digs, Nat.mul_comm, Nat.div_add_mod]; exact ex
  rw [ea] at an
  refine an.elim fun aq cq rs => ?_
  refine c_ne (fun hh => absurd rfl hh) fun _ => ?_
  refine Same_intro rs ((rx.keep k79).keep k10) rfl rfl ?_
  refine c_not (fun hh => absurd hh (by simp)) fun _ => ?_
  refine hc_intro (Bits_spec ((rl.keep k9).keep k10) rfl) fun v h11 ⟨e11, ev⟩ => ?_
  subst e11; subst ev
  refine gInt_intro rfl ?_
  rw [val_digs]
  have hb : blen (X % 2 ^ N) ≤ N := blen_le.mpr (Nat.mod_lt _ (Nat.pow_pos (by decide)))
  refine c_dec (fun hh => absurd hh (by omega)) fun _ => ?_
  unfold gnomonlaw01_NatCuts.D5.t
  refine hc_intro (Bits_spec (((rh.keep k8).keep k9).keep k10) rfl) fun v h12 ⟨e12, ev⟩ => ?_
  subst e12; subst ev
  refine gInt_intro rfl ?_
  refine hc_intro (Bits_spec ((rx.keep k79).keep k10) rfl) fun v h13 ⟨e13, ev⟩ => ?_
  subst e13; subst ev
  refine gInt_intro rfl ?_
  rw [val_digs, val_digs, blen_div]
  have hbx : blen X ≤ 524288 := lim_blen.mpr fx.1
  refine k_i64 ((blen X : Int) - (N : Int)) rfl (by omega) (by omega) ?_
  refine ⟨k06.trans (k79.trans k10), ?_⟩
  have ee : (((blen X - N : Nat) : Int) == (if (blen X : Int) - (N : Int) > 0 then (blen X : Int) - (N : Int) else 0)) = true := by
    rw [beq_iff_eq]; split <;> omega
  rw [ee]
end Go.Proofs.Ytnbpbojcjihboaa.G
