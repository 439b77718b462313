/- The law NatDivides of the translation answers true. -/
import Derived.Test.YtnbpbojcjihboaaNatSpec6
namespace Go.Proofs.Ytnbpbojcjihboaa.G
open Go.Gv
/-- The answer of a call that gives a list, a word and an error. -/
def Ans3 (h : Hp) (v : Value) (xs : List Nat) (r : Nat) (e : Int) : Prop := ∃ a c, v = .tuple #[.slice a xs.length c, .int .u64 (r : Int), .int .i64 e] ∧ Rd h a c xs
theorem Ans3.elim {h : Hp} {v : Value} {xs : List Nat} {r : Nat} {e : Int} {K : Option Addr → Nat → Nat → Int → Int → Prop} (a : Ans3 h v xs r e) (g : ∀ a c, Rd h a c xs → K a xs.length c r e) :
    gTup v fun y => uncons y fun v1 y1 => gSlice v1 fun a l c => uncons y1 fun v2 y2 => gInt .u64 v2 fun x => uncons y2 fun v3 y3 => gInt .i64 v3 fun z => unnil y3 (K a l c x z) := by
  obtain ⟨a, c, e, r⟩ := a
  subst e; exact g a c r
theorem DivWord_walk {R : Rt} {a : Option Addr} {c l w z y : Nat} {xs : List Nat} {h0 : Hp} {q : Nat} (r : Rd h0 a c xs) (hl : l = xs.length) (hq : h0.size ≤ q) (hx : xs.length ≤ 8192) (hw : w < 18446744073709551616) (hz : z = xs.length) (hy : y = xs.length)
    (g : ∀ v h', Keep h0 h' → Ans3 h' v (digs (val xs / w)) (val xs % w) 0 → R v h') :
    ∀ (n le : Nat) (zs : List Nat) (h : Hp), n ≤ xs.length → zs.length = xs.length → le < w → Own h q zs → Keep h0 h → val (zs.drop n) * w + le = val (xs.drop n) →
      nat_DivWord.L4.t R (n + 1) a l c (w : Int) (some ⟨q, 0, none⟩) z y (le : Int) ((n : Int) - 1) h := by
  subst hl
  intro n
  induction n with
  | zero =>
    intro le zs h hn hzs hc ho kp e
    unfold nat_DivWord.L4.t nat_DivWord.D5.t
    refine c_dec (fun hb => absurd hb (by omega)) fun _ => ?_
    rw [List.drop_zero, List.drop_zero] at e
    have hd := div_is e hc
    unfold nat_DivWord.D2.t
    refine hc_intro (told_spec (ho.rd (c := y) (by omega)) (by omega)) fun v h' ⟨e1, an⟩ => ?_
    subst e1
    have hlen : (digs (val zs)).length ≤ 8192 := by
      rw [digs_val ho.words]
      have := trimL_le zs; omega
    have el : lim (val zs) = (digs (val zs), 0) := by unfold lim; rw [if_pos hlen]
    rw [el] at an
    refine an.elim fun a c r => ?_
    refine g _ _ kp ?_
    rw [hd.1, hd.2]; exact ⟨_, _, rfl, r⟩
  | succ n ih =>
    intro le zs h hn hzs hc ho kp e
    have hxn : xs.getD n 0 < 18446744073709551616 := r.word n
    unfold nat_DivWord.L4.t nat_DivWord.D5.t
    refine c_dec (fun hb => ?_) fun hb => absurd (by omega) hb
    refine at_intro (r.keep kp) (j := n) (by omega) rfl (by omega) ?_
    refine hc_intro (Div64_spec hc hxn hw _) fun v h' ⟨e1, an⟩ => ?_
    subst e1
    refine an.elim ?_
    have hwp : 0 < w := Nat.lt_of_le_of_lt (Nat.zero_le _) hc
    have hq1 : (le * 18446744073709551616 + xs.getD n 0) / w < 18446744073709551616 := by
      rw [Nat.div_lt_iff_lt_mul hwp]; omega
    have eD := Nat.div_add_mod (le * 18446744073709551616 + xs.getD n 0) w
    have lD := Nat.mod_lt (le * 18446744073709551616 + xs.getD n 0) hwp
    refine put_intro ho (j := n) (by omega) (by omega) (by omega) rfl hq1 fun o => ?_
    refine k_i64 ((n : Int) - 1) (by omega) (by omega) (by omega) ?_
    refine ih _ _ _ (by omega) (by simp; omega) lD o (kp.set hq) ?_
    have ed : (zs.set n ((le * 18446744073709551616 + xs.getD n 0) / w)).drop n = (le * 18446744073709551616 + xs.getD n 0) / w :: zs.drop (n + 1) := by
      rw [drop_getD (by simp; omega), List.drop_set_of_lt (by omega)]
      simp [List.getD, show n < zs.length by omega]
    rw [ed, drop_getD (xs := xs) (by omega)]
    simp only [val]
    rw [Nat.add_mul, Nat.mul_assoc, Nat.mul_comm _ w]
    generalize w * ((le * 18446744073709551616 + xs.getD n 0) / w) = A at *
    generalize (le * 18446744073709551616 + xs.getD n 0) % w = B at *
    generalize val (zs.drop (n + 1)) * w = C at *
    omega
theorem DivWord_spec {a : Option Addr} {c l w : Nat} {xs : List Nat} {h : Hp} (r : Rd h a c xs) (hl : l = xs.length) (hw : w < 18446744073709551616) (hf0 : Frm xs) :
    HC nat_DivWord.id #[.slice a l c, .int .u64 (w : Int)] h fun v h' => Keep h h' ∧ if w = 0 then Ans3 h' v [] 0 4 else Ans3 h' v (digs (val xs / w)) (val xs % w) 0 := by
  refine nat_DivWord.ok ?_
  unfold nat_DivWord.t nat_DivWord.D1.t
  refine hc_intro (Form_spec r hl) fun v h' ⟨e1, e2⟩ => ?_
  subst e1; subst e2; subst hl
  refine gBool_intro rfl ?_
  refine c_not (fun hf => absurd hf0 (of_decide_eq_false hf)) fun hf => ?_
  have hf1 := hf0.1
  refine c_eq (fun h0 => ⟨Keep.refl _, ?_⟩) fun h0 => ?_
  · rw [if_pos (by omega)]; exact ⟨none, 0, rfl, Rd.nil _ _ _⟩
  have hw0 : ¬ w = 0 := by omega
  simp only [if_neg hw0]
  refine mk_intro xs.length rfl rfl rfl rfl (by omega) fun h1 o k => ?_
  unfold nat_DivWord.D3.t
  refine k_i64 ((xs.length : Int) - 1) rfl (by omega) (by omega) ?_
  refine ⟨xs.length + 1, ?_⟩
  refine DivWord_walk r rfl (Nat.le_refl _) hf1 hw rfl rfl (fun v h' k an => ⟨k, an⟩) xs.length 0 _ h1 (Nat.le_refl _) (by simp) (by omega) o k ?_
  rw [List.drop_length, List.drop_of_length_le (by simp)]; simp [val]
theorem NatDivides_law {a0 : Option Addr} {c0 l0 : Nat} {xs : List Nat} {w : Int} {h : Hp} (r0 : Rd h a0 c0 xs) (hl0 : l0 = xs.length) (hw : 0 ≤ w ∧ w < 18446744073709551616) :
    HC gnomonlaw01_NatDivides.id #[.slice a0 l0 c0, .int .u64 w] h fun v h' => Keep h h' ∧ v = .bool true := by
  refine gnomonlaw01_NatDivides.ok ?_
  unfold gnomonlaw01_NatDivides.t gnomonlaw01_NatDivides.D1.t
  obtain ⟨w, rfl⟩ : ∃ N : Nat, w = (N : Int) := ⟨w.toNat, by omega⟩
  have hw' : w < 18446744073709551616 := by omega
  refine box_intro [17] (by rfl) (by decide) (by decide) fun h1 o1 k1 => ?_
  refine hc_intro (DivWord_spec (w := 5) (o1.rd (c := 1) (by decide)) (by rfl) (by decide) (by decide)) fun v h2 ⟨k2, an⟩ => ?_
  rw [if_neg (by decide)] at an
  have e1 : digs (val [17] / 5) = [3] := (Frm.digs (xs := [3]) (by decide) (by unfold Words; decide))
  rw [e1] at an
  refine an.elim fun a c r => ?_
  refine c_ne (fun hh => absurd rfl hh) fun _ => ?_
  refine box_intro [3] (by rfl) (by decide) (by decide) fun h3 o3 k3 => ?_
  refine Same_intro (r.keep k3) (o3.rd (c := 1) (by decide)) (by rfl) (by rfl) ?_
  refine c_not (fun hh => absurd hh (by simp)) fun _ => ?_
  refine c_ne (fun hh => absurd rfl hh) fun _ => ?_
  refine hc_intro (awake_spec _) fun v h4 ⟨k4, e⟩ => ?_
  subst e
  refine gBool_intro rfl ?_
  refine c_not (fun hh => absurd hh (by simp)) fun _ => ?_
  have k04 := k1.trans (k2.trans (k3.trans k4))
  unfold gnomonlaw01_NatDivides.D2.t
  refine hc_intro (Twin_spec (r0.keep k04) hl0) fun v h5 ⟨k5, an⟩ => ?_
  refine an.elim fun a5 c5 r5 => ?_
  refine hc_intro (Norm_spec r5 rfl) fun v h6 ⟨k6, an⟩ => ?_
  refine an.elim fun ax cx rx => ?_
  have k06 := k04.trans (k5.trans k6)
  refine c_ne (fun _ => ⟨k06, rfl⟩) fun hx => ?_
  have fx := form_digs hx
  have ex := lim_ok hx
  have vx := val_digs (val xs)
  rw [ex] at rx ⊢
  generalize val xs = X at *
  refine hc_intro (DivWord_spec rx rfl hw' fx) fun v h7 ⟨k7, an⟩ => ?_
  by_cases h0 : w = 0
  · rw [if_pos h0] at an
    refine an.elim fun aq cq rq => ?_
    refine c_eq (fun _ => ?_) fun hh => absurd (by omega) hh
    refine c_eq (fun _ => ?_) fun hh => absurd rfl hh
    refine c_eq (fun _ => ?_) fun hh => absurd rfl hh
    exact ⟨k06.trans k7, rfl⟩
  · rw [if_neg h0, vx] at an
    have hr : X % w < w := Nat.mod_lt _ (by omega)
    have hdm : X / w * w ≤ X := Nat.div_mul_le_self _ _
    have fq : Frm (digs (X / w)) := form_digs (lim_mono (Nat.div_le_self _ _) hx)
    have fp : Frm (digs (X / w * w)) := form_digs (lim_mono hdm hx)
    have fr : Frm (digs (X % w)) := form_digs (lim_mono (Nat.mod_le _ _) hx)
    refine an.elim fun aq cq rq => ?_
    refine c_eq (fun hh => absurd hh (by omega)) fun _ => ?_
    refine hc_intro (MulWord_spec rq rfl hw') fun v h8 ⟨k8, an⟩ => ?_
    have em : mulWS (digs (X / w)) w = (digs (X / w * w), 0) := by
      unfold mulWS; rw [if_pos fq, val_digs]; exact lim_ok (lim_mono hdm hx)
    rw [em] at an
    refine an.elim fun ap cp rp => ?_
    refine hc_intro (Word_spec (w := X % w) (by omega) _) fun v h9 ⟨k9, an⟩ => ?_
    refine an.elim fun aw cw rw_ => ?_
    refine hc_intro (Add_spec (rp.keep k9) rw_ rfl rfl) fun v h10 ⟨k10, an⟩ => ?_
    have ea : addS (digs (X / w * w)) (digs (X % w)) = (digs X, 0) := by
      rw [addS_form fp fr, val_digs, val_digs, Nat.mul_comm, Nat.div_add_mod]; exact ex
    rw [ea] at an
    refine an.elim fun as_ cs rs => ?_
    refine c_eq (fun _ => ?_) fun hh => absurd rfl hh
    refine c_eq (fun _ => ?_) fun hh => absurd rfl hh
    refine c_eq (fun _ => ?_) fun hh => absurd rfl hh
    refine c_dec (fun _ => ?_) fun hh => absurd (by omega) hh
    refine Same_intro rs ((((rx.keep k7).keep k8).keep k9).keep k10) rfl rfl ?_
    refine ⟨k06.trans (k7.trans (k8.trans (k9.trans k10))), ?_⟩
    simp
end Go.Proofs.Ytnbpbojcjihboaa.G
