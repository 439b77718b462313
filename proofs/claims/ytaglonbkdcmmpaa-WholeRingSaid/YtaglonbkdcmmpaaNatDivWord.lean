/- What DivWord answers. -/
import Derived.Test.YtaglonbkdcmmpaaNatDiv64
namespace Go.Proofs.Ytaglonbkdcmmpaa.G
open Go.Gv
set_option maxRecDepth 100000
/-- quotient, rest and error; errors as the code gives them. -/
def divWS (xs : List Nat) (w : Nat) : List Nat × Int × Int := if Frm xs then (if w = 0 then ([], 0, 4) else (digs (val xs / w), ((val xs % w : Nat) : Int), 0)) else ([], 0, 2)
abbrev Ans3 : An (List Nat × Int × Int) := s3 sW (sI .u64) (sI .i64)
theorem Ans3.elim {h0 h : Hp} {v : Value} {p : List Nat × Int × Int} {K : Option Addr → Nat → Nat → Int → Int → Prop} (a : Ans3 h0 h v p) (g : ∀ a c, GotE eU64 h0 h a c p.1 → K a p.1.length c p.2.1 p.2.2) :
    gTup v fun y => uncons y fun v1 y1 => gSlice v1 fun a l c => uncons y1 fun v2 y2 => gInt .u64 v2 fun x => uncons y2 fun v3 y3 => gInt .i64 v3 fun z => unnil y3 (K a l c x z) := by
  obtain ⟨x, y, z, e, ⟨a, c, e1, r⟩, ⟨e2, _⟩, e3, _⟩ := a
  subst e; subst e1; subst e2; subst e3; exact g a c r
theorem DivWord_walk {R : Rt} {a : Option Addr} {c l w z y : Nat} {xs : List Nat} {h0 : Hp} {q : Nat} (r : Rd h0 a c xs) (hl : l = xs.length) (hq : h0.size ≤ q) (hx : xs.length ≤ 8192) (hw : w < 18446744073709551616) (hz : z = xs.length) (hy : y = xs.length)
    (g : ∀ v h', Keep h0 h' → Ans3 h0 h' v (digs (val xs / w), ((val xs % w : Nat) : Int), 0) → R v h') :
    ∀ (n le : Nat) (zs : List Nat) (h : Hp), n ≤ xs.length → zs.length = xs.length → le < w → Own h q zs → Keep h0 h → val (zs.drop n) * w + le = val (xs.drop n) →
      nat_DivWord.L4.t R (n + 1) a l c (w : Int) (some ⟨q, 0, none⟩) z y (le : Int) ((n : Int) - 1) h := by
  subst hl
  intro n
  induction n with
  | zero =>
    intro le zs h hn hzs hc ho kp e
    unfold nat_DivWord.L4.t nat_DivWord.D5.t
    refine c_dec (fun hb => absurd hb (by omega)) fun _ => ?_
    rw [List.drop_zero, List.drop_zero] at e
    have hd := div_is e hc
    unfold nat_DivWord.D2.t
    refine hc_intro (told_spec (ho.got' (c := y) hq (by omega)) (by omega)) fun v h' ⟨e1, an⟩ => ?_
    subst e1
    have hlen : (digs (val zs)).length ≤ 8192 := by
      rw [digs_val ho.words]
      have := trimL_le zs; omega
    have el : lim (val zs) = (digs (val zs), 0) := by unfold lim; rw [if_pos hlen]
    rw [el] at an
    refine an.elimG fun a c r _ => ?_
    refine g _ _ kp ?_
    rw [hd.1, hd.2]; exact ⟨_, _, _, rfl, ⟨_, _, rfl, r⟩, ⟨rfl, by rw [in_u64]; show 0 ≤ (le : Int) ∧ (le : Int) < 18446744073709551616; omega⟩, rfl, (by decide : In .i64 0)⟩
  | succ n ih =>
    intro le zs h hn hzs hc ho kp e
    have hxn : xs.getD n 0 < 18446744073709551616 := r.word n
    unfold nat_DivWord.L4.t nat_DivWord.D5.t
    refine c_dec (fun hb => ?_) fun hb => absurd (by omega) hb
    refine at_intro (r.keep kp) (j := n) (by omega) rfl (by omega) ?_
    refine hc_intro (Div64_spec hc hxn hw _) fun v h' ⟨e1, an⟩ => ?_
    subst e1
    refine an.elim ?_
    have hwp : 0 < w := Nat.lt_of_le_of_lt (Nat.zero_le _) hc
    have hq1 : (le * 18446744073709551616 + xs.getD n 0) / w < 18446744073709551616 := by
      rw [Nat.div_lt_iff_lt_mul hwp]; omega
    have eD := Nat.div_add_mod (le * 18446744073709551616 + xs.getD n 0) w
    have lD := Nat.mod_lt (le * 18446744073709551616 + xs.getD n 0) hwp
    refine put_intro ho (j := n) (by omega) (by omega) (by omega) rfl hq1 fun o => ?_
    refine k_i64 ((n : Int) - 1) (by omega) (by omega) (by omega) ?_
    refine ih _ _ _ (by omega) (by simp; omega) lD o (kp.set hq) ?_
    have ed : (zs.set n ((le * 18446744073709551616 + xs.getD n 0) / w)).drop n = (le * 18446744073709551616 + xs.getD n 0) / w :: zs.drop (n + 1) := by
      rw [drop_getD (by simp; omega), List.drop_set_of_lt (by omega)]
      simp [List.getD, show n < zs.length by omega]
    rw [ed, drop_getD (xs := xs) (by omega)]
    simp only [val]
    rw [Nat.add_mul, Nat.mul_assoc, Nat.mul_comm _ w]
    generalize w * ((le * 18446744073709551616 + xs.getD n 0) / w) = A at *
    generalize (le * 18446744073709551616 + xs.getD n 0) % w = B at *
    generalize val (zs.drop (n + 1)) * w = C at *
    omega
theorem DivWord_spec {a : Option Addr} {c l w : Nat} {xs : List Nat} {h : Hp} (r : Rd h a c xs) (hl : l = xs.length) (hw : w < 18446744073709551616) :
    HC nat_DivWord.id #[.slice a l c, .int .u64 (w : Int)] h fun v h' => Keep h h' ∧ Ans3 h h' v (divWS xs w) := by
  refine nat_DivWord.ok ?_
  unfold nat_DivWord.t nat_DivWord.D1.t
  refine hc_intro (Form_spec r hl) fun v h' ⟨e1, e2⟩ => ?_
  subst e1; subst e2; subst hl
  refine gBool_intro rfl ?_
  have nil : ∀ x : Int, In .i64 x → Ans3 h' h' (.tuple #[.slice none 0 0, .int .u64 0, .int .i64 x]) ([], 0, x) := fun x i => ⟨_, _, _, rfl, ⟨none, 0, rfl, GotE.nil _ _⟩, ⟨rfl, (by decide : In .u64 0)⟩, rfl, i⟩
  refine c_not (fun hf => ⟨Keep.refl _, ?_⟩) fun hf => ?_
  · unfold divWS; rw [if_neg (of_decide_eq_false hf)]; exact nil 2 (by decide)
  have hf0 := of_decide_eq_true hf
  have hf1 := hf0.1
  unfold divWS; rw [if_pos hf0]
  refine c_eq (fun h0 => ⟨Keep.refl _, ?_⟩) fun h0 => ?_
  · rw [if_pos (by omega)]; exact nil 4 (by decide)
  have hw0 : ¬ w = 0 := by omega
  simp only [if_neg hw0]
  refine mk_intro xs.length rfl rfl rfl rfl (by omega) fun h1 o k => ?_
  unfold nat_DivWord.D3.t
  refine k_i64 ((xs.length : Int) - 1) rfl (by omega) (by omega) ?_
  refine ⟨xs.length + 1, ?_⟩
  refine DivWord_walk r rfl (Nat.le_refl _) hf1 hw rfl rfl (fun v h' k an => ⟨k, an⟩) xs.length 0 _ h1 (Nat.le_refl _) (by simp) (by omega) o k ?_
  rw [List.drop_length, List.drop_of_length_le (by simp)]; simp [val]
end Go.Proofs.Ytaglonbkdcmmpaa.G
