/- What Sub answers. -/
import Derived.Test.YtaglonbkdcmmpaaNatCmp
import Derived.Test.YtaglonbkdcmmpaaNatAdd
namespace Go.Proofs.Ytaglonbkdcmmpaa.G
open Go.Gv
set_option maxRecDepth 100000
/-- a - b; errors as the code gives them. -/
def subS (xs ys : List Nat) : List Nat × Int := if Frm xs ∧ Frm ys then (if val xs < val ys then ([], 3) else lim (val xs - val ys)) else ([], 2)
theorem Sub_walk {R : Rt} {a b : Option Addr} {c d l m z w : Nat} {xs ys : List Nat} {h0 : Hp} {q : Nat} (r : Rd h0 a c xs) (s : Rd h0 b d ys) (hl : l = xs.length) (hm : m = ys.length) (hq : h0.size ≤ q) (hx : xs.length ≤ 8192) (hz : z = xs.length) (hw : w = xs.length)
    (fs : List Nat) (g : ∀ v h', Keep h0 h' → Ans h0 h' v (lim (val fs)) → R v h') :
    ∀ (k n ca : Nat) (zs : List Nat) (h : Hp), n + k = xs.length → ca ≤ 1 → zs.length = xs.length → Own h q zs → Keep h0 h → zs.take n ++ subL (xs.drop n) (ys.drop n) ca = fs →
      nat_Sub.L5.t R (k + 1) a l c b m d (some ⟨q, 0, none⟩) z w (ca : Int) (l : Int) (n : Int) h := by
  subst hl; subst hm
  intro k
  induction k with
  | zero =>
    intro n ca zs h hn hc hzs ho kp e
    unfold nat_Sub.L5.t nat_Sub.D6.t
    refine c_dec (fun hb => absurd hb (by omega)) fun _ => ?_
    have en : n = xs.length := by omega
    subst en
    rw [List.drop_length] at e
    have ez : zs = fs := by rw [← e, ← hzs, List.take_length]; simp [subL]
    subst ez
    unfold nat_Sub.D3.t
    refine hc_intro (told_spec (ho.got' (c := w) hq (by omega)) (by omega)) fun v h' ⟨e1, an⟩ => ?_
    subst e1
    refine an.elimG fun a c r i => ?_
    exact g _ _ kp (Ans.back r i)
  | succ k ih =>
    intro n ca zs h hn hc hzs ho kp e
    have hxn : xs.getD n 0 < 18446744073709551616 := r.word n
    have hyn : ys.getD n 0 < 18446744073709551616 := s.word n
    have step : zs.take n ++ subL (xs.drop n) (ys.drop n) ca = (zs.set n ((xs.getD n 0 + 18446744073709551616 - ys.getD n 0 - ca) % 18446744073709551616)).take (n + 1) ++ subL (xs.drop (n + 1)) (ys.drop (n + 1)) (if xs.getD n 0 < ys.getD n 0 + ca then 1 else 0) := by
      rw [drop_getD (xs := xs) (j := n) (by omega), take_set_succ (by omega)]
      simp only [subL, headD_drop, List.tail_drop, List.append_assoc, List.cons_append, List.nil_append]
    rw [step] at e
    have hc' : (if xs.getD n 0 < ys.getD n 0 + ca then 1 else 0) ≤ 1 := by split <;> omega
    unfold nat_Sub.L5.t nat_Sub.D6.t
    refine c_dec (fun hb => ?_) fun hb => absurd (by omega) hb
    refine c_dec (fun hb => ?_) fun hb => ?_
    · refine at_intro (s.keep kp) (j := n) rfl rfl (by omega) ?_
      refine at_intro (r.keep kp) (j := n) rfl rfl (by omega) ?_
      refine sub_intro rfl rfl rfl hc hyn ?_
      refine put_intro ho (j := n) rfl (by omega) (by omega) rfl (by omega) fun o => ?_
      refine k_i64 ((n + 1 : Nat) : Int) (by omega) (by omega) (by omega) ?_
      exact ih (n + 1) _ _ _ (by omega) hc' (by rw [List.length_set]; omega) o (kp.set hq) e
    · refine at_intro (r.keep kp) (j := n) rfl rfl (by omega) ?_
      have hy0 : ys.getD n 0 = 0 := by simp [List.getD, show ys.length ≤ n by omega]
      rw [hy0] at e hc'
      refine sub_intro (b := 0) rfl rfl rfl hc (by omega) ?_
      refine put_intro ho (j := n) rfl (by omega) (by omega) rfl (by omega) fun o => ?_
      refine k_i64 ((n + 1 : Nat) : Int) (by omega) (by omega) (by omega) ?_
      exact ih (n + 1) _ _ _ (by omega) hc' (by rw [List.length_set]; omega) o (kp.set hq) e
theorem Sub_spec {a b : Option Addr} {c d l m : Nat} {xs ys : List Nat} {h : Hp} (r : Rd h a c xs) (s : Rd h b d ys) (hl : l = xs.length) (hm : m = ys.length) :
    HC nat_Sub.id #[.slice a l c, .slice b m d] h fun v h' => Keep h h' ∧ Ans h h' v (subS xs ys) := by
  refine nat_Sub.ok ?_
  unfold nat_Sub.t nat_Sub.D1.t
  refine hc_intro (Form_spec r hl) fun v h' ⟨e1, e2⟩ => ?_
  subst e1; subst e2
  refine gBool_intro rfl ?_
  refine c_not (fun hf => ⟨Keep.refl _, ?_⟩) fun hf => ?_
  · unfold subS; rw [if_neg (fun hh => of_decide_eq_false hf hh.1)]; exact Ans.none
  refine hc_intro (Form_spec s hm) fun v h' ⟨e1, e2⟩ => ?_
  subst e1; subst e2
  refine gBool_intro rfl ?_
  refine c_not (fun hf2 => ⟨Keep.refl _, ?_⟩) fun hf2 => ?_
  · unfold subS; rw [if_neg (fun hh => of_decide_eq_false hf2 hh.2)]; exact Ans.none
  have f1 := of_decide_eq_true hf
  have f2 := of_decide_eq_true hf2
  unfold subS; rw [if_pos ⟨f1, f2⟩]
  unfold nat_Sub.D2.t
  refine hc_intro (Cmp_spec r s hl hm) fun v h' ⟨e1, e2⟩ => ?_
  subst e1; subst e2
  refine gInt_intro rfl ?_
  refine c_dec (fun hb => ⟨Keep.refl _, ?_⟩) fun hb => ?_
  · have : val xs < val ys := by
      unfold cmpI at hb; split at hb
      · assumption
      · split at hb <;> omega
    rw [if_pos this]; exact Ans.none
  · have hlt : ¬ val xs < val ys := fun hh => by unfold cmpI at hb; rw [if_pos hh] at hb; omega
    rw [if_neg hlt]
    subst hl; subst hm
    have hf1 := f1.1
    have hxy : ys.length ≤ xs.length := Nat.le_of_not_lt fun hh => by
      have := val_lt_len r.words f2.2 hh; omega
    refine mk_intro xs.length rfl rfl rfl rfl (by omega) fun h1 o k => ?_
    unfold nat_Sub.D4.t
    refine ⟨xs.length + 1, ?_⟩
    refine Sub_walk r s rfl rfl (Nat.le_refl _) hf1 rfl rfl (subL xs ys 0) ?_ xs.length 0 0 _ h1 (by omega) (by omega) (by simp) o k (by simp)
    have := subL_val xs ys 0 r.words s.words hxy (by omega) (by omega)
    rw [show val (subL xs ys 0) = val xs - val ys by omega]
    exact fun v h' k an => ⟨k, an⟩
theorem subS_form {xs ys : List Nat} (fx : Frm xs) (fy : Frm ys) (h : val ys ≤ val xs) : subS xs ys = lim (val xs - val ys) := by
  unfold subS; rw [if_pos ⟨fx, fy⟩, if_neg (by omega)]
end Go.Proofs.Ytaglonbkdcmmpaa.G
