/- What Add answers. -/
import Derived.Test.YtaglonbkdcmmpaaNatSpec
namespace Go.Proofs.Ytaglonbkdcmmpaa.G
open Go.Gv
set_option maxRecDepth 100000
theorem add_intro {x y z : Int} {a b c : Nat} (hx : x = (a : Int)) (hy : y = (b : Int)) (hz : z = (c : Int)) (hc : c ≤ 1) {K : Int → Int → Prop}
    (g : K ((a + b + c) % 18446744073709551616 : Nat) ((a + b + c) / 18446744073709551616 : Nat)) : addK x y z K := by
  subst hx; subst hy; subst hz
  exact ⟨⟨by omega, by omega, by omega, by omega⟩, by simpa using g⟩
theorem sub_intro {x y z : Int} {a b c : Nat} (hx : x = (a : Int)) (hy : y = (b : Int)) (hz : z = (c : Int)) (hc : c ≤ 1) (hb : b < 18446744073709551616) {K : Int → Int → Prop}
    (g : K ((a + 18446744073709551616 - b - c) % 18446744073709551616 : Nat) ((if a < b + c then 1 else 0 : Nat) : Int)) : subK x y z K := by
  subst hx; subst hy; subst hz
  refine ⟨⟨by omega, by omega, by omega, by omega, by omega⟩, ?_⟩
  have e1 : ((a : Int) - (b : Int) - (c : Int)) % 18446744073709551616 = (((a + 18446744073709551616 - b - c) % 18446744073709551616 : Nat) : Int) := by omega
  have e2 : (if (a : Int) < (b : Int) + (c : Int) then (1 : Int) else 0) = ((if a < b + c then 1 else 0 : Nat) : Int) := by
    by_cases hh : a < b + c
    · rw [if_pos hh, if_pos (by omega)]; rfl
    · rw [if_neg hh, if_neg (by omega)]; rfl
  rw [e1, e2]; exact g
/-- a + b; errors as the code gives them. -/
def addS (xs ys : List Nat) : List Nat × Int := if Frm xs ∧ Frm ys then lim (val xs + val ys) else ([], 2)
theorem Add_end {R : Rt} {a : Option Addr} {c l z w : Nat} {zs : List Nat} {n : Nat} {h : Hp} {h0 : Hp} {q : Nat} {ca : Nat} (hl : l = n) (ho : Own h q zs) (hz : z = zs.length) (hw : w = zs.length) (hn : zs.length = n + 1) (hca : ca < 18446744073709551616) (hn2 : n ≤ 8192) (hq : h0.size ≤ q) (k : Keep h0 h)
    (g : ∀ v h', Keep h0 h' → Ans h0 h' v (lim (val (zs.take n ++ [ca]))) → R v h') : nat_Add.D4.t R a l c (some ⟨q, 0, none⟩) z w (ca : Int) h := by
  subst hl; subst hz; subst hw
  unfold nat_Add.D4.t
  refine put_intro ho (j := l) rfl rfl (by omega) rfl hca fun o => ?_
  have e : zs.set l ca = zs.take l ++ [ca] := by
    have := take_set_succ (s := zs) (j := l) (t := ca) (by omega)
    rw [← this, List.take_of_length_le (by rw [List.length_set]; omega)]
  rw [e] at o
  have k2 : Keep h0 (setH h ⟨q, l, none⟩ (wv ca)) := k.set hq
  have hlen : (zs.take l ++ [ca]).length = l + 1 := by simp; omega
  refine hc_intro (told_spec (o.got' (c := zs.length) hq (by omega)) (by omega)) fun v h' ⟨e1, an⟩ => ?_
  subst e1
  refine an.elimG fun a c r i => ?_
  exact g _ _ k2 (Ans.back r i)
theorem Add_walk {R : Rt} {a b : Option Addr} {c d l m z w : Nat} {xs ys : List Nat} {h0 : Hp} {q : Nat} (r : Rd h0 a c xs) (s : Rd h0 b d ys) (hl : l = xs.length) (hm : m = ys.length) (hq : h0.size ≤ q) (hx : xs.length ≤ 8192) (hz : z = xs.length + 1) (hw : w = xs.length + 1)
    (fs : List Nat) (g : ∀ v h', Keep h0 h' → Ans h0 h' v (lim (val fs)) → R v h') :
    ∀ (k n ca : Nat) (zs : List Nat) (h : Hp), n + k = xs.length → ca ≤ 1 → zs.length = xs.length + 1 → Own h q zs → Keep h0 h → zs.take n ++ addL (xs.drop n) (ys.drop n) ca = fs →
      nat_Add.L6.t R (k + 1) a l c b m d (some ⟨q, 0, none⟩) z w (ca : Int) (l : Int) (n : Int) h := by
  subst hl; subst hm
  intro k
  induction k with
  | zero =>
    intro n ca zs h hn hc hzs ho kp e
    unfold nat_Add.L6.t nat_Add.D7.t
    refine c_dec (fun hb => absurd hb (by omega)) fun _ => ?_
    have en : n = xs.length := by omega
    subst en
    rw [List.drop_length] at e
    refine Add_end (n := xs.length) rfl ho (by omega) (by omega) hzs (by omega) hx hq kp ?_
    rw [show zs.take xs.length ++ [ca] = fs from e]; exact g
  | succ k ih =>
    intro n ca zs h hn hc hzs ho kp e
    have hxn : xs.getD n 0 < 18446744073709551616 := r.word n
    have hyn : ys.getD n 0 < 18446744073709551616 := s.word n
    have step : zs.take n ++ addL (xs.drop n) (ys.drop n) ca = (zs.set n ((xs.getD n 0 + ys.getD n 0 + ca) % 18446744073709551616)).take (n + 1) ++ addL (xs.drop (n + 1)) (ys.drop (n + 1)) ((xs.getD n 0 + ys.getD n 0 + ca) / 18446744073709551616) := by
      rw [drop_getD (xs := xs) (j := n) (by omega), take_set_succ (by omega)]
      simp only [addL, headD_drop, List.tail_drop, List.append_assoc, List.cons_append, List.nil_append]
    rw [step] at e
    unfold nat_Add.L6.t nat_Add.D7.t
    refine c_dec (fun hb => ?_) fun hb => absurd (by omega) hb
    refine c_dec (fun hb => ?_) fun hb => ?_
    · refine at_intro (s.keep kp) (j := n) rfl rfl (by omega) ?_
      refine at_intro (r.keep kp) (j := n) rfl rfl (by omega) ?_
      refine add_intro rfl rfl rfl hc ?_
      refine put_intro ho (j := n) rfl (by omega) (by omega) rfl (by omega) fun o => ?_
      refine k_i64 ((n + 1 : Nat) : Int) (by omega) (by omega) (by omega) ?_
      exact ih (n + 1) _ _ _ (by omega) (by omega) (by rw [List.length_set]; omega) o (kp.set hq) e
    · refine at_intro (r.keep kp) (j := n) rfl rfl (by omega) ?_
      have hy0 : ys.getD n 0 = 0 := by simp [List.getD, show ys.length ≤ n by omega]
      rw [hy0] at e
      refine add_intro (b := 0) rfl rfl rfl hc ?_
      refine put_intro ho (j := n) rfl (by omega) (by omega) rfl (by omega) fun o => ?_
      refine k_i64 ((n + 1 : Nat) : Int) (by omega) (by omega) (by omega) ?_
      exact ih (n + 1) _ _ _ (by omega) (by omega) (by rw [List.length_set]; omega) o (kp.set hq) e
theorem Add_made {R : Rt} {a b : Option Addr} {c d l m : Nat} {xs ys : List Nat} {h : Hp} (r : Rd h a c xs) (s : Rd h b d ys) (hl : l = xs.length) (hm : m = ys.length) (hx : xs.length ≤ 8192) (hxy : ys.length ≤ xs.length)
    (g : ∀ v h', Keep h h' → Ans h h' v (lim (val xs + val ys)) → R v h') : nat_Add.D3.t R a l c b m d h := by
  subst hl; subst hm
  unfold nat_Add.D3.t
  refine k_i64 ((xs.length + 1 : Nat) : Int) (by omega) (by omega) (by omega) ?_
  refine mk_intro (xs.length + 1) rfl rfl rfl rfl (by omega) fun h1 o k => ?_
  refine ⟨xs.length + 1, ?_⟩
  refine Add_walk r s rfl rfl (Nat.le_refl _) hx rfl rfl (addL xs ys 0) ?_ xs.length 0 0 _ h1 (by omega) (by omega) (by simp) o k (by simp)
  rw [addL_val xs ys 0 hxy]; exact g
theorem Add_spec {a b : Option Addr} {c d l m : Nat} {xs ys : List Nat} {h : Hp} (r : Rd h a c xs) (s : Rd h b d ys) (hl : l = xs.length) (hm : m = ys.length) :
    HC nat_Add.id #[.slice a l c, .slice b m d] h fun v h' => Keep h h' ∧ Ans h h' v (addS xs ys) := by
  refine nat_Add.ok ?_
  unfold nat_Add.t nat_Add.D1.t
  refine hc_intro (Form_spec r hl) fun v h' ⟨e1, e2⟩ => ?_
  subst e1; subst e2
  refine gBool_intro rfl ?_
  refine c_not (fun hf => ⟨Keep.refl _, ?_⟩) fun hf => ?_
  · unfold addS; rw [if_neg (fun hh => of_decide_eq_false hf hh.1)]; exact Ans.none
  refine hc_intro (Form_spec s hm) fun v h' ⟨e1, e2⟩ => ?_
  subst e1; subst e2
  refine gBool_intro rfl ?_
  refine c_not (fun hf2 => ⟨Keep.refl _, ?_⟩) fun hf2 => ?_
  · unfold addS; rw [if_neg (fun hh => of_decide_eq_false hf2 hh.2)]; exact Ans.none
  have f1 := of_decide_eq_true hf
  have f2 := of_decide_eq_true hf2
  unfold addS; rw [if_pos ⟨f1, f2⟩]
  unfold nat_Add.D2.t
  refine c_dec (fun hb => ?_) fun hb => ?_
  · refine Add_made s r hm hl f2.1 (by omega) fun v h' k an => ⟨k, ?_⟩
    rw [Nat.add_comm]; exact an
  · exact Add_made r s hl hm f1.1 (by omega) fun v h' k an => ⟨k, an⟩
theorem addS_form {xs ys : List Nat} (fx : Frm xs) (fy : Frm ys) : addS xs ys = lim (val xs + val ys) := if_pos ⟨fx, fy⟩
end Go.Proofs.Ytaglonbkdcmmpaa.G
