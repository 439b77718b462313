/- What MulWord and Word answer. -/
import Derived.Test.YtaglonbkdcmmpaaNatMul64
import Derived.Test.YtaglonbkdcmmpaaNatAdd
namespace Go.Proofs.Ytaglonbkdcmmpaa.G
open Go.Gv
set_option maxRecDepth 100000
/-! ### a product with a word -/
def mulL (w : Nat) : List Nat → Nat → List Nat
  | [], c => [c]
  | x :: xs, c => (x * w + c) % 18446744073709551616 :: mulL w xs ((x * w + c) / 18446744073709551616)
theorem mulL_val (w : Nat) : ∀ (xs : List Nat) (c : Nat), val (mulL w xs c) = val xs * w + c
  | [], c => by simp [mulL, val]
  | x :: xs, c => by
    simp only [mulL, val, mulL_val w xs, Nat.add_mul, Nat.mul_assoc]
    generalize x * w = y; generalize val xs * w = z; omega
theorem MulWord_walk {R : Rt} {a : Option Addr} {c l w z y : Nat} {xs : List Nat} {h0 : Hp} {q : Nat} (r : Rd h0 a c xs) (hl : l = xs.length) (hq : h0.size ≤ q) (hx : xs.length ≤ 8192) (hw : w < 18446744073709551616) (hz : z = xs.length + 1) (hy : y = xs.length + 1)
    (fs : List Nat) (g : ∀ v h', Keep h0 h' → Ans h0 h' v (lim (val fs)) → R v h') :
    ∀ (j n ca : Nat) (zs : List Nat) (h : Hp), n + j = xs.length → zs.length = xs.length + 1 → ca < 18446744073709551616 → Own h q zs → Keep h0 h → zs.take n ++ mulL w (xs.drop n) ca = fs →
      nat_MulWord.L4.t R (j + 1) a l c (w : Int) (some ⟨q, 0, none⟩) z y (ca : Int) (l : Int) (n : Int) h := by
  subst hl
  intro j
  induction j with
  | zero =>
    intro n ca zs h hn hzs hc ho kp e
    unfold nat_MulWord.L4.t nat_MulWord.D5.t
    refine c_dec (fun hb => absurd hb (by omega)) fun _ => ?_
    have en : n = xs.length := by omega
    subst en
    rw [List.drop_length] at e
    unfold nat_MulWord.D2.t
    refine put_intro ho (j := xs.length) rfl (by omega) (by omega) rfl hc fun o => ?_
    have e2 : zs.set xs.length ca = fs := by
      rw [← e]; show _ = _ ++ [ca]
      rw [← take_set_succ (by omega), List.take_of_length_le (by rw [List.length_set]; omega)]
    rw [e2] at o
    have e3 : fs.length = xs.length + 1 := by rw [← e2, List.length_set]; exact hzs
    have k2 := kp.set (v := wv ca) (i := xs.length) hq
    refine hc_intro (told_spec (o.got' (c := y) hq (by omega)) (by omega)) fun v h' ⟨e1, an⟩ => ?_
    subst e1
    refine an.elimG fun a c r i => ?_
    exact g _ _ k2 (Ans.back r i)
  | succ j ih =>
    intro n ca zs h hn hzs hc ho kp e
    have hxn : xs.getD n 0 < 18446744073709551616 := r.word n
    rw [drop_getD (xs := xs) (j := n) (by omega)] at e
    simp only [mulL] at e
    have hp : xs.getD n 0 * w ≤ 340282366920938463426481119284349108225 := Nat.mul_le_mul (show xs.getD n 0 ≤ 18446744073709551615 by omega) (show w ≤ 18446744073709551615 by omega)
    unfold nat_MulWord.L4.t nat_MulWord.D5.t
    refine c_dec (fun hb => ?_) fun hb => absurd (by omega) hb
    refine at_intro (r.keep kp) (j := n) rfl rfl (by omega) ?_
    refine hc_intro (Mul64_spec hxn hw _) fun v h' ⟨e1, an⟩ => ?_
    subst e1
    refine an.elim ?_
    generalize xs.getD n 0 * w = p at *
    refine add_intro (c := 0) rfl rfl rfl (by omega) ?_
    have e4 : (p % 18446744073709551616 + ca + 0) % 18446744073709551616 = (p + ca) % 18446744073709551616 := by omega
    rw [e4]
    refine put_intro ho (j := n) rfl (by omega) (by omega) rfl (by omega) fun o => ?_
    refine k_u64 ((p + ca) / 18446744073709551616) (by omega) (by omega) ?_
    refine k_i64 ((n + 1 : Nat) : Int) (by omega) (by omega) (by omega) ?_
    refine ih (n + 1) _ _ _ (by omega) (by simp; omega) (by omega) o (kp.set hq) ?_
    rw [← e, take_set_succ (by omega)]; simp
def mulWS (xs : List Nat) (w : Nat) : List Nat × Int := if Frm xs then lim (val xs * w) else ([], 2)
theorem MulWord_spec {a : Option Addr} {c l w : Nat} {xs : List Nat} {h : Hp} (r : Rd h a c xs) (hl : l = xs.length) (hw : w < 18446744073709551616) :
    HC nat_MulWord.id #[.slice a l c, .int .u64 (w : Int)] h fun v h' => Keep h h' ∧ Ans h h' v (mulWS xs w) := by
  refine nat_MulWord.ok ?_
  unfold nat_MulWord.t nat_MulWord.D1.t
  refine hc_intro (Form_spec r hl) fun v h' ⟨e1, e2⟩ => ?_
  subst e1; subst e2; subst hl
  refine gBool_intro rfl ?_
  unfold mulWS
  refine c_not (fun hf => ⟨Keep.refl _, ?_⟩) fun hf => ?_
  · rw [if_neg (of_decide_eq_false hf)]; exact Ans.none
  have f := of_decide_eq_true hf
  rw [if_pos f]
  have hf1 := f.1
  refine k_i64 ((xs.length + 1 : Nat) : Int) (by omega) (by omega) (by omega) ?_
  refine mk_intro (xs.length + 1) rfl rfl rfl rfl (by omega) fun h1 o k => ?_
  unfold nat_MulWord.D3.t
  refine ⟨xs.length + 1, ?_⟩
  refine MulWord_walk r rfl (Nat.le_refl _) hf1 hw rfl rfl (mulL w xs 0) ?_ xs.length 0 0 _ h1 (by omega) (by simp) (by omega) o k (by simp)
  rw [mulL_val, Nat.add_zero]; exact fun v h' k an => ⟨k, an⟩
theorem Word_spec {w : Nat} (hw : w < 18446744073709551616) (h : Hp) : HC nat_Word.id #[.int .u64 (w : Int)] h fun v h' => Keep h h' ∧ AnsS h h' v (digs w) := by
  refine nat_Word.ok ?_
  unfold nat_Word.t nat_Word.D1.t
  refine c_eq (fun h0 => ⟨Keep.refl _, ?_⟩) fun h0 => ?_
  · have : w = 0 := by omega
    subst this; rw [digs_zero]; exact ⟨none, 0, rfl, GotE.nil _ _⟩
  · refine box_intro [w] (by rfl) (by simp) (by simpa using hw) fun h1 o k => ⟨k, ?_⟩
    have e : digs w = [w] := by
      rw [digs_pos (by omega), show w / 18446744073709551616 = 0 by omega, digs_zero, Nat.mod_eq_of_lt hw]
    rw [e]; exact ⟨_, _, rfl, o.got' (Nat.le_refl _) (by simp)⟩
end Go.Proofs.Ytaglonbkdcmmpaa.G
