/- What Cmp answers. -/
import Derived.Test.YtaglonbkdcmmpaaNatSpec
namespace Go.Proofs.Ytaglonbkdcmmpaa.G
open Go.Gv
set_option maxRecDepth 100000
theorem Cmp_loop {R : Rt} {a b : Option Addr} {c d l m : Nat} {xs ys : List Nat} {h : Hp} (r : Rd h a c xs) (s : Rd h b d ys) (hl : l = xs.length) (hm : m = ys.length) (he : xs.length = ys.length) (g : R (.int .i64 (cmpI (val xs) (val ys))) h) :
    ∀ n : Nat, n ≤ xs.length → xs.drop n = ys.drop n → nat_Cmp.L4.t R (n + 1) a l c b m d ((n : Int) - 1) h := by
  subst hl; subst hm
  have h1 := r.len
  intro n
  induction n with
  | zero =>
    intro hn ht
    unfold nat_Cmp.L4.t nat_Cmp.D5.t
    refine c_dec (fun hb => absurd hb (by omega)) fun _ => ?_
    have e : xs = ys := by simpa using ht
    unfold nat_Cmp.D2.t
    rw [e] at g
    have e0 : cmpI (val ys) (val ys) = 0 := by simp [cmpI]
    rw [e0] at g; exact g
  | succ n ih =>
    intro hn ht
    unfold nat_Cmp.L4.t nat_Cmp.D5.t
    refine c_dec (fun hb => ?_) fun hb => absurd (by omega) hb
    refine at_intro r (j := n) (by omega) rfl (by omega) ?_
    refine at_intro s (j := n) (by omega) rfl (by omega) ?_
    refine c_ne (fun hne => ?_) fun heq => ?_
    · refine at_intro r (j := n) (by omega) rfl (by omega) ?_
      refine at_intro s (j := n) (by omega) rfl (by omega) ?_
      refine c_dec (fun hlt => ?_) fun hlt => ?_
      · have := val_lt_at r.words s.words he (by omega) ht (by omega)
        have e0 : cmpI (val xs) (val ys) = -1 := by simp [cmpI, this]
        rw [e0] at g; exact g
      · have := val_lt_at s.words r.words he.symm (by omega) ht.symm (j := n) (by omega)
        have e0 : cmpI (val xs) (val ys) = 1 := by unfold cmpI; rw [if_neg (by omega), if_neg (by omega)]
        rw [e0] at g; exact g
    · refine k_i64 ((n : Int) - 1) (by omega) (by omega) (by omega) ?_
      refine ih (by omega) ?_
      rw [drop_getD (by omega), drop_getD (xs := ys) (by omega), ht, show xs.getD n 0 = ys.getD n 0 by omega]
theorem Cmp_spec {a b : Option Addr} {c d l m : Nat} {xs ys : List Nat} {h : Hp} (r : Rd h a c xs) (s : Rd h b d ys) (hl : l = xs.length) (hm : m = ys.length) :
    HC nat_Cmp.id #[.slice a l c, .slice b m d] h fun v h' => h' = h ∧ v = .int .i64 (cmpI (val xs) (val ys)) := by
  refine nat_Cmp.ok ?_
  unfold nat_Cmp.t nat_Cmp.D1.t
  refine hc_intro (trim_spec r hl) fun v h' ⟨e1, e2, r'⟩ => ?_
  subst e1; subst e2
  refine gSlice_intro rfl ?_
  refine hc_intro (trim_spec s hm) fun v h' ⟨e1, e2, s'⟩ => ?_
  subst e1; subst e2
  refine gSlice_intro rfl ?_
  rw [← val_trimL xs, ← val_trimL ys]
  have hx := r'.len
  refine c_ne (fun hne => ?_) fun heq => ?_
  · refine c_dec (fun hlt => ⟨rfl, ?_⟩) fun hlt => ⟨rfl, ?_⟩
    · have := val_lt_len r'.words (trimL_trimL ys) (by omega)
      simp [cmpI, this]
    · have := val_lt_len s'.words (trimL_trimL xs) (by omega)
      unfold cmpI; rw [if_neg (by omega), if_neg (by omega)]
  · unfold nat_Cmp.D3.t
    refine k_i64 (((trimL xs).length : Int) - 1) (by omega) (by omega) (by omega) ?_
    refine ⟨(trimL xs).length + 1, ?_⟩
    refine Cmp_loop r' s' rfl rfl (by omega) ⟨rfl, rfl⟩ _ (Nat.le_refl _) ?_
    rw [List.drop_length, show (trimL xs).length = (trimL ys).length by omega, List.drop_length]
end Go.Proofs.Ytaglonbkdcmmpaa.G
