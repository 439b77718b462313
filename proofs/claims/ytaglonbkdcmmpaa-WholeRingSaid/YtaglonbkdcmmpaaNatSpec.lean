/- What the functions of nat answer, by values of lists. -/
import Derived.Test.YtaglonbkdcmmpaaF
import Derived.Test.YtaglonbkdcmmpaaGvDig
namespace Go.Proofs.Ytaglonbkdcmmpaa.G
open Go.Gv
theorem trim_loop {R : Rt} {a : Option Addr} {c l : Nat} {xs : List Nat} {h : Hp} (r : Rd h a c xs) (hl : l = xs.length) (g : R (.slice a (trimL xs).length c) h) :
    ∀ n : Nat, n ≤ xs.length → trimL (xs.take n) = trimL xs → nat_trim.L3.t R (n + 1) a l c (n : Int) h := by
  have h1 := r.len
  intro n
  have fin : ∀ n : Nat, n ≤ xs.length → trimL xs = xs.take n → nat_trim.D2.t R a l c (n : Int) h := by
    intro n hn e
    refine sl_to rfl (Nat.le_trans hn r.cap) ?_
    have e2 : (trimL xs).length = n := by rw [e, List.length_take]; omega
    rw [← e2]; exact g
  induction n with
  | zero =>
    intro hn hz
    unfold nat_trim.L3.t nat_trim.D4.t
    refine c_dec (fun h => absurd h (by omega)) fun _ => fin 0 hn ?_
    rw [← hz]; rfl
  | succ n ih =>
    intro hn hz
    refine c_dec (fun _ => ?_) fun h => absurd (by omega) h
    refine k_i64 (n : Int) (by omega) (by omega) (by omega) ?_
    refine at_intro r (j := n) rfl hl (by omega) ?_
    have es := take_snoc (xs := xs) (n := n) (by omega)
    refine c_eq (fun he => ?_) fun he => ?_
    · refine k_i64 (n : Int) (by omega) (by omega) (by omega) ?_
      refine ih (by omega) ?_
      rw [← hz, es, show xs.getD n 0 = 0 by omega, trimL_zero]
    · refine fin (n + 1) hn ?_
      rw [← hz, es, trimL_last _ (by omega)]
theorem trim_spec {a : Option Addr} {c l : Nat} {xs : List Nat} {h : Hp} (r : Rd h a c xs) (hl : l = xs.length) :
    HC nat_trim.id #[.slice a l c] h fun v h' => h' = h ∧ v = .slice a (trimL xs).length c ∧ Rd h a c (trimL xs) := by
  have hr : Rd h a c (trimL xs) := by
    have : ∀ n : Nat, n ≤ xs.length → trimL (xs.take n) = trimL xs → ∃ m, trimL xs = xs.take m := by
      intro n
      induction n with
      | zero => intro _ e; exact ⟨0, by rw [← e]; rfl⟩
      | succ n ih =>
        intro hn e
        have es := take_snoc (xs := xs) (n := n) (by omega)
        by_cases h0 : xs.getD n 0 = 0
        · refine ih (by omega) ?_; rw [← e, es, h0, trimL_zero]
        · refine ⟨n + 1, ?_⟩; rw [← e, es, trimL_last _ h0]
    obtain ⟨m, e⟩ := this xs.length (Nat.le_refl _) (by rw [List.take_length])
    rw [e]; exact r.take m
  refine nat_trim.ok ?_
  unfold nat_trim.t nat_trim.D1.t
  refine ⟨xs.length + 1, ?_⟩
  subst hl
  exact trim_loop r rfl ⟨rfl, rfl, hr⟩ xs.length (Nat.le_refl _) (by rw [List.take_length])
theorem told_spec {a : Option Addr} {c l : Nat} {xs : List Nat} {h0 h : Hp} (g : GotE eU64 h0 h a c xs) (hl : l = xs.length) :
    HC nat_told.id #[.slice a l c] h fun v h' => h' = h ∧ Ans h0 h v (lim (val xs)) := by
  have r := g.rd64
  refine nat_told.ok ?_
  unfold nat_told.t nat_told.D1.t
  refine hc_intro (trim_spec r hl) fun v h' ⟨e1, e2, r'⟩ => ?_
  subst e1; subst e2
  have e := digs_val r.words
  refine c_dec (fun hb => ?_) fun hb => ?_
  · refine ⟨rfl, ?_⟩
    unfold lim; rw [e, if_neg (by omega)]; exact Ans.none
  · refine ⟨rfl, ?_⟩
    unfold lim; rw [e, if_pos (by omega)]; exact Ans.mk rfl rfl g.trim (show In .i64 0 by decide)
theorem Form_spec {a : Option Addr} {c l : Nat} {xs : List Nat} {h : Hp} (r : Rd h a c xs) (hl : l = xs.length) :
    HC nat_Form.id #[.slice a l c] h fun v h' => h' = h ∧ v = .bool (decide (Frm xs)) := by
  subst hl
  have h1 := r.len
  refine nat_Form.ok ?_
  unfold nat_Form.t nat_Form.D1.t
  refine c_dec (fun hb => ?_) fun hb => ?_
  · refine c_eq (fun h0 => ?_) fun h0 => ?_
    · refine ⟨rfl, ?_⟩
      have e : xs = [] := List.length_eq_zero_iff.mp (by omega)
      subst e; rfl
    · refine k_i64 ((xs.length - 1 : Nat) : Int) (by omega) (by omega) (by omega) ?_
      refine at_intro r (j := xs.length - 1) rfl rfl (by omega) ⟨rfl, ?_⟩
      have hiff := @trimL_iff xs
      by_cases hz : xs.getD (xs.length - 1) 0 = 0
      · rw [hz]
        have : ¬ Frm xs := fun f => by
          rcases hiff.mp f.2 with e | e
          · subst e; simp at h0
          · exact e hz
        simp [this]
      · have : Frm xs := ⟨by omega, hiff.mpr (Or.inr hz)⟩
        simp only [this, decide_true]
        congr 1
        exact bne_iff_ne.mpr (by omega)
  · refine ⟨rfl, ?_⟩
    have : ¬ Frm xs := fun f => by have := f.1; omega
    simp [this]
end Go.Proofs.Ytaglonbkdcmmpaa.G
