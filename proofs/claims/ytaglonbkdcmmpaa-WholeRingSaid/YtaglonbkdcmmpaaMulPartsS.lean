/- What Parts answers, for any arguments. -/
import Derived.Test.YtaglonbkdcmmpaaMulJoins
namespace Go.Proofs.Ytaglonbkdcmmpaa.G
open Go.Gv
set_option linter.unusedVariables false
set_option maxRecDepth 100000
abbrev P4 := List Nat × List Nat × List Nat × Int
def partsV (X Y k : Nat) : P4 :=
  if (lim (lo X k * lo Y k)).2 = 0 ∧ (lim (lo X k * hi Y k + hi X k * lo Y k)).2 = 0 ∧ (lim (hi X k * hi Y k)).2 = 0 then (digs (lo X k * lo Y k), digs (lo X k * hi Y k + hi X k * lo Y k), digs (hi X k * hi Y k), 0) else ([], [], [], 5)
def partsS (xs ys : List Nat) (x : Int) : P4 := if x < 1 ∨ x > 8192 then ([], [], [], 1) else if Frm xs ∧ Frm ys then partsV (val xs) (val ys) x.toNat else ([], [], [], 2)
theorem Parts_fullF {a b : Option Addr} {c d l m : Nat} {xs ys : List Nat} {h : Hp} {x : Int} (r : Rd h a c xs) (s : Rd h b d ys) (hl : l = xs.length) (hm : m = ys.length) :
    HC natmul_Parts.id #[.slice a l c, .slice b m d, .int .i64 x] h fun v h' => Keep h h' ∧ Ans4F h.size h' v (partsS xs ys x).1 (partsS xs ys x).2.1 (partsS xs ys x).2.2.1 (partsS xs ys x).2.2.2 := by
  by_cases hk : x < 1 ∨ x > 8192
  · have e : partsS xs ys x = ([], [], [], 1) := if_pos hk
    rw [e]
    refine hc_intro (Parts_badF hk) fun v h' ⟨e1, an⟩ => ?_
    subst e1; exact ⟨Keep.refl _, an⟩
  obtain ⟨k, rfl⟩ := Int.eq_ofNat_of_zero_le (show 0 ≤ x by omega)
  by_cases hf : Frm xs ∧ Frm ys
  · have e : partsS xs ys (k : Int) = partsV (val xs) (val ys) k := by unfold partsS; rw [if_neg hk, if_pos hf, Int.toNat_natCast]
    rw [e]
    refine hc_intro (Parts_specF r s hl hm hf.1 hf.2 (by omega) (by omega) rfl rfl rfl) fun v h' ⟨k1, o⟩ => ⟨k1, ?_⟩
    unfold partsV
    rcases o with ⟨o1, o2, o3, an⟩ | ⟨o1, an⟩
    · rw [if_pos ⟨o1, o2, o3⟩]; exact an
    · rw [if_neg o1]; exact an
  · have e : partsS xs ys (k : Int) = ([], [], [], 2) := by unfold partsS; rw [if_neg hk, if_neg hf]
    rw [e]
    refine natmul_Parts.ok ?_
    unfold natmul_Parts.t natmul_Parts.D1.t
    refine c_dec (fun hb => absurd hb (by omega)) fun _ => ?_
    refine c_dec (fun hb => absurd hb (by omega)) fun _ => ?_
    unfold natmul_Parts.D2.t
    refine hc_intro (Form_spec r hl) fun v h' ⟨e1, e2⟩ => ?_
    subst e1; subst e2
    refine gBool_intro rfl ?_
    refine c_not (fun _ => ⟨Keep.refl _, Ans4F.none⟩) fun h1 => ?_
    refine hc_intro (Form_spec s hm) fun v h' ⟨e1, e2⟩ => ?_
    subst e1; subst e2
    refine gBool_intro rfl ?_
    exact c_not (fun _ => ⟨Keep.refl _, Ans4F.none⟩) fun h2 => absurd ⟨of_decide_eq_true h1, of_decide_eq_true h2⟩ hf
theorem Parts_full {a b : Option Addr} {c d l m : Nat} {xs ys : List Nat} {h : Hp} {x : Int} (r : Rd h a c xs) (s : Rd h b d ys) (hl : l = xs.length) (hm : m = ys.length) :
    HC natmul_Parts.id #[.slice a l c, .slice b m d, .int .i64 x] h fun v h' => Keep h h' ∧ Ans4 h' v (partsS xs ys x).1 (partsS xs ys x).2.1 (partsS xs ys x).2.2.1 (partsS xs ys x).2.2.2 := hc_intro (Parts_fullF r s hl hm) fun v h' ⟨k1, an⟩ => ⟨k1, an.weak⟩
end Go.Proofs.Ytaglonbkdcmmpaa.G
