/- The law NatmulRing of the translation answers true. -/
import Derived.Test.YtaglonbkdcmmpaaMulSpec3
namespace Go.Proofs.Ytaglonbkdcmmpaa.G
open Go.Gv
set_option maxRecDepth 100000
theorem mulS_form {xs ys : List Nat} (fx : Frm xs) (fy : Frm ys) : mulS xs ys = lim (val xs * val ys) := if_pos ⟨fx, fy⟩
theorem Sqr_spec {a : Option Addr} {c l : Nat} {xs : List Nat} {h : Hp} (r : Rd h a c xs) (hl : l = xs.length) :
    HC natmul_Sqr.id #[.slice a l c] h fun v h' => Keep h h' ∧ Ans h h' v (mulS xs xs) := by
  refine natmul_Sqr.ok ?_
  unfold natmul_Sqr.t natmul_Sqr.D1.t
  refine hc_intro (Mul_spec r r hl hl) fun v h1 ⟨k, an⟩ => ?_
  refine an.elimG fun a5 c5 r5 i5 => ?_
  exact ⟨k, Ans.back r5 i5⟩
end Go.Proofs.Ytaglonbkdcmmpaa.G
