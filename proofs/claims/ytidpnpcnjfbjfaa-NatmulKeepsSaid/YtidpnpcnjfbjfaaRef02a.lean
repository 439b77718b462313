/- What the document's least, product, DocMul and DocSqr answer. -/
import Derived.Test.YtidpnpcnjfbjfaaRef01t
import Derived.Test.YtidpnpcnjfbjfaaMulCasts
namespace Go.Proofs.Ytidpnpcnjfbjfaa.G
open Go.Gv
set_option maxRecDepth 100000
theorem least_spec {x : Int} {n : Nat} (hx : x = (n : Int)) (hn : n < 9223372036854775000) (h : Hp) : HC gnomonref02_least.id #[.int .i64 x] h fun v h' => h' = h ∧ v = .int .i64 (((n + 63) / 64 : Nat) : Int) := by
  subst hx
  refine gnomonref02_least.ok ?_
  unfold gnomonref02_least.t gnomonref02_least.D1.t
  refine k_i64 ((n + 63 : Nat) : Int) (by omega) (by omega) (by omega) ?_
  refine ⟨by decide, ?_⟩
  have t : Int.tdiv ((n + 63 : Nat) : Int) 64 = (((n + 63) / 64 : Nat) : Int) := tdiv_nat _ 64
  rw [t]
  refine k_i64 (((n + 63) / 64 : Nat) : Int) rfl (by omega) (by omega) ?_
  exact ⟨rfl, rfl⟩
theorem D.len_bits (X : Nat) : (D.digs X).length = 0 ↔ X = 0 := by
  constructor
  · intro h
    have := (dlen_pow (X := X) (k := 0)).mp (by omega)
    simpa using this
  · intro h
    have := (dlen_pow (X := X) (k := 0)).mpr (by rw [h]; decide)
    omega
theorem D.bits_len (X : Nat) : blen X ≤ 32 * (D.digs X).length := blen_le.mpr (dlen_pow.mp (Nat.le_refl _))
theorem rproduct_spec {a b : Option Addr} {c d l m X Y : Nat} {h : Hp} (r : RdE eU32 h a c (D.digs X)) (s : RdE eU32 h b d (D.digs Y)) (hl : l = (D.digs X).length) (hm : m = (D.digs Y).length) (hx : (D.digs X).length ≤ 1099511627776) (hy : (D.digs Y).length ≤ 1099511627776) :
    HC gnomonref02_product.id #[.slice a l c, .slice b m d] h fun v h' => Keep h h' ∧ Ans h h' v (lim (X * Y)) := by
  subst hl; subst hm
  have z0 : lim 0 = ([], 0) := by simp [lim, digs_zero]
  refine gnomonref02_product.ok ?_
  unfold gnomonref02_product.t gnomonref02_product.D1.t
  refine c_eq (fun h0 => ⟨Keep.refl _, ?_⟩) fun h0 => ?_
  · rw [(D.len_bits X).mp (by omega), Nat.zero_mul, z0]; exact Ans.none
  refine c_eq (fun h1 => ⟨Keep.refl _, ?_⟩) fun h1 => ?_
  · rw [(D.len_bits Y).mp (by omega), Nat.mul_zero, z0]; exact Ans.none
  have hX0 : X ≠ 0 := fun e => h0 (by rw [(D.len_bits X).mpr e]; rfl)
  have hY0 : Y ≠ 0 := fun e => h1 (by rw [(D.len_bits Y).mpr e]; rfl)
  have bx := D.bits_len X
  have by_ := D.bits_len Y
  have px := blen_pos hX0
  have py := blen_pos hY0
  have hp := blen_prod hX0 hY0
  unfold gnomonref02_product.D2.t
  refine hc_intro (rBits_spec r rfl) fun v h' ⟨e1, e2⟩ => ?_
  subst e1; subst e2
  refine gInt_intro rfl ?_
  refine hc_intro (rBits_spec s rfl) fun v h' ⟨e1, e2⟩ => ?_
  subst e1; subst e2
  refine gInt_intro rfl ?_
  refine k_i64 ((blen X + blen Y : Nat) : Int) (by omega) (by omega) (by omega) ?_
  refine k_i64 ((blen X + blen Y - 1 : Nat) : Int) (by omega) (by omega) (by omega) ?_
  refine hc_intro (least_spec rfl (by omega) _) fun v h' ⟨e1, e2⟩ => ?_
  subst e1; subst e2
  refine gInt_intro rfl ?_
  refine c_dec (fun hb => ⟨Keep.refl _, ?_⟩) fun hb => ?_
  · rw [lim_big (v := X * Y) (by omega)]; exact Ans.none
  refine hc_intro (rMul_spec r s rfl rfl hx hy) fun v h2 ⟨k2, a2, c2, e, g2⟩ => ?_
  subst e
  refine gSlice_intro rfl ?_
  exact told_tail g2 rfl k2 rfl
theorem dl_of {xs : List Nat} {h : Hp} {a : Option Addr} {c : Nat} (f : Frm xs) (r : Rd h a c xs) : (D.digs (val xs)).length ≤ 16384 := dl_frm f r.words
theorem DocMul_spec {a b : Option Addr} {c d l m : Nat} {xs ys : List Nat} {h : Hp} (r : Rd h a c xs) (s : Rd h b d ys) (hl : l = xs.length) (hm : m = ys.length) :
    HC gnomonref02_DocMul.id #[.slice a l c, .slice b m d] h fun v h' => Keep h h' ∧ Ans h h' v (mulS xs ys) := by
  subst hl; subst hm
  refine gnomonref02_DocMul.ok ?_
  unfold gnomonref02_DocMul.t gnomonref02_DocMul.D1.t
  refine hc_intro (DocForm_spec r rfl) fun v h' ⟨e1, e2⟩ => ?_
  subst e1; subst e2
  refine gBool_intro rfl ?_
  refine c_not (fun hf => ⟨Keep.refl _, ?_⟩) fun hf => ?_
  · unfold mulS; rw [if_neg (fun hh => of_decide_eq_false hf hh.1)]; exact Ans.none
  refine hc_intro (DocForm_spec s rfl) fun v h' ⟨e1, e2⟩ => ?_
  subst e1; subst e2
  refine gBool_intro rfl ?_
  refine c_not (fun hf2 => ⟨Keep.refl _, ?_⟩) fun hf2 => ?_
  · unfold mulS; rw [if_neg (fun hh => of_decide_eq_false hf2 hh.2)]; exact Ans.none
  have f1 := of_decide_eq_true hf
  have f2 := of_decide_eq_true hf2
  rw [mulS_form f1 f2]
  have d1 := dl_of f1 r
  have d2 := dl_of f2 s
  unfold gnomonref02_DocMul.D2.t
  refine hc_intro (From_spec r rfl) fun v h1 ⟨k1, a1, c1, e, g1⟩ => ?_
  subst e
  refine gSlice_intro rfl ?_
  refine hc_intro (From_spec (s.keep k1) rfl) fun v h2 ⟨k2, a2, c2, e, g2⟩ => ?_
  subst e
  refine gSlice_intro rfl ?_
  refine hc_intro (rproduct_spec (g1.keep k2).rd g2.rd rfl rfl (by omega) (by omega)) fun v h3 ⟨k3, an⟩ => ?_
  refine an.elimG fun a3 c3 g3 i3 => ?_
  exact ⟨k1.trans (k2.trans k3), Ans.back (g3.from (k1.trans k2).le) i3⟩
theorem DocSqr_spec {a : Option Addr} {c l : Nat} {xs : List Nat} {h : Hp} (r : Rd h a c xs) (hl : l = xs.length) :
    HC gnomonref02_DocSqr.id #[.slice a l c] h fun v h' => Keep h h' ∧ Ans h h' v (mulS xs xs) := by
  refine gnomonref02_DocSqr.ok ?_
  unfold gnomonref02_DocSqr.t gnomonref02_DocSqr.D1.t
  refine hc_intro (DocMul_spec r r hl hl) fun v h3 ⟨k3, an⟩ => ?_
  refine an.elimG fun a3 c3 g3 i3 => ?_
  exact ⟨k3, Ans.back g3 i3⟩
end Go.Proofs.Ytidpnpcnjfbjfaa.G
