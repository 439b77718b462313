/- What the document's calls of layer 1 answer: they are the program's answers. -/
import Derived.Test.YtnbpbojcjihboaaDoorRef01e
import Derived.Test.YtnbpbojcjihboaaDoorRef01t
import Derived.Test.YtnbpbojcjihboaaDoorNatCmp
import Derived.Test.YtnbpbojcjihboaaDoorNatSub
import Derived.Test.YtnbpbojcjihboaaDoorNatShift
import Derived.Test.YtnbpbojcjihboaaDoorNatMulWord
import Derived.Test.YtnbpbojcjihboaaDoorNatDivWord
namespace Go.Proofs.YtnbpbojcjihboaaDoor.G
open Go.Gv
set_option maxRecDepth 100000
set_option linter.unusedVariables false
theorem not_formed {h0 h : Hp} {n : Int} (k : Keep h0 h) {p : List Nat × Int} (e : p = ([], n)) (i : In .i64 n) : (fun v h' => Keep h0 h' ∧ Ans h0 h' v p) (.tuple #[.slice Option.none 0 0, .int .i64 n]) h := by
  subst e; exact ⟨k, Ans.none i⟩
section
variable {a b : Option Addr} {c d l m : Nat} {xs ys : List Nat} {h : Hp}
theorem DocNorm_spec (r : Rd h a c xs) (hl : l = xs.length) : HC gnomonref01_DocNorm.id #[.slice a l c] h fun v h' => Keep h h' ∧ Ans h h' v (lim (val xs)) := by
  refine gnomonref01_DocNorm.ok ?_
  unfold gnomonref01_DocNorm.t gnomonref01_DocNorm.D1.t
  refine hc_intro (From_spec r hl) fun v h1 ⟨k1, s⟩ => ?_
  refine s.elim fun a1 c1 g1 => ?_
  exact told_tail g1 rfl k1 rfl
theorem DocWord_spec {x : Int} {w : Nat} (hx : x = (w : Int)) (hw : w < 18446744073709551616) : HC gnomonref01_DocWord.id #[.int .u64 x] h fun v h' => Keep h h' ∧ AnsS h h' v (digs w) := by
  refine gnomonref01_DocWord.ok ?_
  unfold gnomonref01_DocWord.t gnomonref01_DocWord.D1.t
  refine hc_intro (rWord_spec hx hw h) fun v h1 ⟨k1, s⟩ => ?_
  refine s.elim fun a1 c1 g1 => ?_
  refine hc_intro (To_spec g1.rd rfl) fun v h2 ⟨k2, a2, c2, e, g2⟩ => ?_
  subst e
  exact ⟨k1.trans k2, _, _, rfl, g2.from k1.le⟩
theorem DocBits_spec (r : Rd h a c xs) (hl : l = xs.length) : HC gnomonref01_DocBits.id #[.slice a l c] h fun v h' => Keep h h' ∧ v = .int .i64 ((blen (val xs) : Nat) : Int) := by
  refine gnomonref01_DocBits.ok ?_
  unfold gnomonref01_DocBits.t gnomonref01_DocBits.D1.t
  refine hc_intro (From_spec r hl) fun v h1 ⟨k1, s⟩ => ?_
  refine s.elim fun a1 c1 g1 => ?_
  refine hc_intro (rBits_spec g1.rd rfl) fun v h2 ⟨e1, e2⟩ => ?_
  subst e1; subst e2
  exact ⟨k1, rfl⟩
theorem DocBit_spec (r : Rd h a c xs) (hl : l = xs.length) {x : Int} (hx : In .i64 x) : HC gnomonref01_DocBit.id #[.slice a l c, .int .i64 x] h fun v h' => Keep h h' ∧ v = .bool (bitS (val xs) x == 1) := by
  refine gnomonref01_DocBit.ok ?_
  unfold gnomonref01_DocBit.t gnomonref01_DocBit.D1.t
  refine hc_intro (From_spec r hl) fun v h1 ⟨k1, s⟩ => ?_
  refine s.elim fun a1 c1 g1 => ?_
  refine hc_intro (rBit_spec g1.rd rfl hx) fun v h2 ⟨e1, e2⟩ => ?_
  subst e1; subst e2
  exact ⟨k1, rfl⟩
theorem DocCmp_spec (r : Rd h a c xs) (s : Rd h b d ys) (hl : l = xs.length) (hm : m = ys.length) : HC gnomonref01_DocCmp.id #[.slice a l c, .slice b m d] h fun v h' => Keep h h' ∧ v = .int .i64 (cmpI (val xs) (val ys)) := by
  refine gnomonref01_DocCmp.ok ?_
  unfold gnomonref01_DocCmp.t gnomonref01_DocCmp.D1.t
  refine hc_intro (From_spec r hl) fun v h1 ⟨k1, s1⟩ => ?_
  refine s1.elim fun a1 c1 g1 => ?_
  refine hc_intro (From_spec (s.keep k1) hm) fun v h2 ⟨k2, s2'⟩ => ?_
  refine s2'.elim fun a2 c2 g2 => ?_
  refine hc_intro (rCmp_spec (g1.rd.keep k2) g2.rd rfl rfl) fun v h3 ⟨e1, e2⟩ => ?_
  subst e1; subst e2
  exact ⟨k1.trans k2, rfl⟩
theorem DocAdd_spec (r : Rd h a c xs) (s : Rd h b d ys) (hl : l = xs.length) (hm : m = ys.length) : HC gnomonref01_DocAdd.id #[.slice a l c, .slice b m d] h fun v h' => Keep h h' ∧ Ans h h' v (addS xs ys) := by
  refine gnomonref01_DocAdd.ok ?_
  unfold gnomonref01_DocAdd.t gnomonref01_DocAdd.D1.t
  refine hc_intro (DocForm_spec r hl) fun v h' ⟨e1, e2⟩ => ?_
  subst e1; subst e2
  refine gBool_intro rfl ?_
  refine c_not (fun hf => not_formed (Keep.refl _) (by unfold addS; rw [if_neg (fun hh => of_decide_eq_false hf hh.1)]) (by decide)) fun hf => ?_
  refine hc_intro (DocForm_spec s hm) fun v h' ⟨e1, e2⟩ => ?_
  subst e1; subst e2
  refine gBool_intro rfl ?_
  refine c_not (fun hf2 => not_formed (Keep.refl _) (by unfold addS; rw [if_neg (fun hh => of_decide_eq_false hf2 hh.2)]) (by decide)) fun hf2 => ?_
  have f1 := of_decide_eq_true hf
  have f2 := of_decide_eq_true hf2
  unfold gnomonref01_DocAdd.D2.t
  refine hc_intro (From_spec r hl) fun v h1 ⟨k1, s1⟩ => ?_
  refine s1.elim fun a1 c1 g1 => ?_
  refine hc_intro (From_spec (s.keep k1) hm) fun v h2 ⟨k2, s2'⟩ => ?_
  refine s2'.elim fun a2 c2 g2 => ?_
  have d1 := dl_frm f1 r.words
  have d2 := dl_frm f2 s.words
  refine hc_intro (rAdd_spec (g1.rd.keep k2) g2.rd rfl rfl (by omega) (by omega)) fun v h3 ⟨k3, s3'⟩ => ?_
  refine s3'.elim fun a3 c3 g3 => ?_
  exact told_tail (g3.from (k1.trans k2).le) rfl ((k1.trans k2).trans k3) (by unfold addS; rw [if_pos ⟨f1, f2⟩])
theorem DocSub_spec (r : Rd h a c xs) (s : Rd h b d ys) (hl : l = xs.length) (hm : m = ys.length) : HC gnomonref01_DocSub.id #[.slice a l c, .slice b m d] h fun v h' => Keep h h' ∧ Ans h h' v (subS xs ys) := by
  refine gnomonref01_DocSub.ok ?_
  unfold gnomonref01_DocSub.t gnomonref01_DocSub.D1.t
  refine hc_intro (DocForm_spec r hl) fun v h' ⟨e1, e2⟩ => ?_
  subst e1; subst e2
  refine gBool_intro rfl ?_
  refine c_not (fun hf => not_formed (Keep.refl _) (by unfold subS; rw [if_neg (fun hh => of_decide_eq_false hf hh.1)]) (by decide)) fun hf => ?_
  refine hc_intro (DocForm_spec s hm) fun v h' ⟨e1, e2⟩ => ?_
  subst e1; subst e2
  refine gBool_intro rfl ?_
  refine c_not (fun hf2 => not_formed (Keep.refl _) (by unfold subS; rw [if_neg (fun hh => of_decide_eq_false hf2 hh.2)]) (by decide)) fun hf2 => ?_
  have f1 := of_decide_eq_true hf
  have f2 := of_decide_eq_true hf2
  unfold gnomonref01_DocSub.D2.t
  refine hc_intro (From_spec r hl) fun v h1 ⟨k1, s1⟩ => ?_
  refine s1.elim fun a1 c1 g1 => ?_
  refine hc_intro (From_spec (s.keep k1) hm) fun v h2 ⟨k2, s2'⟩ => ?_
  refine s2'.elim fun a2 c2 g2 => ?_
  refine hc_intro (rCmp_spec (g1.rd.keep k2) g2.rd rfl rfl) fun v h3 ⟨e1, e2⟩ => ?_
  subst e1; subst e2
  refine gInt_intro rfl ?_
  have k12 := k1.trans k2
  refine c_dec (fun hb => not_formed k12 ?_ (by decide)) fun hb => ?_
  · have hlt : val xs < val ys := by unfold cmpI at hb; split at hb <;> (try split at hb) <;> omega
    unfold subS; rw [if_pos ⟨f1, f2⟩, if_pos hlt]
  have hge : ¬ val xs < val ys := by unfold cmpI at hb; split at hb <;> (try split at hb) <;> omega
  have rx := r.keep k12
  have ry := s.keep k12
  refine hc_intro (From_spec rx hl) fun v h4 ⟨k4, s4'⟩ => ?_
  refine s4'.elim fun a4 c4 g4 => ?_
  refine hc_intro (From_spec (ry.keep k4) hm) fun v h5 ⟨k5, s5⟩ => ?_
  refine s5.elim fun a5 c5 g5 => ?_
  refine hc_intro (rSub_spec (g4.rd.keep k5) g5.rd rfl rfl) fun v h6 ⟨k6, s6⟩ => ?_
  refine s6.elim fun a6 c6 g6 => ?_
  have kk := k12.trans (k4.trans k5)
  exact told_tail (g6.from kk.le) rfl (kk.trans k6) (by unfold subS; rw [if_pos ⟨f1, f2⟩, if_neg hge])
theorem shl_over {X : Nat} {n : Nat} (h0 : X ≠ 0) (h : 524288 < n) : lim (X * 2 ^ n) = ([], 5) := by
  refine lim_big ?_
  rw [blen_mul n h0]; have := blen_pos h0; omega
theorem DocShl_spec (r : Rd h a c xs) (hl : l = xs.length) {x : Int} (hx : In .i64 x) : HC gnomonref01_DocShl.id #[.slice a l c, .int .i64 x] h fun v h' => Keep h h' ∧ Ans h h' v (shlS xs x) := by
  subst hl
  rw [in_i64] at hx
  refine gnomonref01_DocShl.ok ?_
  unfold gnomonref01_DocShl.t gnomonref01_DocShl.D1.t
  refine c_dec (fun hn => not_formed (Keep.refl _) (by unfold shlS; rw [if_pos hn]) (by decide)) fun hn => ?_
  refine hc_intro (DocForm_spec r rfl) fun v h' ⟨e1, e2⟩ => ?_
  subst e1; subst e2
  refine gBool_intro rfl ?_
  refine c_not (fun hf => not_formed (Keep.refl _) (by unfold shlS; rw [if_neg hn, if_neg (of_decide_eq_false hf)]) (by decide)) fun hf => ?_
  have f1 := of_decide_eq_true hf
  obtain ⟨n, rfl⟩ : ∃ n : Nat, x = (n : Int) := ⟨x.toNat, by omega⟩
  have e0 : shlS xs (n : Int) = lim (val xs * 2 ^ n) := by unfold shlS; rw [if_neg hn, if_pos f1, Int.toNat_natCast]
  rw [e0]
  refine c_eq (fun hb => not_formed (Keep.refl _) ?_ (by decide)) fun hb => ?_
  · have e : xs = [] := List.length_eq_zero_iff.mp (by omega)
    subst e; simp [val, lim, digs_zero]
  have hx0 : val xs ≠ 0 := by
    intro e
    have := trimL_nil_iff.mpr e
    rw [f1.2] at this
    subst this; exact hb rfl
  refine c_dec (fun hb2 => not_formed (Keep.refl _) (shl_over hx0 (by omega)) (by decide)) fun hb2 => ?_
  refine hc_intro (From_spec r rfl) fun v h1 ⟨k1, s1⟩ => ?_
  refine s1.elim fun a1 c1 g1 => ?_
  have d1 := dl_frm f1 r.words
  refine hc_intro (rShl_spec g1.rd rfl rfl (by omega) (by omega)) fun v h2 ⟨k2, s2'⟩ => ?_
  refine s2'.elim fun a2 c2 g2 => ?_
  exact told_tail (g2.from k1.le) rfl (k1.trans k2) rfl
theorem DocShr_spec (r : Rd h a c xs) (hl : l = xs.length) {x : Int} (hx : In .i64 x) : HC gnomonref01_DocShr.id #[.slice a l c, .int .i64 x] h fun v h' => Keep h h' ∧ Ans h h' v (shrS xs x) := by
  subst hl
  rw [in_i64] at hx
  refine gnomonref01_DocShr.ok ?_
  unfold gnomonref01_DocShr.t gnomonref01_DocShr.D1.t
  refine c_dec (fun hn => not_formed (Keep.refl _) (by unfold shrS; rw [if_pos hn]) (by decide)) fun hn => ?_
  refine hc_intro (DocForm_spec r rfl) fun v h' ⟨e1, e2⟩ => ?_
  subst e1; subst e2
  refine gBool_intro rfl ?_
  refine c_not (fun hf => not_formed (Keep.refl _) (by unfold shrS; rw [if_neg hn, if_neg (of_decide_eq_false hf)]) (by decide)) fun hf => ?_
  have f1 := of_decide_eq_true hf
  obtain ⟨n, rfl⟩ : ∃ n : Nat, x = (n : Int) := ⟨x.toNat, by omega⟩
  have e0 : shrS xs (n : Int) = lim (val xs / 2 ^ n) := by unfold shrS; rw [if_neg hn, if_pos f1, Int.toNat_natCast]
  rw [e0]
  refine hc_intro (From_spec r rfl) fun v h1 ⟨k1, s1⟩ => ?_
  refine s1.elim fun a1 c1 g1 => ?_
  refine hc_intro (rShr_spec g1.rd rfl rfl (by omega)) fun v h2 ⟨k2, s2'⟩ => ?_
  refine s2'.elim fun a2 c2 g2 => ?_
  exact told_tail (g2.from k1.le) rfl (k1.trans k2) rfl
theorem DocLow_spec (r : Rd h a c xs) (hl : l = xs.length) {x : Int} (hx : In .i64 x) : HC gnomonref01_DocLow.id #[.slice a l c, .int .i64 x] h fun v h' => Keep h h' ∧ Ans h h' v (lowS xs x) := by
  subst hl
  rw [in_i64] at hx
  refine gnomonref01_DocLow.ok ?_
  unfold gnomonref01_DocLow.t gnomonref01_DocLow.D1.t
  refine c_dec (fun hn => not_formed (Keep.refl _) (by unfold lowS; rw [if_pos hn]) (by decide)) fun hn => ?_
  refine hc_intro (DocForm_spec r rfl) fun v h' ⟨e1, e2⟩ => ?_
  subst e1; subst e2
  refine gBool_intro rfl ?_
  refine c_not (fun hf => not_formed (Keep.refl _) (by unfold lowS; rw [if_neg hn, if_neg (of_decide_eq_false hf)]) (by decide)) fun hf => ?_
  have f1 := of_decide_eq_true hf
  obtain ⟨n, rfl⟩ : ∃ n : Nat, x = (n : Int) := ⟨x.toNat, by omega⟩
  have e0 : lowS xs (n : Int) = lim (val xs % 2 ^ n) := by unfold lowS; rw [if_neg hn, if_pos f1, Int.toNat_natCast]
  rw [e0]
  refine hc_intro (From_spec r rfl) fun v h1 ⟨k1, s1⟩ => ?_
  refine s1.elim fun a1 c1 g1 => ?_
  have d1 := dl_frm f1 r.words
  refine hc_intro (rLow_spec g1.rd rfl rfl (by omega) (by omega)) fun v h2 ⟨k2, s2'⟩ => ?_
  refine s2'.elim fun a2 c2 g2 => ?_
  exact told_tail (g2.from k1.le) rfl (k1.trans k2) rfl
theorem dl_word {w : Nat} (hw : w < 18446744073709551616) : (D.digs w).length ≤ 2 := by
  rw [D.digs_len]; exact hw
theorem DocMulWord_spec (r : Rd h a c xs) (hl : l = xs.length) {x : Int} {w : Nat} (hx : x = (w : Int)) (hw : w < 18446744073709551616) : HC gnomonref01_DocMulWord.id #[.slice a l c, .int .u64 x] h fun v h' => Keep h h' ∧ Ans h h' v (mulWS xs w) := by
  subst hl; subst hx
  refine gnomonref01_DocMulWord.ok ?_
  unfold gnomonref01_DocMulWord.t gnomonref01_DocMulWord.D1.t
  refine hc_intro (DocForm_spec r rfl) fun v h' ⟨e1, e2⟩ => ?_
  subst e1; subst e2
  refine gBool_intro rfl ?_
  refine c_not (fun hf => not_formed (Keep.refl _) (by unfold mulWS; rw [if_neg (of_decide_eq_false hf)]) (by decide)) fun hf => ?_
  have f1 := of_decide_eq_true hf
  refine hc_intro (From_spec r rfl) fun v h1 ⟨k1, s1⟩ => ?_
  refine s1.elim fun a1 c1 g1 => ?_
  refine hc_intro (rWord_spec rfl hw h1) fun v h2 ⟨k2, s2'⟩ => ?_
  refine s2'.elim fun a2 c2 g2 => ?_
  have d1 := dl_frm f1 r.words
  have d2 := dl_word hw
  refine hc_intro (rMul_spec (g1.rd.keep k2) g2.rd rfl rfl (by omega) (by omega)) fun v h3 ⟨k3, s3'⟩ => ?_
  refine s3'.elim fun a3 c3 g3 => ?_
  exact told_tail (g3.from (k1.trans k2).le) rfl ((k1.trans k2).trans k3) (by unfold mulWS; rw [if_pos f1])
theorem DocDivWord_spec (r : Rd h a c xs) (hl : l = xs.length) {x : Int} {w : Nat} (hx : x = (w : Int)) (hw : w < 18446744073709551616) : HC gnomonref01_DocDivWord.id #[.slice a l c, .int .u64 x] h fun v h' => Keep h h' ∧ Ans3 h h' v (divWS xs w) := by
  subst hl; subst hx
  have nil : ∀ (x : Int) (h' : Hp), Keep h h' → In .i64 x → (fun v h' => Keep h h' ∧ Ans3 h h' v ([], 0, x)) (.tuple #[.slice none 0 0, .int .u64 0, .int .i64 x]) h' := fun x h' k i => ⟨k, _, _, _, rfl, ⟨none, 0, rfl, GotE.nil _ _⟩, ⟨rfl, (by decide : In .u64 0)⟩, rfl, i⟩
  refine gnomonref01_DocDivWord.ok ?_
  unfold gnomonref01_DocDivWord.t gnomonref01_DocDivWord.D1.t
  refine hc_intro (DocForm_spec r rfl) fun v h' ⟨e1, e2⟩ => ?_
  subst e1; subst e2
  refine gBool_intro rfl ?_
  unfold divWS
  refine c_not (fun hf => ?_) fun hf => ?_
  · rw [if_neg (of_decide_eq_false hf)]; exact nil 2 _ (Keep.refl _) (by decide)
  have f1 := of_decide_eq_true hf
  rw [if_pos f1]
  refine c_eq (fun hw0 => ?_) fun hw0 => ?_
  · rw [if_pos (by omega)]; exact nil 4 _ (Keep.refl _) (by decide)
  rw [if_neg (by omega)]
  refine hc_intro (From_spec r rfl) fun v h1 ⟨k1, s1⟩ => ?_
  refine s1.elim fun a1 c1 g1 => ?_
  refine hc_intro (rWord_spec rfl hw h1) fun v h2 ⟨k2, s2'⟩ => ?_
  refine s2'.elim fun a2 c2 g2 => ?_
  have d1 := dl_frm f1 r.words
  refine hc_intro (DivMod_spec (g1.rd.keep k2) g2.rd rfl rfl (by omega)) fun v h3 ⟨k3, x1, y1, e, ⟨a3, c3, e1, g3⟩, a4, c4, e2, g4⟩ => ?_
  subst e; subst e1; subst e2
  have ed : dmS (val xs) w = (val xs / w, val xs % w) := by unfold dmS; rw [if_neg (by omega)]
  rw [ed] at g3 g4 ⊢
  refine gTup_intro rfl (uncons_intro (gSlice_intro rfl (uncons_intro (gSlice_intro rfl (unnil_intro ?_)))))
  refine hc_intro (rFits_spec g4.rd rfl) fun v h4 ⟨k4, x2, y2, e, ⟨e1, i1⟩, e2⟩ => ?_
  subst e; subst e1; subst e2
  have hml := Nat.mod_lt (val xs) (show 0 < w by omega)
  have ef : fitsS (val xs % w) = (((val xs % w : Nat) : Int), true) := by unfold fitsS; rw [if_pos (by omega)]
  rw [ef] at i1 ⊢
  refine gTup_intro rfl (uncons_intro (gInt_intro rfl (uncons_intro (gBool_intro rfl (unnil_intro ?_)))))
  refine hc_intro (To_spec (g3.rd.keep k4) rfl) fun v h5 ⟨k5, a5, c5, e, g5⟩ => ?_
  subst e
  refine gSlice_intro rfl ?_
  have kk := k1.trans (k2.trans (k3.trans k4))
  exact ⟨kk.trans k5, _, _, _, rfl, ⟨_, _, rfl, g5.from kk.le⟩, ⟨rfl, i1⟩, rfl, (by decide : In .i64 0)⟩
end
end Go.Proofs.YtnbpbojcjihboaaDoor.G
