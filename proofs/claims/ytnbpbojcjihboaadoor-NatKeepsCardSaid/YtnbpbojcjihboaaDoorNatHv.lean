/- Contracts of layer 1 in the form that the lifted functions use. -/
import Derived.Test.YtnbpbojcjihboaaDoorRef01g
namespace Go.Proofs.YtnbpbojcjihboaaDoor.G
open Go.Gv
set_option linter.unusedVariables false
theorem same_heap {f : FuncId} {args : Array Value} {h : Hp} {S : Value → Prop} (hc : HC f args h fun v h' => h' = h ∧ S v) {T : Value → Hp → Prop} (g : ∀ v, S v → T v h) : HC f args h fun v h' => Keep h h' ∧ T v h' :=
  hc_intro hc fun v h' ⟨e, s⟩ => by subst e; exact ⟨Keep.refl _, g v s⟩
theorem nat_of {x : Int} (i : In .u64 x) : x = ((x.toNat : Nat) : Int) ∧ x.toNat < 18446744073709551616 := by
  rw [in_u64] at i; omega
section
variable {a b : Option Addr} {c d l m : Nat} {xs ys : List Nat} {h : Hp} {x : Int}
theorem nat_Norm.hv (r : Rd h a c xs) (e : l = xs.length) : HC nat_Norm.id #[.slice a l c] h fun v h' => Keep h h' ∧ Ans h h' v (lim (val xs)) := Norm_spec r e
theorem nat_Word.hv (i : In .u64 x) : HC nat_Word.id #[.int .u64 x] h fun v h' => Keep h h' ∧ sW h h' v (digs x.toNat) := by
  have := nat_of i
  rw [this.1, Int.toNat_natCast]; exact Word_spec this.2 h
theorem nat_Form.hv (r : Rd h a c xs) (e : l = xs.length) : HC nat_Form.id #[.slice a l c] h fun v h' => Keep h h' ∧ sBool h h' v (decide (Frm xs)) := same_heap (Form_spec r e) fun v s => s
theorem nat_Bits.hv (r : Rd h a c xs) (e : l = xs.length) : HC nat_Bits.id #[.slice a l c] h fun v h' => Keep h h' ∧ sI .i64 h h' v ((blen (val xs) : Nat) : Int) := by
  refine same_heap (Bits_spec r e) fun v s => ⟨s, ?_⟩
  have h1 := r.len
  have : blen (val xs) ≤ 64 * xs.length := blen_le.mpr (val_lt r.words)
  rw [in_i64]; omega
theorem ctz_in {xs : List Nat} (hw : Words xs) (hl : xs.length ≤ 35184372088828) : In .i64 ((ctz (val xs) : Nat) : Int) := by
  rw [in_i64]
  rcases Nat.eq_zero_or_pos (val xs) with e | e
  · rw [e]; have : ctz 0 = 0 := by unfold ctz; simp
    rw [this]; omega
  · have := ctz_lt (by omega) (val_lt hw); omega
theorem nat_Trail.hv (r : Rd h a c xs) (e : l = xs.length) (tb : Tab h) : HC nat_Trail.id #[.slice a l c] h fun v h' => Keep h h' ∧ sI .i64 h h' v ((ctz (val xs) : Nat) : Int) :=
  same_heap (Trail_spec r e tb) fun v s => ⟨s, ctz_in r.words r.len⟩
theorem nat_Bit.hv (r : Rd h a c xs) (e : l = xs.length) (i : In .i64 x) : HC nat_Bit.id #[.slice a l c, .int .i64 x] h fun v h' => Keep h h' ∧ sBool h h' v (bitS (val xs) x == 1) := same_heap (nBit_spec r e i) fun v s => s
theorem cmp_in (X Y : Nat) : In .i64 (cmpI X Y) := by unfold cmpI; split <;> (try split) <;> decide
theorem nat_Cmp.hv (r : Rd h a c xs) (e : l = xs.length) (s : Rd h b d ys) (f : m = ys.length) : HC nat_Cmp.id #[.slice a l c, .slice b m d] h fun v h' => Keep h h' ∧ sI .i64 h h' v (cmpI (val xs) (val ys)) := same_heap (Cmp_spec r s e f) fun v s => ⟨s, cmp_in _ _⟩
theorem nat_Add.hv (r : Rd h a c xs) (e : l = xs.length) (s : Rd h b d ys) (f : m = ys.length) : HC nat_Add.id #[.slice a l c, .slice b m d] h fun v h' => Keep h h' ∧ Ans h h' v (addS xs ys) := Add_spec r s e f
theorem nat_Sub.hv (r : Rd h a c xs) (e : l = xs.length) (s : Rd h b d ys) (f : m = ys.length) : HC nat_Sub.id #[.slice a l c, .slice b m d] h fun v h' => Keep h h' ∧ Ans h h' v (subS xs ys) := Sub_spec r s e f
theorem nat_Shl.hv (r : Rd h a c xs) (e : l = xs.length) (i : In .i64 x) : HC nat_Shl.id #[.slice a l c, .int .i64 x] h fun v h' => Keep h h' ∧ Ans h h' v (shlS xs x) := Shl_spec r e (in_i64.mp i).2
theorem nat_Shr.hv (r : Rd h a c xs) (e : l = xs.length) (i : In .i64 x) : HC nat_Shr.id #[.slice a l c, .int .i64 x] h fun v h' => Keep h h' ∧ Ans h h' v (shrS xs x) := Shr_spec r e (in_i64.mp i).2
theorem nat_Low.hv (r : Rd h a c xs) (e : l = xs.length) (i : In .i64 x) : HC nat_Low.id #[.slice a l c, .int .i64 x] h fun v h' => Keep h h' ∧ Ans h h' v (lowS xs x) := Low_spec r e (in_i64.mp i).2
theorem nat_MulWord.hv (r : Rd h a c xs) (e : l = xs.length) (i : In .u64 x) : HC nat_MulWord.id #[.slice a l c, .int .u64 x] h fun v h' => Keep h h' ∧ Ans h h' v (mulWS xs x.toNat) := by
  have := nat_of i
  rw [this.1, Int.toNat_natCast]; exact MulWord_spec r e this.2
theorem nat_DivWord.hv (r : Rd h a c xs) (e : l = xs.length) (i : In .u64 x) : HC nat_DivWord.id #[.slice a l c, .int .u64 x] h fun v h' => Keep h h' ∧ Ans3 h h' v (divWS xs x.toNat) := by
  have := nat_of i
  rw [this.1, Int.toNat_natCast]; exact DivWord_spec r e this.2
theorem gnomonref01_Twin.hv (r : Rd h a c xs) (e : l = xs.length) : HC gnomonref01_Twin.id #[.slice a l c] h fun v h' => Keep h h' ∧ sW h h' v xs := Twin_spec r e
theorem gnomonref01_Same.hq (r : Rd h a c xs) (e : l = xs.length) (s : Rd h b d ys) (f : m = ys.length) : HQC gnomonref01_Same.id #[.slice a l c, .slice b m d] h fun v => sBool h h v (decide (xs = ys)) := Same_spec r s e f
theorem gnomonref01_DocForm.hv (r : Rd h a c xs) (e : l = xs.length) : HC gnomonref01_DocForm.id #[.slice a l c] h fun v h' => Keep h h' ∧ sBool h h' v (decide (Frm xs)) := same_heap (DocForm_spec r e) fun v s => s
theorem gnomonref01_DocBits.hv (r : Rd h a c xs) (e : l = xs.length) : HC gnomonref01_DocBits.id #[.slice a l c] h fun v h' => Keep h h' ∧ sI .i64 h h' v ((blen (val xs) : Nat) : Int) := by
  refine hc_intro (DocBits_spec r e) fun v h' ⟨k, s⟩ => ⟨k, s, ?_⟩
  have h1 := r.len
  have : blen (val xs) ≤ 64 * xs.length := blen_le.mpr (val_lt r.words)
  rw [in_i64]; omega
theorem gnomonref01_DocTrail.hv (r : Rd h a c xs) (e : l = xs.length) : HC gnomonref01_DocTrail.id #[.slice a l c] h fun v h' => Keep h h' ∧ sI .i64 h h' v ((ctz (val xs) : Nat) : Int) :=
  hc_intro (DocTrail_spec r e) fun v h' ⟨k, s⟩ => ⟨k, s, ctz_in r.words r.len⟩
theorem gnomonref01_DocBit.hv (r : Rd h a c xs) (e : l = xs.length) (i : In .i64 x) : HC gnomonref01_DocBit.id #[.slice a l c, .int .i64 x] h fun v h' => Keep h h' ∧ sBool h h' v (bitS (val xs) x == 1) := DocBit_spec r e i
theorem gnomonref01_DocCmp.hv (r : Rd h a c xs) (e : l = xs.length) (s : Rd h b d ys) (f : m = ys.length) : HC gnomonref01_DocCmp.id #[.slice a l c, .slice b m d] h fun v h' => Keep h h' ∧ sI .i64 h h' v (cmpI (val xs) (val ys)) :=
  hc_intro (DocCmp_spec r s e f) fun v h' ⟨k, s⟩ => ⟨k, s, cmp_in _ _⟩
theorem gnomonref01_DocNorm.hv (r : Rd h a c xs) (e : l = xs.length) : HC gnomonref01_DocNorm.id #[.slice a l c] h fun v h' => Keep h h' ∧ Ans h h' v (lim (val xs)) := DocNorm_spec r e
theorem gnomonref01_DocWord.hv (i : In .u64 x) : HC gnomonref01_DocWord.id #[.int .u64 x] h fun v h' => Keep h h' ∧ sW h h' v (digs x.toNat) := DocWord_spec (nat_of i).1 (nat_of i).2
theorem gnomonref01_DocAdd.hv (r : Rd h a c xs) (e : l = xs.length) (s : Rd h b d ys) (f : m = ys.length) : HC gnomonref01_DocAdd.id #[.slice a l c, .slice b m d] h fun v h' => Keep h h' ∧ Ans h h' v (addS xs ys) := DocAdd_spec r s e f
theorem gnomonref01_DocSub.hv (r : Rd h a c xs) (e : l = xs.length) (s : Rd h b d ys) (f : m = ys.length) : HC gnomonref01_DocSub.id #[.slice a l c, .slice b m d] h fun v h' => Keep h h' ∧ Ans h h' v (subS xs ys) := DocSub_spec r s e f
theorem gnomonref01_DocShl.hv (r : Rd h a c xs) (e : l = xs.length) (i : In .i64 x) : HC gnomonref01_DocShl.id #[.slice a l c, .int .i64 x] h fun v h' => Keep h h' ∧ Ans h h' v (shlS xs x) := DocShl_spec r e i
theorem gnomonref01_DocShr.hv (r : Rd h a c xs) (e : l = xs.length) (i : In .i64 x) : HC gnomonref01_DocShr.id #[.slice a l c, .int .i64 x] h fun v h' => Keep h h' ∧ Ans h h' v (shrS xs x) := DocShr_spec r e i
theorem gnomonref01_DocLow.hv (r : Rd h a c xs) (e : l = xs.length) (i : In .i64 x) : HC gnomonref01_DocLow.id #[.slice a l c, .int .i64 x] h fun v h' => Keep h h' ∧ Ans h h' v (lowS xs x) := DocLow_spec r e i
theorem gnomonref01_DocMulWord.hv (r : Rd h a c xs) (e : l = xs.length) (i : In .u64 x) : HC gnomonref01_DocMulWord.id #[.slice a l c, .int .u64 x] h fun v h' => Keep h h' ∧ Ans h h' v (mulWS xs x.toNat) := DocMulWord_spec r e (nat_of i).1 (nat_of i).2
theorem gnomonref01_DocDivWord.hv (r : Rd h a c xs) (e : l = xs.length) (i : In .u64 x) : HC gnomonref01_DocDivWord.id #[.slice a l c, .int .u64 x] h fun v h' => Keep h h' ∧ Ans3 h h' v (divWS xs x.toNat) := DocDivWord_spec r e (nat_of i).1 (nat_of i).2
end
end Go.Proofs.YtnbpbojcjihboaaDoor.G
