/- Contracts of layer 1 in the form that the lifted functions use. -/
import Derived.Test.YtaglonbkdcmmpaaRef01g
namespace Go.Proofs.Ytaglonbkdcmmpaa.G
open Go.Gv
set_option linter.unusedVariables false
theorem same_heap {f : FuncId} {args : Array Value} {h : Hp} {S : Value → Prop} (hc : HC f args h fun v h' => h' = h ∧ S v) {T : Value → Hp → Prop} (g : ∀ v, S v → T v h) : HC f args h fun v h' => Keep h h' ∧ T v h' :=
  hc_intro hc fun v h' ⟨e, s⟩ => by subst e; exact ⟨Keep.refl _, g v s⟩
theorem nat_of {x : Int} (i : In .u64 x) : x = ((x.toNat : Nat) : Int) ∧ x.toNat < 18446744073709551616 := by
  rw [in_u64] at i; omega
section
variable {a b : Option Addr} {c d l m : Nat} {xs ys : List Nat} {h : Hp} {x : Int}
theorem nat_Word.hv (i : In .u64 x) : HC nat_Word.id #[.int .u64 x] h fun v h' => Keep h h' ∧ sW h h' v (digs x.toNat) := by
  have := nat_of i
  rw [this.1, Int.toNat_natCast]; exact Word_spec this.2 h
theorem nat_Form.hv (r : Rd h a c xs) (e : l = xs.length) : HC nat_Form.id #[.slice a l c] h fun v h' => Keep h h' ∧ sBool h h' v (decide (Frm xs)) := same_heap (Form_spec r e) fun v s => s
theorem nat_Bits.hv (r : Rd h a c xs) (e : l = xs.length) : HC nat_Bits.id #[.slice a l c] h fun v h' => Keep h h' ∧ sI .i64 h h' v ((blen (val xs) : Nat) : Int) := by
  refine same_heap (Bits_spec r e) fun v s => ⟨s, ?_⟩
  have h1 := r.len
  have : blen (val xs) ≤ 64 * xs.length := blen_le.mpr (val_lt r.words)
  rw [in_i64]; omega
theorem ctz_in {xs : List Nat} (hw : Words xs) (hl : xs.length ≤ 35184372088828) : In .i64 ((ctz (val xs) : Nat) : Int) := by
  rw [in_i64]
  rcases Nat.eq_zero_or_pos (val xs) with e | e
  · rw [e]; have : ctz 0 = 0 := by unfold ctz; simp
    rw [this]; omega
  · have := ctz_lt (by omega) (val_lt hw); omega
theorem cmp_in (X Y : Nat) : In .i64 (cmpI X Y) := by unfold cmpI; split <;> (try split) <;> decide
theorem nat_Cmp.hv (r : Rd h a c xs) (e : l = xs.length) (s : Rd h b d ys) (f : m = ys.length) : HC nat_Cmp.id #[.slice a l c, .slice b m d] h fun v h' => Keep h h' ∧ sI .i64 h h' v (cmpI (val xs) (val ys)) := same_heap (Cmp_spec r s e f) fun v s => ⟨s, cmp_in _ _⟩
theorem nat_Add.hv (r : Rd h a c xs) (e : l = xs.length) (s : Rd h b d ys) (f : m = ys.length) : HC nat_Add.id #[.slice a l c, .slice b m d] h fun v h' => Keep h h' ∧ Ans h h' v (addS xs ys) := Add_spec r s e f
theorem nat_Sub.hv (r : Rd h a c xs) (e : l = xs.length) (s : Rd h b d ys) (f : m = ys.length) : HC nat_Sub.id #[.slice a l c, .slice b m d] h fun v h' => Keep h h' ∧ Ans h h' v (subS xs ys) := Sub_spec r s e f
theorem nat_Shl.hv (r : Rd h a c xs) (e : l = xs.length) (i : In .i64 x) : HC nat_Shl.id #[.slice a l c, .int .i64 x] h fun v h' => Keep h h' ∧ Ans h h' v (shlS xs x) := Shl_spec r e (in_i64.mp i).2
theorem nat_Shr.hv (r : Rd h a c xs) (e : l = xs.length) (i : In .i64 x) : HC nat_Shr.id #[.slice a l c, .int .i64 x] h fun v h' => Keep h h' ∧ Ans h h' v (shrS xs x) := Shr_spec r e (in_i64.mp i).2
theorem nat_Low.hv (r : Rd h a c xs) (e : l = xs.length) (i : In .i64 x) : HC nat_Low.id #[.slice a l c, .int .i64 x] h fun v h' => Keep h h' ∧ Ans h h' v (lowS xs x) := Low_spec r e (in_i64.mp i).2
theorem nat_MulWord.hv (r : Rd h a c xs) (e : l = xs.length) (i : In .u64 x) : HC nat_MulWord.id #[.slice a l c, .int .u64 x] h fun v h' => Keep h h' ∧ Ans h h' v (mulWS xs x.toNat) := by
  have := nat_of i
  rw [this.1, Int.toNat_natCast]; exact MulWord_spec r e this.2
theorem nat_DivWord.hv (r : Rd h a c xs) (e : l = xs.length) (i : In .u64 x) : HC nat_DivWord.id #[.slice a l c, .int .u64 x] h fun v h' => Keep h h' ∧ Ans3 h h' v (divWS xs x.toNat) := by
  have := nat_of i
  rw [this.1, Int.toNat_natCast]; exact DivWord_spec r e this.2
end
end Go.Proofs.Ytaglonbkdcmmpaa.G
