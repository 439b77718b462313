/- What answers stand for, and the steps by which a printed predicate is led to a value. -/
import Derived.Test.YtaglonbkdcmmpaaGvElt
namespace Go.Gv
/-- What an answer says: the heap ahead, the heap behind, the value, what it stands for. -/
abbrev An (β : Type) := Hp → Hp → Value → β → Prop
def Post {β : Type} (S : An β) (h0 : Hp) (K : Value → Hp → Prop) (r : β) : Prop := ∀ v h', Keep h0 h' → S h0 h' v r → K v h'
def sInt (k : IntKind) : An Int := fun _ _ v n => v = .int k n
def sBool : An Bool := fun _ _ v b => v = .bool b
def sStr : An ByteArray := fun _ _ v s => v = .string s
def sL {α : Type} (E : El α) : An (List α) := fun h0 h v xs => ∃ a c, v = .slice a xs.length c ∧ GotE E h0 h a c xs
abbrev sW : An (List Nat) := sL eU64
def s2 {α β : Type} (S : An α) (T : An β) : An (α × β) := fun h0 h v p => ∃ x y, v = .tuple #[x, y] ∧ S h0 h x p.1 ∧ T h0 h y p.2
def s3 {α β γ : Type} (S : An α) (T : An β) (U : An γ) : An (α × β × γ) := fun h0 h v p => ∃ x y z, v = .tuple #[x, y, z] ∧ S h0 h x p.1 ∧ T h0 h y p.2.1 ∧ U h0 h z p.2.2
def s4 {α β γ δ : Type} (S : An α) (T : An β) (U : An γ) (V : An δ) : An (α × β × γ × δ) := fun h0 h v p => ∃ x y z w, v = .tuple #[x, y, z, w] ∧ S h0 h x p.1 ∧ T h0 h y p.2.1 ∧ U h0 h z p.2.2.1 ∧ V h0 h w p.2.2.2
/-- A number with a sign: the struct of a bool and a list. -/
def sZ {α : Type} (E : El α) : An (Bool × List α) := fun h0 h v p => ∃ a c, v = .agg #[.bool p.1, .slice a p.2.length c] ∧ GotE E h0 h a c p.2
/-- Blocks of two lists are two. -/
def Two (a b : Option Addr) : Prop := ∀ p q, a = some p → b = some q → p.block ≠ q.block
def letV {α β : Type} (x : α) (f : α → β) : β := f x
section
variable {β : Type} {S : An β} {h0 : Hp} {K : Value → Hp → Prop}
theorem lift_let {α : Type} {x : α} {f : α → β} (g : Post S h0 K (letV x f)) : Post S h0 K (f x) := g
theorem lift_bool {b : Bool} {X Y : β} {A B : Prop} (g : Post S h0 K (bif b then X else Y)) (hT : b = true → Post S h0 K X → A) (hF : b = false → Post S h0 K Y → B) : cond b A B := by
  cases b
  · exact hF rfl g
  · exact hT rfl g
theorem lift_not {b : Bool} {X Y : β} {A B : Prop} (g : Post S h0 K (bif !b then X else Y)) (hT : b = false → Post S h0 K X → A) (hF : b = true → Post S h0 K Y → B) : cond (!b) A B := by
  cases b
  · exact hT rfl g
  · exact hF rfl g
theorem lift_dec {p : Prop} [Decidable p] {X Y : β} {A B : Prop} (g : Post S h0 K (bif decide p then X else Y)) (hT : p → Post S h0 K X → A) (hF : ¬p → Post S h0 K Y → B) : cond (decide p) A B := by
  by_cases h : p
  · simp only [h, decide_true, cond_true] at g ⊢; exact hT h g
  · simp only [h, decide_false, cond_false] at g ⊢; exact hF h g
theorem lift_eq {x y : Int} {X Y : β} {A B : Prop} (g : Post S h0 K (bif x == y then X else Y)) (hT : x = y → Post S h0 K X → A) (hF : x ≠ y → Post S h0 K Y → B) : cond (x == y) A B := by
  by_cases h : x = y
  · simp only [h, beq_self_eq_true, cond_true] at g ⊢; exact hT h g
  · simp only [beq_eq_false_iff_ne.mpr h, cond_false] at g ⊢; exact hF h g
theorem lift_ne {x y : Int} {X Y : β} {A B : Prop} (g : Post S h0 K (bif x != y then X else Y)) (hT : x ≠ y → Post S h0 K X → A) (hF : x = y → Post S h0 K Y → B) : cond (x != y) A B := by
  by_cases h : x = y
  · simp only [h, bne_self_eq_false, cond_false] at g ⊢; exact hF h g
  · simp only [bne_iff_ne.mpr h, cond_true] at g ⊢; exact hT h g
end
theorem letK_out {n : Int} {K : Int → Prop} (g : K n) : letK n K := ⟨g⟩
/-- The ranges of whole numbers. -/
def In (k : IntKind) (x : Int) : Prop := k.min ≤ x ∧ x ≤ k.max
theorem in_wrap (k : IntKind) (x : Int) : In k (k.wrap x) := by
  unfold In
  cases k <;> simp only [IntKind.wrap, IntKind.min, IntKind.max, IntKind.bits, IntKind.signed, Bool.true_and, Bool.false_and, Bool.false_eq_true, if_false, if_true, decide_eq_true_eq, ge_iff_le] <;> (try split) <;> omega
theorem in_i64 {x : Int} : In .i64 x ↔ (-9223372036854775808 ≤ x ∧ x < 9223372036854775808) := by
  unfold In; simp only [IntKind.min, IntKind.max, IntKind.bits, IntKind.signed, if_true]
  omega
theorem in_u64 {x : Int} : In .u64 x ↔ (0 ≤ x ∧ x < 18446744073709551616) := by
  unfold In; simp only [IntKind.min, IntKind.max, IntKind.bits, IntKind.signed, Bool.false_eq_true, if_false]
  omega
theorem in_u32 {x : Int} : In .u32 x ↔ (0 ≤ x ∧ x < 4294967296) := by
  unfold In; simp only [IntKind.min, IntKind.max, IntKind.bits, IntKind.signed, Bool.false_eq_true, if_false]
  omega
theorem in_u8 {x : Int} : In .u8 x ↔ (0 ≤ x ∧ x < 256) := by
  unfold In; simp only [IntKind.min, IntKind.max, IntKind.bits, IntKind.signed, Bool.false_eq_true, if_false]
  omega
theorem in_i32 {x : Int} : In .i32 x ↔ (-2147483648 ≤ x ∧ x < 2147483648) := by
  unfold In; simp only [IntKind.min, IntKind.max, IntKind.bits, IntKind.signed, if_true]
  omega
/-- The length of a list is an int. -/
theorem in_len {α : Type} {E : El α} {h : Hp} {a : Option Addr} {c : Nat} {xs : List α} (r : RdE E h a c xs) (hE : E.lim ≤ 9223372036854775807) : In .i64 ((xs.length : Nat) : Int) := by
  rw [in_i64]; have := r.len; omega
theorem GotE.rd64 {h0 h : Hp} {a : Option Addr} {c : Nat} {xs : List Nat} (g : GotE eU64 h0 h a c xs) : Rd h a c xs := g.rd.to64
theorem Own.toE {h : Hp} {b : Nat} {xs : List Nat} (o : Own h b xs) : BlkE eU64 h b xs := ⟨o.words, o.at_⟩
theorem BlkE.toOwn {h : Hp} {b : Nat} {xs : List Nat} (o : BlkE eU64 h b xs) (hl : xs.length ≤ 35184372088828) : Own h b xs := ⟨hl, o.ok, o.at_⟩
theorem Own.got {h0 h : Hp} {b c : Nat} {xs rest : List Nat} (o : Own h b (xs ++ rest)) (hb : h0.size ≤ b) (h1 : xs.length ≤ c) (hc : c ≤ (xs ++ rest).length) : GotE eU64 h0 h (some ⟨b, 0, none⟩) c xs :=
  o.toE.got hb (by have := o.len; rw [List.length_append] at this; show _ ≤ 35184372088828; omega) h1 hc
theorem Own.got' {h0 h : Hp} {b c : Nat} {xs : List Nat} (o : Own h b xs) (hb : h0.size ≤ b) (hc : c = xs.length) : GotE eU64 h0 h (some ⟨b, 0, none⟩) c xs :=
  Own.got (rest := []) (by simpa using o) hb (by omega) (by simp; omega)
theorem nil_len {α : Type} {xs : List α} : xs = [] → 0 = xs.length := fun e => by rw [e]; rfl
end Go.Gv
