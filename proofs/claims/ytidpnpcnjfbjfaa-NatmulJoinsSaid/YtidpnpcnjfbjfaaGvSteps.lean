/- Steps of printed predicates: branches, names, and answers of calls. -/
import Derived.Test.YtidpnpcnjfbjfaaGvNat
namespace Go.Gv
theorem c_dec {p : Prop} [Decidable p] {A B : Prop} (hT : p → A) (hF : ¬p → B) : cond (decide p) A B := by
  by_cases h : p
  · simp only [h, decide_true, cond_true]; exact hT h
  · simp only [h, decide_false, cond_false]; exact hF h
theorem c_eq {x y : Int} {A B : Prop} (hT : x = y → A) (hF : x ≠ y → B) : cond (x == y) A B := by
  by_cases h : x = y
  · simp only [h, beq_self_eq_true, cond_true]; exact hT h
  · simp only [beq_eq_false_iff_ne.mpr h, cond_false]; exact hF h
theorem c_ne {x y : Int} {A B : Prop} (hT : x ≠ y → A) (hF : x = y → B) : cond (x != y) A B := by
  by_cases h : x = y
  · simp only [h, bne_self_eq_false, cond_false]; exact hF h
  · simp only [bne_iff_ne.mpr h, cond_true]; exact hT h
theorem c_not {b : Bool} {A B : Prop} (hT : b = false → A) (hF : b = true → B) : cond (!b) A B := by
  cases b
  · exact hT rfl
  · exact hF rfl
theorem c_bool {b : Bool} {A B : Prop} (hT : b = true → A) (hF : b = false → B) : cond b A B := by
  cases b
  · exact hF rfl
  · exact hT rfl
theorem k_i64 {x : Int} (y : Int) (e : x = y) (h1 : -9223372036854775808 ≤ y) (h2 : y < 9223372036854775808) {K : Int → Prop} (g : K y) : letK (IntKind.i64.wrap x) K := by
  subst e; show K _; rw [wrap_i64 h1 h2]; exact g
/-- The answer of a call that gives a list and an error. -/
def Ans (h : Hp) (v : Value) (p : List Nat × Int) : Prop := ∃ a c, v = .tuple #[.slice a p.1.length c, .int .i64 p.2] ∧ Rd h a c p.1
theorem Ans.elim {h : Hp} {v : Value} {p : List Nat × Int} {K : Option Addr → Nat → Nat → Int → Prop} (a : Ans h v p) (g : ∀ a c, Rd h a c p.1 → K a p.1.length c p.2) :
    gTup v fun y => uncons y fun v1 y1 => gSlice v1 fun a l c => uncons y1 fun v2 y2 => gInt .i64 v2 fun x => unnil y2 (K a l c x) := by
  obtain ⟨a, c, e, r⟩ := a
  subst e; exact g a c r
theorem Ans.mk {h : Hp} {a : Option Addr} {c l : Nat} {x : Int} {p : List Nat × Int} (hl : l = p.1.length) (hx : x = p.2) (r : Rd h a c p.1) : Ans h (.tuple #[.slice a l c, .int .i64 x]) p := by
  subst hl; subst hx; exact ⟨a, c, rfl, r⟩
theorem Ans.none {h : Hp} {x : Int} : Ans h (.tuple #[.slice Option.none 0 0, .int .i64 x]) ([], x) := ⟨Option.none, 0, rfl, Rd.nil _ _ _⟩
def AnsS (h : Hp) (v : Value) (xs : List Nat) : Prop := ∃ a c, v = .slice a xs.length c ∧ Rd h a c xs
theorem AnsS.elim {h : Hp} {v : Value} {xs : List Nat} {K : Option Addr → Nat → Nat → Prop} (a : AnsS h v xs) (g : ∀ a c, Rd h a c xs → K a xs.length c) : gSlice v K := by
  obtain ⟨a, c, e, r⟩ := a
  subst e; exact g a c r
end Go.Gv
