/- Steps of printed predicates: branches, names, and answers of calls. -/
import Derived.Test.YtaglonbkdcmmpaaGvNat
namespace Go.Gv
theorem c_dec {p : Prop} [Decidable p] {A B : Prop} (hT : p → A) (hF : ¬p → B) : cond (decide p) A B := by
  by_cases h : p
  · simp only [h, decide_true, cond_true]; exact hT h
  · simp only [h, decide_false, cond_false]; exact hF h
theorem c_eq {x y : Int} {A B : Prop} (hT : x = y → A) (hF : x ≠ y → B) : cond (x == y) A B := by
  by_cases h : x = y
  · simp only [h, beq_self_eq_true, cond_true]; exact hT h
  · simp only [beq_eq_false_iff_ne.mpr h, cond_false]; exact hF h
theorem c_ne {x y : Int} {A B : Prop} (hT : x ≠ y → A) (hF : x = y → B) : cond (x != y) A B := by
  by_cases h : x = y
  · simp only [h, bne_self_eq_false, cond_false]; exact hF h
  · simp only [bne_iff_ne.mpr h, cond_true]; exact hT h
theorem c_not {b : Bool} {A B : Prop} (hT : b = false → A) (hF : b = true → B) : cond (!b) A B := by
  cases b
  · exact hT rfl
  · exact hF rfl
theorem c_bool {b : Bool} {A B : Prop} (hT : b = true → A) (hF : b = false → B) : cond b A B := by
  cases b
  · exact hF rfl
  · exact hT rfl
theorem k_i64 {x : Int} (y : Int) (e : x = y) (h1 : -9223372036854775808 ≤ y) (h2 : y < 9223372036854775808) {K : Int → Prop} (g : K y) : letK (IntKind.i64.wrap x) K := by
  subst e; refine ⟨?_⟩; show K _; rw [wrap_i64 h1 h2]; exact g
end Go.Gv
