/- What Mul64 answers. -/
import Derived.Test.YtaglonbkdcmmpaaNatOps
namespace Go.Proofs.Ytaglonbkdcmmpaa.G
open Go.Gv
set_option maxRecDepth 100000
/-- A call that answers two words. -/
def Ans2 (v : Value) (a b : Nat) : Prop := v = .tuple #[.int .u64 (a : Int), .int .u64 (b : Int)]
theorem Ans2.elim {v : Value} {a b : Nat} {K : Int → Int → Prop} (e : Ans2 v a b) (g : K (a : Int) (b : Int)) :
    gTup v fun y => uncons y fun v1 y1 => gInt .u64 v1 fun x => uncons y1 fun v2 y2 => gInt .u64 v2 fun z => unnil y2 (K x z) := by
  subst e; exact g
theorem mul64_hi {x y x0 x1 y0 y1 a b c d : Nat} (hx : x = x0 + 4294967296 * x1) (hy : y = y0 + 4294967296 * y1) (ha : a = x0 * y0) (hb : b = x1 * y0) (hc : c = x0 * y1) (hd : d = x1 * y1) : x * y = a + 4294967296 * (b + c) + 18446744073709551616 * d := by
  subst hx; subst hy; subst ha; subst hb; subst hc; subst hd
  rw [Nat.add_mul, Nat.mul_add, Nat.mul_add]
  have e1 : x0 * (4294967296 * y1) = 4294967296 * (x0 * y1) := Nat.mul_left_comm _ _ _
  have e2 : 4294967296 * x1 * y0 = 4294967296 * (x1 * y0) := Nat.mul_assoc _ _ _
  have e3 : 4294967296 * x1 * (4294967296 * y1) = 18446744073709551616 * (x1 * y1) := by
    rw [Nat.mul_assoc, Nat.mul_left_comm x1, ← Nat.mul_assoc]
  rw [e1, e2, e3]; omega
theorem Mul64_spec {x y : Nat} (hx : x < 18446744073709551616) (hy : y < 18446744073709551616) (h : Hp) :
    HC bits_Mul64.id #[.int .u64 (x : Int), .int .u64 (y : Int)] h fun v h' => h' = h ∧ Ans2 v (x * y / 18446744073709551616) (x * y % 18446744073709551616) := by
  refine bits_Mul64.ok ?_
  unfold bits_Mul64.t bits_Mul64.D1.t
  have ha := mul_lt32 (a := x % 4294967296) (b := y % 4294967296) (by omega) (by omega)
  have hb := mul_lt32 (a := x / 4294967296) (b := y % 4294967296) (by omega) (by omega)
  have hc := mul_lt32 (a := x % 4294967296) (b := y / 4294967296) (by omega) (by omega)
  have hd := mul_lt32 (a := x / 4294967296) (b := y / 4294967296) (by omega) (by omega)
  have e := mul64_hi (x := x) (y := y) (x0 := x % 4294967296) (x1 := x / 4294967296) (y0 := y % 4294967296) (y1 := y / 4294967296) (by omega) (by omega) rfl rfl rfl rfl
  refine and32 rfl hx ?_
  refine shr_k' rfl 32 4294967296 (by omega) (by decide) (by omega) ?_
  refine and32 rfl hy ?_
  refine shr_k' rfl 32 4294967296 (by omega) (by decide) (by omega) ?_
  refine k_u64 (x % 4294967296 * (y % 4294967296)) (by norm_cast) (by omega) ?_
  refine k_u64 (x / 4294967296 * (y % 4294967296)) (by norm_cast) (by omega) ?_
  have h1 : ((x % 4294967296 : Nat) : Int) * ((y / 4294967296 : Nat) : Int) = ((x % 4294967296 * (y / 4294967296) : Nat) : Int) := by norm_cast
  have h2 : ((x / 4294967296 : Nat) : Int) * ((y / 4294967296 : Nat) : Int) = ((x / 4294967296 * (y / 4294967296) : Nat) : Int) := by norm_cast
  have h3 : (x : Int) * (y : Int) = ((x * y : Nat) : Int) := by norm_cast
  rw [h1, h2, h3]
  generalize x % 4294967296 * (y % 4294967296) = a at *
  generalize x / 4294967296 * (y % 4294967296) = b at *
  generalize x % 4294967296 * (y / 4294967296) = c at *
  generalize x / 4294967296 * (y / 4294967296) = d at *
  generalize x * y = p at *
  refine shr_k' rfl 32 4294967296 (by omega) (by decide) (by omega) ?_
  refine k_u64 (b + a / 4294967296) (by omega) (by omega) ?_
  refine and32 rfl (by omega) ?_
  refine shr_k' rfl 32 4294967296 (by omega) (by decide) (by omega) ?_
  refine k_u64 c rfl (by omega) ?_
  refine k_u64 ((b + a / 4294967296) % 4294967296 + c) (by omega) (by omega) ?_
  refine k_u64 d rfl (by omega) ?_
  refine k_u64 (d + (b + a / 4294967296) / 4294967296) (by omega) (by omega) ?_
  refine shr_k' rfl 32 4294967296 (by omega) (by decide) (by omega) ?_
  refine k_u64 (p / 18446744073709551616) (by omega) (by omega) ?_
  refine letK_intro (y := ((p % 18446744073709551616 : Nat) : Int)) (by rw [wrap_u64]; omega) ?_
  exact ⟨rfl, rfl⟩
end Go.Proofs.Ytaglonbkdcmmpaa.G
