/- What the document's calls of layer 1 answer: they are the program's answers. -/
import Derived.Test.YtaglonbkdcmmpaaRef01e
import Derived.Test.YtaglonbkdcmmpaaRef01t
import Derived.Test.YtaglonbkdcmmpaaNatCmp
import Derived.Test.YtaglonbkdcmmpaaNatSub
import Derived.Test.YtaglonbkdcmmpaaNatShift
import Derived.Test.YtaglonbkdcmmpaaNatMulWord
import Derived.Test.YtaglonbkdcmmpaaNatDivWord
namespace Go.Proofs.Ytaglonbkdcmmpaa.G
open Go.Gv
set_option maxRecDepth 100000
set_option linter.unusedVariables false
theorem not_formed {h0 h : Hp} {n : Int} (k : Keep h0 h) {p : List Nat × Int} (e : p = ([], n)) (i : In .i64 n) : (fun v h' => Keep h0 h' ∧ Ans h0 h' v p) (.tuple #[.slice Option.none 0 0, .int .i64 n]) h := by
  subst e; exact ⟨k, Ans.none i⟩
section
variable {a b : Option Addr} {c d l m : Nat} {xs ys : List Nat} {h : Hp}
theorem shl_over {X : Nat} {n : Nat} (h0 : X ≠ 0) (h : 524288 < n) : lim (X * 2 ^ n) = ([], 5) := by
  refine lim_big ?_
  rw [blen_mul n h0]; have := blen_pos h0; omega
theorem dl_word {w : Nat} (hw : w < 18446744073709551616) : (D.digs w).length ≤ 2 := by
  rw [D.digs_len]; exact hw
end
end Go.Proofs.Ytaglonbkdcmmpaa.G
