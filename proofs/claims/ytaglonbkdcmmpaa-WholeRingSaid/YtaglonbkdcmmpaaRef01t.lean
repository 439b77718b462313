/- What Told and DocForm answer. -/
import Derived.Test.YtaglonbkdcmmpaaRef01b
namespace Go.Proofs.Ytaglonbkdcmmpaa.G
open Go.Gv
set_option maxRecDepth 100000
set_option linter.unusedVariables false
theorem dl_frm {xs : List Nat} (f : Frm xs) (hw : Words xs) : (D.digs (val xs)).length ≤ 16384 := by
  rw [dlen_lim, f.digs hw]; exact f.1
end Go.Proofs.Ytaglonbkdcmmpaa.G
