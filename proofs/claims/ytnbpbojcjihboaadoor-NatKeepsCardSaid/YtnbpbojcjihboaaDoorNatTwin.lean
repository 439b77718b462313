/- A call over copies of its lists. -/
import Derived.Test.YtnbpbojcjihboaaDoorNatHv
import Derived.Test.YtnbpbojcjihboaaDoorGvBox
namespace Go.Proofs.YtnbpbojcjihboaaDoor.G
open Go.Gv
set_option linter.unusedVariables false
set_option maxRecDepth 100000
/-- A call of layer 1: kind, two lists, a number, a word. -/
def sOp1 : An (Int × List Nat × List Nat × Int × Int) := fun h0 h v p => ∃ a c b d, v = .agg #[.int .i64 p.1, .slice a p.2.1.length c, .slice b p.2.2.1.length d, .int .i64 p.2.2.2.1, .int .u64 p.2.2.2.2] ∧ In .i64 p.1 ∧ GotE eU64 h0 h a c p.2.1 ∧ GotE eU64 h0 h b d p.2.2.1 ∧ In .i64 p.2.2.2.1 ∧ In .u64 p.2.2.2.2
theorem gnomonlaw01_twin.hv {h : Hp} {x : Int} (ix : In .i64 x) {a : Option Addr} {c l : Nat} {xs : List Nat} (r : Rd h a c xs) (e : l = xs.length) {b : Option Addr} {d m : Nat} {ys : List Nat} (s : Rd h b d ys) (f : m = ys.length) {y : Int} (iy : In .i64 y) {z : Int} (iz : In .u64 z) :
    HC gnomonlaw01_twin.id #[.agg #[.int .i64 x, .slice a l c, .slice b m d, .int .i64 y, .int .u64 z]] h fun v h' => Keep h h' ∧ sOp1 h h' v (x, xs, ys, y, z) := by
  subst e; subst f
  refine gnomonlaw01_twin.ok ?_
  unfold gnomonlaw01_twin.t gnomonlaw01_twin.D1.t
  refine boxV fun h1 b1 k1 => ?_
  refine boxV fun h2 b2 k2 => ?_
  have k02 := k1.trans k2
  refine ldV (b1.keep k2) rfl ?_
  refine gSlice_intro rfl ?_
  refine hc_intro (gnomonref01_Twin.hv (r.keep k02) rfl) fun v h3 ⟨k3, a3, c3, e3, g3⟩ => ?_
  subst e3
  refine gSlice_intro rfl ?_
  have k23 := k2.trans k3
  refine stV (b1.keep k23) (Nat.le_of_ble_eq_true rfl) fun h4 b4 k4 => ?_
  have q0 : h.size < h2.size := Nat.lt_of_lt_of_le b1.lt k2.le
  have q1 : h1.size < h2.size := b2.lt
  have k04 : Keep h h4 := k4.keep (k02.trans k3) (Nat.le_refl _)
  have g4 := g3.keepB q0 k4
  have b24 := (b2.keep k3).keepB (Nat.ne_of_gt (Nat.lt_of_lt_of_le b1.lt (Nat.le_refl _))) k4
  refine ldV b4 rfl ?_
  refine gSlice_intro rfl ?_
  refine hc_intro (gnomonref01_Twin.hv (s.keep k04) rfl) fun v h5 ⟨k5, a5, c5, e5, g5⟩ => ?_
  subst e5
  refine gSlice_intro rfl ?_
  refine stV (b4.keep k5) (Nat.le_of_ble_eq_true rfl) fun h6 b6 k6 => ?_
  have q4 : h.size < h4.size := b4.lt
  have k06 : Keep h h6 := k6.keep (k04.trans k5) (Nat.le_refl _)
  have g6 := (g4.keep k5).keepB q0 k6
  have g56 := g5.keepB q4 k6
  have b26 := (b24.keep k5).keepB (Nat.ne_of_gt (Nat.lt_of_lt_of_le b1.lt (Nat.le_refl _))) k6
  refine ldV b6 rfl ?_
  refine gInt_intro rfl ?_
  refine ldV b6 rfl ?_
  refine gSlice_intro rfl ?_
  refine ldV b6 rfl ?_
  refine gSlice_intro rfl ?_
  refine ldV b6 rfl ?_
  refine gInt_intro rfl ?_
  refine ldV b6 rfl ?_
  refine gInt_intro rfl ?_
  have q14 : h1.size < h4.size := b24.lt
  have hq1 : h.size ≤ h1.size := k1.le
  refine stV b26 (Nat.le_of_ble_eq_true rfl) fun h7 b7 k7 => ?_
  refine stV b7 (Nat.le_of_ble_eq_true rfl) fun h8 b8 k8 => ?_
  refine stV b8 (Nat.le_of_ble_eq_true rfl) fun h9 b9 k9 => ?_
  refine stV b9 (Nat.le_of_ble_eq_true rfl) fun h10 b10 k10 => ?_
  refine stV b10 (Nat.le_of_ble_eq_true rfl) fun h11 b11 k11 => ?_
  have kk : KeepB h1.size h6 h11 := k7.trans (k8.trans (k9.trans (k10.trans k11)))
  have g7 := g6.keepB q1 kk
  have g57 := g56.keepB q14 kk
  have k0 : Keep h h11 := kk.keep k06 hq1
  refine ldV b11 rfl ?_
  refine gInt_intro rfl ?_
  refine ldV b11 rfl ?_
  refine gSlice_intro rfl ?_
  refine ldV b11 rfl ?_
  refine gSlice_intro rfl ?_
  refine ldV b11 rfl ?_
  refine gInt_intro rfl ?_
  refine ldV b11 rfl ?_
  refine gInt_intro rfl ?_
  exact ⟨k0, _, _, _, _, rfl, ix, g7.from k02.le, g57.from k04.le, iy, iz⟩
end Go.Proofs.YtnbpbojcjihboaaDoor.G
