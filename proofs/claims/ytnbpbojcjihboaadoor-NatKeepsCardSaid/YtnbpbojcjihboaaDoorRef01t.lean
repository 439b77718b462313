/- What Told and DocForm answer. -/
import Derived.Test.YtnbpbojcjihboaaDoorRef01b
namespace Go.Proofs.YtnbpbojcjihboaaDoor.G
open Go.Gv
set_option maxRecDepth 100000
set_option linter.unusedVariables false
theorem Told_spec {a : Option Addr} {c l X : Nat} {h : Hp} (r : RdE eU32 h a c (D.digs X)) (hl : l = (D.digs X).length) :
    HC gnomonref01_Told.id #[.slice a l c] h fun v h' => Keep h h' ∧ Ans h h' v (lim X) := by
  subst hl
  refine gnomonref01_Told.ok ?_
  unfold gnomonref01_Told.t gnomonref01_Told.D1.t
  have := dlen_lim X
  refine c_dec (fun hb => ⟨Keep.refl _, ?_⟩) fun hb => ?_
  · unfold lim; rw [if_neg (fun hh => by have := this.mpr hh; omega)]; exact Ans.none
  · refine hc_intro (To_spec r rfl) fun v h1 ⟨k1, a1, c1, e, g1⟩ => ?_
    subst e
    refine gSlice_intro rfl ?_
    unfold lim; rw [if_pos (this.mp (by omega))]
    exact ⟨k1, Ans.mk rfl rfl g1 (show In .i64 0 by decide)⟩
theorem told_tail {h0 h : Hp} {a : Option Addr} {c l X : Nat} {p : List Nat × Int} (g : GotE eU32 h0 h a c (D.digs X)) (hl : l = (D.digs X).length) (k : Keep h0 h) (hp : lim X = p) :
    HC gnomonref01_Told.id #[.slice a l c] h fun v h' => gTup v fun y15 => uncons y15 fun v16 y16 => gSlice v16 fun a_17 l_17 c_17 => uncons y16 fun v18 y18 => gInt .i64 v18 fun x_19 => unnil y18 ((fun v h' => Keep h0 h' ∧ Ans h0 h' v p) (.tuple #[.slice a_17 l_17 c_17, .int .i64 x_19]) h') := by
  subst hp
  refine hc_intro (Told_spec g.rd hl) fun v h1 ⟨k1, an⟩ => ?_
  refine an.elimG fun a1 c1 g1 i1 => ?_
  exact ⟨k.trans k1, Ans.back (g1.from k.le) i1⟩
theorem DocForm_spec {a : Option Addr} {c l : Nat} {xs : List Nat} {h : Hp} (r : Rd h a c xs) (hl : l = xs.length) :
    HC gnomonref01_DocForm.id #[.slice a l c] h fun v h' => h' = h ∧ v = .bool (decide (Frm xs)) := by
  subst hl
  have h1 := r.len
  refine gnomonref01_DocForm.ok ?_
  unfold gnomonref01_DocForm.t gnomonref01_DocForm.D1.t
  refine c_dec (fun hb => ?_) fun hb => ?_
  · refine c_eq (fun h0 => ?_) fun h0 => ?_
    · refine ⟨rfl, ?_⟩
      have e : xs = [] := List.length_eq_zero_iff.mp (by omega)
      subst e; rfl
    · refine k_i64 ((xs.length - 1 : Nat) : Int) (by omega) (by omega) (by omega) ?_
      refine at_intro r (j := xs.length - 1) rfl rfl (by omega) ⟨rfl, ?_⟩
      have hiff := @trimL_iff xs
      by_cases hz : xs.getD (xs.length - 1) 0 = 0
      · rw [hz]
        have : ¬ Frm xs := fun f => by
          rcases hiff.mp f.2 with e | e
          · subst e; simp at h0
          · exact e hz
        simp [this]
      · have : Frm xs := ⟨by omega, hiff.mpr (Or.inr hz)⟩
        simp only [this, decide_true]
        congr 1
        exact bne_iff_ne.mpr (by omega)
  · refine ⟨rfl, ?_⟩
    have : ¬ Frm xs := fun f => by have := f.1; omega
    simp [this]
theorem dl_frm {xs : List Nat} (f : Frm xs) (hw : Words xs) : (D.digs (val xs)).length ≤ 16384 := by
  rw [dlen_lim, f.digs hw]; exact f.1
end Go.Proofs.YtnbpbojcjihboaaDoor.G
