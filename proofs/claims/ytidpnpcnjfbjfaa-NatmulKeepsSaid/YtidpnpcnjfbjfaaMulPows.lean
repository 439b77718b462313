/- What is played of Pow; the law NatmulPows of the translation answers true. -/
import Derived.Test.YtidpnpcnjfbjfaaMulPlays
import Derived.Test.YtidpnpcnjfbjfaaRef02b
namespace Go.Proofs.Ytidpnpcnjfbjfaa.G
open Go.Gv
set_option linter.unusedVariables false
set_option maxRecDepth 100000
theorem play3 : PlayOK 3 := by
  intro h a b e c d f xs ys n ls r s i rl
  refine gnomonlaw02_plays.ok ?_
  unfold gnomonlaw02_plays.t gnomonlaw02_plays.D1.t
  refine boxV fun h2 o2 k2 => ?_
  refine ⟨o2.addLt 1, ?_⟩
  refine ldV o2 (k := 1) rfl ?_
  refine gSlice_intro rfl ?_
  refine hc_intro (Twin_spec (r.keep k2) rfl) fun v h6 ⟨k6, an⟩ => ?_
  refine an.elim fun a7 c7 r7 => ?_
  refine ⟨k6.preLe (Nat.le_refl _), o2.addLt 2, ?_⟩
  have o6 := o2.keep k6
  refine ldV o6 (k := 2) rfl ?_
  refine gSlice_intro rfl ?_
  refine hc_intro (Twin_spec (s.keep (k2.trans k6)) rfl) fun v h11 ⟨k11, an⟩ => ?_
  refine an.elim fun a12 c12 r12 => ?_
  refine ⟨k11.preLe k6.le, ?_⟩
  have o11 := o6.keep k11
  have r7 := r7.keep k11
  have k0 := k2.trans (k6.trans k11)
  refine ldV o11 (k := 0) rfl ?_
  refine gInt_intro rfl ?_
  refine c_eq (fun hh => absurd hh (by decide)) fun _ => ?_
  refine c_eq (fun hh => absurd hh (by decide)) fun _ => ?_
  refine c_eq (fun _ => ?_) fun hh => absurd rfl hh
  refine ldV o11 (k := 3) rfl ?_
  refine gInt_intro rfl ?_
  refine hc_intro (Pow_spec r7 rfl i) fun v h13 ⟨k13, an⟩ => ?_
  refine an.elim fun a13 c13 r13 => ?_
  have o13 := o11.keep k13
  refine ldV o13 (k := 1) rfl ?_
  refine gSlice_intro rfl ?_
  refine ldV o13 (k := 3) rfl ?_
  refine gInt_intro rfl ?_
  refine hc_intro (DocPow_spec (r.keep (k0.trans k13)) rfl i) fun v h14 ⟨k14, an⟩ => ?_
  refine an.elim fun a14 c14 r14 => ?_
  refine hc_intro (ltold_spec (r13.keep k14) r14 rfl rfl) fun v h15 ⟨e15, ev⟩ => ?_
  subst e15; subst ev
  exact gBool_intro rfl ⟨k0.trans (k13.trans k14), by simp⟩
theorem NatmulPows_law {a0 : Option Addr} {c0 l0 : Nat} {os : List Op2} {h : Hp} (r0 : RdOps2 h a0 c0 os) (hl0 : l0 = os.length) :
    HC gnomonlaw02_NatmulPows.id #[.slice a0 l0 c0] h fun v h' => Keep h h' ∧ v = .bool true := by
  refine gnomonlaw02_NatmulPows.ok ?_
  unfold gnomonlaw02_NatmulPows.t gnomonlaw02_NatmulPows.D1.t
  refine box_intro [3] (by rfl) (by decide) (by decide) fun h1 o1 k1 => ?_
  refine hc_intro (Pow_spec (o1.rd (c := 1) (by decide)) (by rfl) (by decide)) fun v h2 ⟨k2, an⟩ => ?_
  have e1 : powS [3] 4 = ([81], 0) := by
    have : powS [3] 4 = lim (val [3] ^ 4) := by unfold powS; rw [if_neg (by decide), if_pos (by decide)]; rfl
    rw [this, show val [3] ^ 4 = val [81] by decide]
    exact Frm.lim (xs := [81]) (by decide) (by unfold Words; decide)
  rw [e1] at an
  refine an.elim fun a2 c2 r2 => ?_
  refine hc_intro (Pow_spec (Rd.nil h2 none 0) (by rfl) (by decide)) fun v h3 ⟨k3, an⟩ => ?_
  have e2 : powS [] 0 = ([1], 0) := by
    have : powS [] 0 = lim (val [] ^ 0) := by unfold powS; rw [if_neg (by decide), if_pos (by decide)]; rfl
    rw [this, show val [] ^ 0 = val [1] by decide]
    exact Frm.lim (xs := [1]) (by decide) (by unfold Words; decide)
  rw [e2] at an
  refine an.elim fun a3 c3 r3 => ?_
  refine box_intro [81] (by rfl) (by decide) (by decide) fun h4 o4 k4 => ?_
  refine hc_intro (ltold_spec (r2.keep (k3.trans k4)) (o4.rd (c := 1) (by decide)) rfl (by rfl)) fun v h5 ⟨e5, ev⟩ => ?_
  subst e5; subst ev
  refine gBool_intro rfl ?_
  refine c_bool (fun _ => ?_) fun hh => absurd hh (by simp)
  refine box_intro [1] (by rfl) (by decide) (by decide) fun h6 o6 k6 => ?_
  refine hc_intro (ltold_spec (r3.keep (k4.trans k6)) (o6.rd (c := 1) (by decide)) rfl (by rfl)) fun v h7 ⟨e7, ev⟩ => ?_
  subst e7; subst ev
  refine gBool_intro rfl ?_
  refine c_bool (fun _ => ?_) fun hh => absurd hh (by simp)
  have k0 := k1.trans (k2.trans (k3.trans (k4.trans k6)))
  refine hc_intro (lall_spec (r0.keep k0) hl0 fun k h1 h2 => ?_) fun v h8 ⟨k8, e⟩ => ?_
  · have : k = 3 := by omega
    subst this
    exact play3
  · subst e
    exact gBool_intro rfl ⟨k0.trans k8, rfl⟩
end Go.Proofs.Ytidpnpcnjfbjfaa.G
