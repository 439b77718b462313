/- What is played of Mul and Sqr; the law NatmulMuls of the translation answers true. -/
import Derived.Test.YtidpnpcnjfbjfaaMulPlays
namespace Go.Proofs.Ytidpnpcnjfbjfaa.G
open Go.Gv
set_option linter.unusedVariables false
set_option maxRecDepth 100000
theorem play1 : PlayOK 1 := by
  intro h a b e c d f xs ys n ls r s i rl
  refine gnomonlaw02_plays.ok ?_
  unfold gnomonlaw02_plays.t gnomonlaw02_plays.D1.t
  refine boxV fun h2 o2 k2 => ?_
  refine ⟨o2.addLt 1, ?_⟩
  refine ldV o2 (k := 1) rfl ?_
  refine gSlice_intro rfl ?_
  refine hc_intro (Twin_spec (r.keep k2) rfl) fun v h6 ⟨k6, an⟩ => ?_
  refine an.elim fun a7 c7 r7 => ?_
  refine ⟨k6.preLe (Nat.le_refl _), o2.addLt 2, ?_⟩
  have o6 := o2.keep k6
  refine ldV o6 (k := 2) rfl ?_
  refine gSlice_intro rfl ?_
  refine hc_intro (Twin_spec (s.keep (k2.trans k6)) rfl) fun v h11 ⟨k11, an⟩ => ?_
  refine an.elim fun a12 c12 r12 => ?_
  refine ⟨k11.preLe k6.le, ?_⟩
  have o11 := o6.keep k11
  have r7 := r7.keep k11
  have k0 := k2.trans (k6.trans k11)
  refine ldV o11 (k := 0) rfl ?_
  refine gInt_intro rfl ?_
  refine c_eq (fun _ => ?_) fun hh => absurd rfl hh
  refine hc_intro (Mul_spec r7 r12 rfl rfl) fun v h13 ⟨k13, an⟩ => ?_
  refine an.elim fun a13 c13 r13 => ?_
  have o13 := o11.keep k13
  refine ldV o13 (k := 1) rfl ?_
  refine gSlice_intro rfl ?_
  refine ldV o13 (k := 2) rfl ?_
  refine gSlice_intro rfl ?_
  refine hc_intro (DocMul_spec (r.keep (k0.trans k13)) (s.keep (k0.trans k13)) rfl rfl) fun v h14 ⟨k14, an⟩ => ?_
  refine an.elim fun a14 c14 r14 => ?_
  refine hc_intro (ltold_spec (r13.keep k14) r14 rfl rfl) fun v h15 ⟨e15, ev⟩ => ?_
  subst e15; subst ev
  exact gBool_intro rfl ⟨k0.trans (k13.trans k14), by simp⟩
theorem play2 : PlayOK 2 := by
  intro h a b e c d f xs ys n ls r s i rl
  refine gnomonlaw02_plays.ok ?_
  unfold gnomonlaw02_plays.t gnomonlaw02_plays.D1.t
  refine boxV fun h2 o2 k2 => ?_
  refine ⟨o2.addLt 1, ?_⟩
  refine ldV o2 (k := 1) rfl ?_
  refine gSlice_intro rfl ?_
  refine hc_intro (Twin_spec (r.keep k2) rfl) fun v h6 ⟨k6, an⟩ => ?_
  refine an.elim fun a7 c7 r7 => ?_
  refine ⟨k6.preLe (Nat.le_refl _), o2.addLt 2, ?_⟩
  have o6 := o2.keep k6
  refine ldV o6 (k := 2) rfl ?_
  refine gSlice_intro rfl ?_
  refine hc_intro (Twin_spec (s.keep (k2.trans k6)) rfl) fun v h11 ⟨k11, an⟩ => ?_
  refine an.elim fun a12 c12 r12 => ?_
  refine ⟨k11.preLe k6.le, ?_⟩
  have o11 := o6.keep k11
  have r7 := r7.keep k11
  have k0 := k2.trans (k6.trans k11)
  refine ldV o11 (k := 0) rfl ?_
  refine gInt_intro rfl ?_
  refine c_eq (fun hh => absurd hh (by decide)) fun _ => ?_
  refine c_eq (fun _ => ?_) fun hh => absurd rfl hh
  refine hc_intro (Sqr_spec r7 rfl) fun v h13 ⟨k13, an⟩ => ?_
  refine an.elim fun a13 c13 r13 => ?_
  have o13 := o11.keep k13
  refine ldV o13 (k := 1) rfl ?_
  refine gSlice_intro rfl ?_
  refine hc_intro (DocSqr_spec (r.keep (k0.trans k13)) rfl) fun v h14 ⟨k14, an⟩ => ?_
  refine an.elim fun a14 c14 r14 => ?_
  refine hc_intro (ltold_spec (r13.keep k14) r14 rfl rfl) fun v h15 ⟨e15, ev⟩ => ?_
  subst e15; subst ev
  exact gBool_intro rfl ⟨k0.trans (k13.trans k14), by simp⟩
theorem NatmulMuls_law {a0 : Option Addr} {c0 l0 : Nat} {os : List Op2} {h : Hp} (r0 : RdOps2 h a0 c0 os) (hl0 : l0 = os.length) :
    HC gnomonlaw02_NatmulMuls.id #[.slice a0 l0 c0] h fun v h' => Keep h h' ∧ v = .bool true := by
  refine gnomonlaw02_NatmulMuls.ok ?_
  unfold gnomonlaw02_NatmulMuls.t gnomonlaw02_NatmulMuls.D1.t
  refine hc_intro (lawake_spec _) fun v h1 ⟨k1, e⟩ => ?_
  subst e
  refine gBool_intro rfl ?_
  refine c_bool (fun _ => ?_) fun hh => absurd hh (by simp)
  refine hc_intro (lall_spec (r0.keep k1) hl0 fun k h1 h2 => ?_) fun v h2 ⟨k2, e⟩ => ?_
  · have : k = 1 ∨ k = 2 := by omega
    rcases this with e | e <;> subst e
    · exact play1
    · exact play2
  · subst e
    exact gBool_intro rfl ⟨k1.trans k2, rfl⟩
end Go.Proofs.Ytidpnpcnjfbjfaa.G
