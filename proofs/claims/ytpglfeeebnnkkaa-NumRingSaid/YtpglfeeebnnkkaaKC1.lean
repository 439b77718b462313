/- Texts of this work, joined: ZRefM, ZRef3, ZLawL, ZAri, ZRef4, ZLNumRing, ZLawC, ZLawR. -/
import Derived.Test.YtpglfeeebnnkkaaKB
import Derived.Test.YtpglfeeebnnkkaaKC0
/- Functions without loops as functions of values. Written by a program of this work. -/
namespace Go.Proofs.Ytpglfeeebnnkkaa.G
open Go.Gv
set_option linter.unusedVariables false
set_option maxRecDepth 100000
namespace gnomonref04_From
def D1.v (b0_0 : Bool) (xs0_1 : List Nat) : (Bool × Nat) :=
  letV (val xs0_1) fun p_3 =>
  letV (dz (sg b0_0 p_3)) fun p_4 =>
  (p_4.1, p_4.2)
theorem D1.hv {R : Rt} {h0 h : Hp} (k0 : Keep h0 h) {b0_0 : Bool} {a0_1 : Option Addr} {c0_1 l0_1 : Nat} {xs0_1 : List Nat} (r0_1 : Rd h a0_1 c0_1 xs0_1) (e0_1 : l0_1 = xs0_1.length) (g : Post sZD h0 R (D1.v b0_0 xs0_1)) : D1.t R b0_0 a0_1 l0_1 c0_1 h := by
  subst e0_1
  have kh := Keep.refl h
  unfold D1.v at g
  unfold D1.t
  refine boxV fun h_1 bx_1 k_1 => ?_
  have o_1 : h0.size ≤ h.size := k0.le
  have oh_1 : h.size ≤ h.size := kh.le
  have lt_1 := bx_1.lt
  have m_1 := k_1.tame
  have k0 := k0.trans k_1
  have kh := kh.trans k_1
  refine boxV fun h_2 bx_2 k_2 => ?_
  have d_1q_2 : h.size ≠ h_1.size := Nat.ne_of_lt bx_1.lt
  have o_2 : h0.size ≤ h_1.size := k0.le
  have oh_2 : h.size ≤ h_1.size := kh.le
  have lt_2 := bx_2.lt
  have m_2 := k_2.tame
  have bx_1 := bx_1.keep k_2
  have k0 := k0.trans k_2
  have kh := kh.trans k_2
  refine ⟨blkLt (base_add _ _) ((m_2).lt lt_1), ?_⟩
  refine ldA bx_1 (base_add _ _) rfl ?_
  refine gBool_intro rfl ?_
  refine ⟨blkLt (base_add _ _) ((m_2).lt lt_1), ?_⟩
  refine ldA bx_1 (base_add _ _) rfl ?_
  refine gSlice_intro rfl ?_
  refine hc_intro (gnomonref01_From.hv (r0_1.tame (m_1.trans m_2)) rfl) fun v h_3 ⟨k_3, s⟩ => ?_
  obtain ⟨p_3, hp_3⟩ : ∃ p, p = val xs0_1 := ⟨_, rfl⟩
  rw [← hp_3] at s
  replace g := lift_let2 hp_3 g
  obtain ⟨a_3, c_3, rfl, r_3⟩ := s
  refine gSlice_intro rfl (?_)
  have r_3 := r_3.from k0.le
  have m_3 := k_3.tame
  have bx_1 := bx_1.keep k_3
  have bx_2 := bx_2.keep k_3
  have k0 := k0.trans k_3
  have kh := kh.trans k_3
  refine ⟨k_3.preLe (Nat.le_refl _), ?_⟩
  refine hc_intro (gnomonref04_Mk.hs r_3.rd rfl) fun v h_4 ⟨k_4, s⟩ => ?_
  obtain ⟨p_4, hp_4⟩ : ∃ p, p = dz (sg b0_0 p_3) := ⟨_, rfl⟩
  rw [← hp_4] at s
  replace g := lift_let2 hp_4 g
  obtain ⟨a_4, c_4, rfl, r_4⟩ := s
  refine gAgg_intro rfl (uncons_intro (gBool_intro rfl (uncons_intro (gSlice_intro rfl (unnil_intro (?_))))))
  have r_4 := r_4.from k0.le
  have m_4 := k_4.tame
  have bx_1 := bx_1.keep k_4
  have bx_2 := bx_2.keep k_4
  have k0 := k0.trans k_4
  have kh := kh.trans k_4
  refine ⟨k_4.preLe (m_3).le, ?_⟩
  refine stA bx_2 (base_add _ _) rfl fun h_5 bx_2 k_5 m_5 => ?_
  have bx_1 := bx_1.keepB d_1q_2 k_5
  have k0 := KeepB.keep k0 k_5 o_2
  have kh := KeepB.keep kh k_5 oh_2
  refine stA bx_2 (base_add _ _) rfl fun h_6 bx_2 k_6 m_6 => ?_
  have bx_1 := bx_1.keepB d_1q_2 k_6
  have k0 := KeepB.keep k0 k_6 o_2
  have kh := KeepB.keep kh k_6 oh_2
  refine ldA bx_2 (base_add _ _) rfl ?_
  refine gBool_intro rfl ?_
  refine ldA bx_2 (base_add _ _) rfl ?_
  refine gSlice_intro rfl ?_
  exact g _ _ k0 ⟨_, _, rfl, (r_4.tame (m_5.trans m_6))⟩
def v (b0_0 : Bool) (xs0_1 : List Nat) : (Bool × Nat) := D1.v b0_0 xs0_1
theorem hv {h : Hp} {b0_0 : Bool} {a0_1 : Option Addr} {c0_1 l0_1 : Nat} {xs0_1 : List Nat} (r0_1 : Rd h a0_1 c0_1 xs0_1) (e0_1 : l0_1 = xs0_1.length) : HC id #[.agg #[.bool b0_0, .slice a0_1 l0_1 c0_1]] h fun v_ h_ => Keep h h_ ∧ sZD h h_ v_ (v b0_0 xs0_1) :=
  ok (D1.hv (Keep.refl _) r0_1 e0_1 fun v h' k s => ⟨k, s⟩)
end gnomonref04_From

namespace gnomonref04_To
def D1.v (b0_0 : Bool) (X0_1 : Nat) : (Bool × List Nat) :=
  bif b0_0 then
    letV (digs X0_1) fun p_4 =>
    ((decide (((((D.digs X0_1).length : Nat) : Int)) > (0 : Int))), p_4)
  else
    letV (digs X0_1) fun p_5 =>
    (false, p_5)
theorem D1.hv {R : Rt} {h0 h : Hp} (k0 : Keep h0 h) {b0_0 : Bool} {a0_1 : Option Addr} {c0_1 l0_1 : Nat} {X0_1 : Nat} (r0_1 : RdE eU32 h a0_1 c0_1 (D.digs X0_1)) (e0_1 : l0_1 = (D.digs X0_1).length) (g : Post sZW h0 R (D1.v b0_0 X0_1)) : D1.t R b0_0 a0_1 l0_1 c0_1 h := by
  subst e0_1
  have kh := Keep.refl h
  unfold D1.v at g
  unfold D1.t
  refine boxV fun h_1 bx_1 k_1 => ?_
  have o_1 : h0.size ≤ h.size := k0.le
  have oh_1 : h.size ≤ h.size := kh.le
  have lt_1 := bx_1.lt
  have m_1 := k_1.tame
  have k0 := k0.trans k_1
  have kh := kh.trans k_1
  refine boxV fun h_2 bx_2 k_2 => ?_
  have d_1q_2 : h.size ≠ h_1.size := Nat.ne_of_lt bx_1.lt
  have o_2 : h0.size ≤ h_1.size := k0.le
  have oh_2 : h.size ≤ h_1.size := kh.le
  have lt_2 := bx_2.lt
  have m_2 := k_2.tame
  have bx_1 := bx_1.keep k_2
  have k0 := k0.trans k_2
  have kh := kh.trans k_2
  refine ⟨blkLt (base_add _ _) ((m_2).lt lt_1), ?_⟩
  refine ldA bx_1 (base_add _ _) rfl ?_
  refine gBool_intro rfl ?_
  refine lift_bool g (fun q_3 g => ?_) (fun q_3 g => ?_)
  · refine ⟨blkLt (base_add _ _) ((m_2).lt lt_1), ?_⟩
    refine ldA bx_1 (base_add _ _) rfl ?_
    refine gSlice_intro rfl ?_
    refine ⟨blkLt (base_add _ _) ((m_2).lt lt_1), ?_⟩
    refine ldA bx_1 (base_add _ _) rfl ?_
    refine gSlice_intro rfl ?_
    refine hc_intro (gnomonref01_To.hv (r0_1.tame (m_1.trans m_2)) rfl) fun v h_3 ⟨k_3, s⟩ => ?_
    obtain ⟨p_4, hp_4⟩ : ∃ p, p = digs X0_1 := ⟨_, rfl⟩
    rw [← hp_4] at s
    replace g := lift_let2 hp_4 g
    obtain ⟨a_4, c_4, rfl, r_4⟩ := s
    refine gSlice_intro rfl (?_)
    have r_4 := r_4.from k0.le
    have m_3 := k_3.tame
    have bx_1 := bx_1.keep k_3
    have bx_2 := bx_2.keep k_3
    have k0 := k0.trans k_3
    have kh := kh.trans k_3
    refine ⟨k_3.preLe (Nat.le_refl _), ?_⟩
    refine stA bx_2 (base_add _ _) rfl fun h_4 bx_2 k_4 m_4 => ?_
    have bx_1 := bx_1.keepB d_1q_2 k_4
    have k0 := KeepB.keep k0 k_4 o_2
    have kh := KeepB.keep kh k_4 oh_2
    refine stA bx_2 (base_add _ _) rfl fun h_5 bx_2 k_5 m_5 => ?_
    have bx_1 := bx_1.keepB d_1q_2 k_5
    have k0 := KeepB.keep k0 k_5 o_2
    have kh := KeepB.keep kh k_5 oh_2
    refine ldA bx_2 (base_add _ _) rfl ?_
    refine gBool_intro rfl ?_
    refine ldA bx_2 (base_add _ _) rfl ?_
    refine gSlice_intro rfl ?_
    exact g _ _ k0 ⟨_, _, rfl, (r_4.tame (m_4.trans m_5))⟩
  · refine ⟨blkLt (base_add _ _) ((m_2).lt lt_1), ?_⟩
    refine ldA bx_1 (base_add _ _) rfl ?_
    refine gSlice_intro rfl ?_
    refine hc_intro (gnomonref01_To.hv (r0_1.tame (m_1.trans m_2)) rfl) fun v h_3 ⟨k_3, s⟩ => ?_
    obtain ⟨p_5, hp_5⟩ : ∃ p, p = digs X0_1 := ⟨_, rfl⟩
    rw [← hp_5] at s
    replace g := lift_let2 hp_5 g
    obtain ⟨a_5, c_5, rfl, r_5⟩ := s
    refine gSlice_intro rfl (?_)
    have r_5 := r_5.from k0.le
    have m_3 := k_3.tame
    have bx_1 := bx_1.keep k_3
    have bx_2 := bx_2.keep k_3
    have k0 := k0.trans k_3
    have kh := kh.trans k_3
    refine ⟨k_3.preLe (Nat.le_refl _), ?_⟩
    refine stA bx_2 (base_add _ _) rfl fun h_4 bx_2 k_4 m_4 => ?_
    have bx_1 := bx_1.keepB d_1q_2 k_4
    have k0 := KeepB.keep k0 k_4 o_2
    have kh := KeepB.keep kh k_4 oh_2
    refine stA bx_2 (base_add _ _) rfl fun h_5 bx_2 k_5 m_5 => ?_
    have bx_1 := bx_1.keepB d_1q_2 k_5
    have k0 := KeepB.keep k0 k_5 o_2
    have kh := KeepB.keep kh k_5 oh_2
    refine ldA bx_2 (base_add _ _) rfl ?_
    refine gBool_intro rfl ?_
    refine ldA bx_2 (base_add _ _) rfl ?_
    refine gSlice_intro rfl ?_
    exact g _ _ k0 ⟨_, _, rfl, (r_5.tame (m_4.trans m_5))⟩
def v (b0_0 : Bool) (X0_1 : Nat) : (Bool × List Nat) := D1.v b0_0 X0_1
theorem hv {h : Hp} {b0_0 : Bool} {a0_1 : Option Addr} {c0_1 l0_1 : Nat} {X0_1 : Nat} (r0_1 : RdE eU32 h a0_1 c0_1 (D.digs X0_1)) (e0_1 : l0_1 = (D.digs X0_1).length) : HC id #[.agg #[.bool b0_0, .slice a0_1 l0_1 c0_1]] h fun v_ h_ => Keep h h_ ∧ sZW h h_ v_ (v b0_0 X0_1) :=
  ok (D1.hv (Keep.refl _) r0_1 e0_1 fun v h' k s => ⟨k, s⟩)
end gnomonref04_To

end Go.Proofs.Ytpglfeeebnnkkaa.G

/- The reference's whole numbers: from limbs and back. -/
namespace Go.Proofs.Ytpglfeeebnnkkaa.G
open Go.Gv
set_option linter.unusedVariables false
theorem From_v (b : Bool) (xs : List Nat) : gnomonref04_From.v b xs = dz (zi (b, xs)) := rfl
theorem To_v (b : Bool) (X : Nat) : gnomonref04_To.v b X = zz (di (b, X)) := by
  unfold gnomonref04_To.v gnomonref04_To.D1.v
  have e1 : di (b, X) = sg b X := rfl
  rw [e1, zz_sg]
  have e : decide ((((D.digs X).length : Nat) : Int) > 0) = decide (X ≠ 0) := by
    rw [decide_eq_decide]; have := dlenZ X; omega
  simp only [letV, e]
  cases b <;> rfl
section
variable {a b : Option Addr} {c d l m X : Nat} {xs ys : List Nat} {h : Hp} {x y : Int} {p q : Bool}
theorem gnomonref04_From.hs (r : Rd h a c xs) (e : l = xs.length) : HC gnomonref04_From.id #[.agg #[.bool p, .slice a l c]] h fun v h' => Keep h h' ∧ sZD h h' v (dz (zi (p, xs))) := gnomonref04_From.hv r e
theorem gnomonref04_To.hs (r : RdE eU32 h a c (D.digs X)) (e : l = (D.digs X).length) : HC gnomonref04_To.id #[.agg #[.bool p, .slice a l c]] h fun v h' => Keep h h' ∧ sZW h h' v (zz (di (p, X))) := by rw [← To_v]; exact gnomonref04_To.hv r e
end
end Go.Proofs.Ytpglfeeebnnkkaa.G

/- Functions without loops as functions of values. Written by a program of this work. -/
namespace Go.Proofs.Ytpglfeeebnnkkaa.G
open Go.Gv
set_option linter.unusedVariables false
set_option maxRecDepth 100000
namespace gnomonlaw04_formed
def D1.v (b0_0 : Bool) (xs0_1 : List Nat) : ((Bool × List Nat) × Bool) :=
  letV (dz (zi (b0_0, xs0_1))) fun p_3 =>
  letV (zz (di (p_3.1, p_3.2))) fun p_4 =>
  ((p_4.1, p_4.2), (decide ((((p_4.2.length : Nat) : Int)) ≤ (8192 : Int))))
theorem D1.hv {R : Rt} {h0 h : Hp} (k0 : Keep h0 h) {b0_0 : Bool} {a0_1 : Option Addr} {c0_1 l0_1 : Nat} {xs0_1 : List Nat} (r0_1 : Rd h a0_1 c0_1 xs0_1) (e0_1 : l0_1 = xs0_1.length) (g : Post (s2 sZW sBool) h0 R (D1.v b0_0 xs0_1)) : D1.t R b0_0 a0_1 l0_1 c0_1 h := by
  subst e0_1
  have kh := Keep.refl h
  unfold D1.v at g
  unfold D1.t
  refine boxV fun h_1 bx_1 k_1 => ?_
  have o_1 : h0.size ≤ h.size := k0.le
  have oh_1 : h.size ≤ h.size := kh.le
  have lt_1 := bx_1.lt
  have m_1 := k_1.tame
  have k0 := k0.trans k_1
  have kh := kh.trans k_1
  refine boxV fun h_2 bx_2 k_2 => ?_
  have d_1q_2 : h.size ≠ h_1.size := Nat.ne_of_lt bx_1.lt
  have o_2 : h0.size ≤ h_1.size := k0.le
  have oh_2 : h.size ≤ h_1.size := kh.le
  have lt_2 := bx_2.lt
  have m_2 := k_2.tame
  have bx_1 := bx_1.keep k_2
  have k0 := k0.trans k_2
  have kh := kh.trans k_2
  refine ldA bx_1 (base_add _ _) rfl ?_
  refine gBool_intro rfl ?_
  refine ldA bx_1 (base_add _ _) rfl ?_
  refine gSlice_intro rfl ?_
  refine hc_intro (gnomonref04_From.hs (r0_1.tame (m_1.trans m_2)) rfl) fun v h_3 ⟨k_3, s⟩ => ?_
  obtain ⟨p_3, hp_3⟩ : ∃ p, p = dz (zi (b0_0, xs0_1)) := ⟨_, rfl⟩
  rw [← hp_3] at s
  replace g := lift_let2 hp_3 g
  obtain ⟨a_3, c_3, rfl, r_3⟩ := s
  refine gAgg_intro rfl (uncons_intro (gBool_intro rfl (uncons_intro (gSlice_intro rfl (unnil_intro (?_))))))
  have r_3 := r_3.from k0.le
  have m_3 := k_3.tame
  have bx_1 := bx_1.keep k_3
  have bx_2 := bx_2.keep k_3
  have k0 := k0.trans k_3
  have kh := kh.trans k_3
  refine hc_intro (gnomonref04_To.hs r_3.rd rfl) fun v h_4 ⟨k_4, s⟩ => ?_
  obtain ⟨p_4, hp_4⟩ : ∃ p, p = zz (di (p_3.1, p_3.2)) := ⟨_, rfl⟩
  rw [← hp_4] at s
  replace g := lift_let2 hp_4 g
  obtain ⟨a_4, c_4, rfl, r_4⟩ := s
  refine gAgg_intro rfl (uncons_intro (gBool_intro rfl (uncons_intro (gSlice_intro rfl (unnil_intro (?_))))))
  have r_4 := r_4.from k0.le
  have m_4 := k_4.tame
  have bx_1 := bx_1.keep k_4
  have bx_2 := bx_2.keep k_4
  have k0 := k0.trans k_4
  have kh := kh.trans k_4
  refine boxV fun h_5 bx_5 k_5 => ?_
  have d_1q_5 : h.size ≠ h_4.size := Nat.ne_of_lt bx_1.lt
  have d_2q_5 : h_1.size ≠ h_4.size := Nat.ne_of_lt bx_2.lt
  have o_5 : h0.size ≤ h_4.size := k0.le
  have oh_5 : h.size ≤ h_4.size := kh.le
  have lt_5 := bx_5.lt
  have m_5 := k_5.tame
  have bx_1 := bx_1.keep k_5
  have bx_2 := bx_2.keep k_5
  have k0 := k0.trans k_5
  have kh := kh.trans k_5
  refine stA bx_5 (base_add _ _) rfl fun h_6 bx_5 k_6 m_6 => ?_
  have bx_1 := bx_1.keepB d_1q_5 k_6
  have bx_2 := bx_2.keepB d_2q_5 k_6
  have k0 := KeepB.keep k0 k_6 o_5
  have kh := KeepB.keep kh k_6 oh_5
  refine stA bx_5 (base_add _ _) rfl fun h_7 bx_5 k_7 m_7 => ?_
  have bx_1 := bx_1.keepB d_1q_5 k_7
  have bx_2 := bx_2.keepB d_2q_5 k_7
  have k0 := KeepB.keep k0 k_7 o_5
  have kh := KeepB.keep kh k_7 oh_5
  refine ⟨blkLt rfl ((m_6.trans m_7).lt lt_5), ?_⟩
  refine ldA bx_5 (base_add _ _) rfl ?_
  refine gBool_intro rfl ?_
  refine ldA bx_5 (base_add _ _) rfl ?_
  refine gSlice_intro rfl ?_
  refine ⟨?_, ?_⟩
  · refine ⟨blkLt (base_add _ _) ((m_6.trans m_7).lt lt_5), ?_⟩
    refine ldA bx_5 (base_add _ _) rfl ?_
    refine gSlice_intro rfl ?_
    refine stA bx_2 (base_add _ _) rfl fun h_8 bx_2 k_8 m_8 => ?_
    have bx_1 := bx_1.keepB d_1q_2 k_8
    have bx_5 := bx_5.keepB (Ne.symm d_2q_5) k_8
    have k0 := KeepB.keep k0 k_8 o_2
    have kh := KeepB.keep kh k_8 oh_2
    refine stA bx_2 (base_add _ _) rfl fun h_9 bx_2 k_9 m_9 => ?_
    have bx_1 := bx_1.keepB d_1q_2 k_9
    have bx_5 := bx_5.keepB (Ne.symm d_2q_5) k_9
    have k0 := KeepB.keep k0 k_9 o_2
    have kh := KeepB.keep kh k_9 oh_2
    refine ldA bx_2 (base_add _ _) rfl ?_
    refine gBool_intro rfl ?_
    refine ldA bx_2 (base_add _ _) rfl ?_
    refine gSlice_intro rfl ?_
    exact g _ _ k0 ⟨_, _, rfl, ⟨_, _, rfl, (r_4.tame (m_5.trans (m_6.trans (m_7.trans (m_8.trans m_9)))))⟩, rfl⟩
  · refine stA bx_2 (base_add _ _) rfl fun h_8 bx_2 k_8 m_8 => ?_
    have bx_1 := bx_1.keepB d_1q_2 k_8
    have bx_5 := bx_5.keepB (Ne.symm d_2q_5) k_8
    have k0 := KeepB.keep k0 k_8 o_2
    have kh := KeepB.keep kh k_8 oh_2
    refine stA bx_2 (base_add _ _) rfl fun h_9 bx_2 k_9 m_9 => ?_
    have bx_1 := bx_1.keepB d_1q_2 k_9
    have bx_5 := bx_5.keepB (Ne.symm d_2q_5) k_9
    have k0 := KeepB.keep k0 k_9 o_2
    have kh := KeepB.keep kh k_9 oh_2
    refine ⟨blkLt (base_add _ _) ((m_6.trans m_7).lt lt_5), ?_⟩
    refine ldA bx_5 (base_add _ _) rfl ?_
    refine gSlice_intro rfl ?_
    refine ldA bx_2 (base_add _ _) rfl ?_
    refine gBool_intro rfl ?_
    refine ldA bx_2 (base_add _ _) rfl ?_
    refine gSlice_intro rfl ?_
    exact g _ _ k0 ⟨_, _, rfl, ⟨_, _, rfl, (r_4.tame (m_5.trans (m_6.trans (m_7.trans (m_8.trans m_9)))))⟩, rfl⟩
def v (b0_0 : Bool) (xs0_1 : List Nat) : ((Bool × List Nat) × Bool) := D1.v b0_0 xs0_1
theorem hv {h : Hp} {b0_0 : Bool} {a0_1 : Option Addr} {c0_1 l0_1 : Nat} {xs0_1 : List Nat} (r0_1 : Rd h a0_1 c0_1 xs0_1) (e0_1 : l0_1 = xs0_1.length) : HC id #[.agg #[.bool b0_0, .slice a0_1 l0_1 c0_1]] h fun v_ h_ => Keep h h_ ∧ (s2 sZW sBool) h h_ v_ (v b0_0 xs0_1) :=
  ok (D1.hv (Keep.refl _) r0_1 e0_1 fun v h' k s => ⟨k, s⟩)
end gnomonlaw04_formed

namespace gnomonlaw04_awake
def D2.v (x2 : Int) (b3_0 : Bool) (xs3_1 : List Nat) (x4 : Int) : Bool :=
  letV (smaS (b3_0, xs3_1)) fun p_8 =>
  bif (x2 == (0 : Int)) then
    bif (x4 == (0 : Int)) then
      bif (p_8.2 == (0 : Int)) then
        bif (p_8.1 == (-14 : Int)) then
          bif (((cmpZ (zi (b3_0, xs3_1)) 0)) == (-1 : Int)) then
            (decide (FrmZ (b3_0, xs3_1)))
          else
            false
        else
          false
      else
        false
    else
      false
  else
    false
theorem D2.hv {R : Rt} {h0 h : Hp} (k0 : Keep h0 h) {x2 : Int} (i2 : In .i64 x2) {b3_0 : Bool} {a3_1 : Option Addr} {c3_1 : Nat} {xs3_1 : List Nat} (r3_1 : GotE eU64 h0 h a3_1 c3_1 xs3_1) {B3 : Nat} (bx3 : BlkV h B3 [.bool b3_0, .slice a3_1 xs3_1.length c3_1]) (o3 : h0.size ≤ B3) {x4 : Int} (i4 : In .i64 x4) (g : Post sBool h0 R (D2.v x2 b3_0 xs3_1 x4)) : D2.t R x2 (⟨B3, 0, none⟩ : Addr) x4 h := by
  have kh := Keep.refl h
  have lt3 := bx3.lt
  unfold D2.v at g
  unfold D2.t
  refine ldA bx3 (base_add _ _) rfl ?_
  refine gBool_intro rfl ?_
  refine ldA bx3 (base_add _ _) rfl ?_
  refine gSlice_intro rfl ?_
  refine hc_intro (num_Small.hs r3_1.rd64 rfl) fun v h_1 ⟨k_1, s⟩ => ?_
  obtain ⟨p_8, hp_8⟩ : ∃ p, p = smaS (b3_0, xs3_1) := ⟨_, rfl⟩
  rw [← hp_8] at s
  replace g := lift_let2 hp_8 g
  obtain ⟨_, _, rfl, ⟨rfl, i_8_0⟩, ⟨rfl, i_8_1⟩⟩ := s
  refine gTup_intro rfl (uncons_intro (gInt_intro rfl (uncons_intro (gInt_intro rfl (unnil_intro (?_))))))
  have m_1 := k_1.tame
  have bx3 := bx3.keep k_1
  have k0 := k0.trans k_1
  have kh := kh.trans k_1
  refine lift_eq g (fun q_9 g => ?_) (fun q_9 g => ?_)
  · refine lift_eq g (fun q_10 g => ?_) (fun q_10 g => ?_)
    · refine lift_eq g (fun q_11 g => ?_) (fun q_11 g => ?_)
      · refine lift_eq g (fun q_12 g => ?_) (fun q_12 g => ?_)
        · refine ldA bx3 (base_add _ _) rfl ?_
          refine gBool_intro rfl ?_
          refine ldA bx3 (base_add _ _) rfl ?_
          refine gSlice_intro rfl ?_
          refine hc_intro (num_Sign.hs (r3_1.tame (m_1)).rd64 rfl) fun v h_2 ⟨k_2, s⟩ => ?_
          obtain ⟨rfl, i_13⟩ := s
          refine gInt_intro rfl (?_)
          have m_2 := k_2.tame
          have bx3 := bx3.keep k_2
          have k0 := k0.trans k_2
          have kh := kh.trans k_2
          refine lift_eq g (fun q_14 g => ?_) (fun q_14 g => ?_)
          · refine ldA bx3 (base_add _ _) rfl ?_
            refine gBool_intro rfl ?_
            refine ldA bx3 (base_add _ _) rfl ?_
            refine gSlice_intro rfl ?_
            refine hc_intro (num_Form.hs (r3_1.tame (m_1.trans m_2)).rd64 rfl) fun v h_3 ⟨k_3, s⟩ => ?_
            obtain rfl := s
            refine gBool_intro rfl (?_)
            have m_3 := k_3.tame
            have bx3 := bx3.keep k_3
            have k0 := k0.trans k_3
            have kh := kh.trans k_3
            exact g _ _ k0 rfl
          · exact g _ _ k0 rfl
        · exact g _ _ k0 rfl
      · exact g _ _ k0 rfl
    · exact g _ _ k0 rfl
  · exact g _ _ k0 rfl
def D1.v  : Bool :=
  letV (zz (-5 : Int)) fun p_1 =>
  letV (zz (3 : Int)) fun p_2 =>
  letV (twoZ addI (p_1.1, p_1.2) (p_2.1, p_2.2)) fun p_3 =>
  letV (zz (7 : Int)) fun p_5 =>
  letV (twoZ mulI (p_3.1.1, p_3.1.2) (p_5.1, p_5.2)) fun p_6 =>
  D2.v p_3.2 p_6.1.1 p_6.1.2 p_6.2
theorem D1.hv {R : Rt} {h0 h : Hp} (k0 : Keep h0 h)  (g : Post sBool h0 R (D1.v )) : D1.t R  h := by
  have kh := Keep.refl h
  unfold D1.v at g
  unfold D1.t
  refine hc_intro (num_Of.hs (show In .i64 (-5 : Int) by decide)) fun v h_1 ⟨k_1, s⟩ => ?_
  obtain ⟨p_1, hp_1⟩ : ∃ p, p = zz (-5 : Int) := ⟨_, rfl⟩
  rw [← hp_1] at s
  replace g := lift_let2 hp_1 g
  obtain ⟨a_1, c_1, rfl, r_1⟩ := s
  refine gAgg_intro rfl (uncons_intro (gBool_intro rfl (uncons_intro (gSlice_intro rfl (unnil_intro (?_))))))
  have r_1 := r_1.from k0.le
  have m_1 := k_1.tame
  have k0 := k0.trans k_1
  have kh := kh.trans k_1
  refine hc_intro (num_Of.hs (show In .i64 (3 : Int) by decide)) fun v h_2 ⟨k_2, s⟩ => ?_
  obtain ⟨p_2, hp_2⟩ : ∃ p, p = zz (3 : Int) := ⟨_, rfl⟩
  rw [← hp_2] at s
  replace g := lift_let2 hp_2 g
  obtain ⟨a_2, c_2, rfl, r_2⟩ := s
  refine gAgg_intro rfl (uncons_intro (gBool_intro rfl (uncons_intro (gSlice_intro rfl (unnil_intro (?_))))))
  have r_2 := r_2.from k0.le
  have m_2 := k_2.tame
  have k0 := k0.trans k_2
  have kh := kh.trans k_2
  refine hc_intro (num_Add.hs (r_1.tame (m_2)).rd64 rfl r_2.rd64 rfl) fun v h_3 ⟨k_3, s⟩ => ?_
  obtain ⟨p_3, hp_3⟩ : ∃ p, p = twoZ addI (p_1.1, p_1.2) (p_2.1, p_2.2) := ⟨_, rfl⟩
  rw [← hp_3] at s
  replace g := lift_let2 hp_3 g
  obtain ⟨_, _, rfl, ⟨a_3_0, c_3_0, rfl, r_3_0⟩, ⟨rfl, i_3_1⟩⟩ := s
  refine gTup_intro rfl (uncons_intro (gAgg_intro rfl (uncons_intro (gBool_intro rfl (uncons_intro (gSlice_intro rfl (unnil_intro (uncons_intro (gInt_intro rfl (unnil_intro (?_)))))))))))
  have r_3_0 := r_3_0.from k0.le
  have m_3 := k_3.tame
  have k0 := k0.trans k_3
  have kh := kh.trans k_3
  refine boxV fun h_4 bx_4 k_4 => ?_
  have o_4 : h0.size ≤ h_3.size := k0.le
  have oh_4 : h.size ≤ h_3.size := kh.le
  have lt_4 := bx_4.lt
  have m_4 := k_4.tame
  have k0 := k0.trans k_4
  have kh := kh.trans k_4
  refine stA bx_4 (base_add _ _) rfl fun h_5 bx_4 k_5 m_5 => ?_
  have k0 := KeepB.keep k0 k_5 o_4
  have kh := KeepB.keep kh k_5 oh_4
  refine stA bx_4 (base_add _ _) rfl fun h_6 bx_4 k_6 m_6 => ?_
  have k0 := KeepB.keep k0 k_6 o_4
  have kh := KeepB.keep kh k_6 oh_4
  refine ⟨blkLt rfl ((m_5.trans m_6).lt lt_4), ?_⟩
  refine ldA bx_4 (base_add _ _) rfl ?_
  refine gBool_intro rfl ?_
  refine ldA bx_4 (base_add _ _) rfl ?_
  refine gSlice_intro rfl ?_
  refine ⟨?_, ?_⟩
  · refine hc_intro (num_Of.hs (show In .i64 (7 : Int) by decide)) fun v h_7 ⟨k_7, s⟩ => ?_
    obtain ⟨p_5, hp_5⟩ : ∃ p, p = zz (7 : Int) := ⟨_, rfl⟩
    rw [← hp_5] at s
    replace g := lift_let2 hp_5 g
    obtain ⟨a_5, c_5, rfl, r_5⟩ := s
    refine gAgg_intro rfl (uncons_intro (gBool_intro rfl (uncons_intro (gSlice_intro rfl (unnil_intro (?_))))))
    have r_5 := r_5.from k0.le
    have m_7 := k_7.tame
    have bx_4 := bx_4.keep k_7
    have k0 := k0.trans k_7
    have kh := kh.trans k_7
    refine ⟨k_7.preLe (Nat.le_refl _), ?_⟩
    refine ⟨?_, ?_⟩
    · refine hc_intro (num_Mul.hs (r_3_0.tame (m_4.trans (m_5.trans (m_6.trans m_7)))).rd64 rfl r_5.rd64 rfl) fun v h_8 ⟨k_8, s⟩ => ?_
      obtain ⟨p_6, hp_6⟩ : ∃ p, p = twoZ mulI (p_3.1.1, p_3.1.2) (p_5.1, p_5.2) := ⟨_, rfl⟩
      rw [← hp_6] at s
      replace g := lift_let2 hp_6 g
      obtain ⟨_, _, rfl, ⟨a_6_0, c_6_0, rfl, r_6_0⟩, ⟨rfl, i_6_1⟩⟩ := s
      refine gTup_intro rfl (uncons_intro (gAgg_intro rfl (uncons_intro (gBool_intro rfl (uncons_intro (gSlice_intro rfl (unnil_intro (uncons_intro (gInt_intro rfl (unnil_intro (?_)))))))))))
      have r_6_0 := r_6_0.from k0.le
      have m_8 := k_8.tame
      have bx_4 := bx_4.keep k_8
      have k0 := k0.trans k_8
      have kh := kh.trans k_8
      refine ⟨k_8.preLe (m_7).le, ?_⟩
      refine boxV fun h_9 bx_7 k_9 => ?_
      have d_4q_7 : h_3.size ≠ h_8.size := Nat.ne_of_lt bx_4.lt
      have o_7 : h0.size ≤ h_8.size := k0.le
      have oh_7 : h.size ≤ h_8.size := kh.le
      have lt_7 := bx_7.lt
      have m_9 := k_9.tame
      have bx_4 := bx_4.keep k_9
      have k0 := k0.trans k_9
      have kh := kh.trans k_9
      refine ⟨k_9.preLe (m_7.trans m_8).le, ?_⟩
      refine stA bx_7 (base_add _ _) rfl fun h_10 bx_7 k_10 m_10 => ?_
      have bx_4 := bx_4.keepB d_4q_7 k_10
      have k0 := KeepB.keep k0 k_10 o_7
      have kh := KeepB.keep kh k_10 oh_7
      refine stA bx_7 (base_add _ _) rfl fun h_11 bx_7 k_11 m_11 => ?_
      have bx_4 := bx_4.keepB d_4q_7 k_11
      have k0 := KeepB.keep k0 k_11 o_7
      have kh := KeepB.keep kh k_11 oh_7
      exact D2.hv k0 i_3_1 (r_6_0.tame (m_9.trans (m_10.trans m_11))) bx_7 o_7 i_6_1 g
    · refine boxV fun h_8 bx_16 k_8 => ?_
      have d_4q_16 : h_3.size ≠ h_7.size := Nat.ne_of_lt bx_4.lt
      have o_16 : h0.size ≤ h_7.size := k0.le
      have oh_16 : h.size ≤ h_7.size := kh.le
      have lt_16 := bx_16.lt
      have m_8 := k_8.tame
      have bx_4 := bx_4.keep k_8
      have k0 := k0.trans k_8
      have kh := kh.trans k_8
      refine ⟨k_8.preLe (m_7).le, ?_⟩
      refine hc_intro (num_Mul.hs (r_3_0.tame (m_4.trans (m_5.trans (m_6.trans (m_7.trans m_8))))).rd64 rfl (r_5.tame (m_8)).rd64 rfl) fun v h_9 ⟨k_9, s⟩ => ?_
      obtain ⟨p_17, hp_17⟩ : ∃ p, p = twoZ mulI (p_3.1.1, p_3.1.2) (p_5.1, p_5.2) := ⟨_, rfl⟩
      rw [← hp_17] at s
      replace g := lift_let2 hp_17 g
      obtain ⟨_, _, rfl, ⟨a_17_0, c_17_0, rfl, r_17_0⟩, ⟨rfl, i_17_1⟩⟩ := s
      refine gTup_intro rfl (uncons_intro (gAgg_intro rfl (uncons_intro (gBool_intro rfl (uncons_intro (gSlice_intro rfl (unnil_intro (uncons_intro (gInt_intro rfl (unnil_intro (?_)))))))))))
      have r_17_0 := r_17_0.from k0.le
      have m_9 := k_9.tame
      have bx_4 := bx_4.keep k_9
      have bx_16 := bx_16.keep k_9
      have k0 := k0.trans k_9
      have kh := kh.trans k_9
      refine ⟨k_9.preLe (m_7.trans m_8).le, ?_⟩
      refine stA bx_16 (base_add _ _) rfl fun h_10 bx_16 k_10 m_10 => ?_
      have bx_4 := bx_4.keepB d_4q_16 k_10
      have k0 := KeepB.keep k0 k_10 o_16
      have kh := KeepB.keep kh k_10 oh_16
      refine stA bx_16 (base_add _ _) rfl fun h_11 bx_16 k_11 m_11 => ?_
      have bx_4 := bx_4.keepB d_4q_16 k_11
      have k0 := KeepB.keep k0 k_11 o_16
      have kh := KeepB.keep kh k_11 oh_16
      exact D2.hv k0 i_3_1 (r_17_0.tame (m_10.trans m_11)) bx_16 o_16 i_17_1 g
  · refine boxV fun h_7 bx_18 k_7 => ?_
    have d_4q_18 : h_3.size ≠ h_6.size := Nat.ne_of_lt bx_4.lt
    have o_18 : h0.size ≤ h_6.size := k0.le
    have oh_18 : h.size ≤ h_6.size := kh.le
    have lt_18 := bx_18.lt
    have m_7 := k_7.tame
    have bx_4 := bx_4.keep k_7
    have k0 := k0.trans k_7
    have kh := kh.trans k_7
    refine ⟨k_7.preLe (Nat.le_refl _), ?_⟩
    refine hc_intro (num_Of.hs (show In .i64 (7 : Int) by decide)) fun v h_8 ⟨k_8, s⟩ => ?_
    obtain ⟨p_19, hp_19⟩ : ∃ p, p = zz (7 : Int) := ⟨_, rfl⟩
    rw [← hp_19] at s
    replace g := lift_let2 hp_19 g
    obtain ⟨a_19, c_19, rfl, r_19⟩ := s
    refine gAgg_intro rfl (uncons_intro (gBool_intro rfl (uncons_intro (gSlice_intro rfl (unnil_intro (?_))))))
    have r_19 := r_19.from k0.le
    have m_8 := k_8.tame
    have bx_4 := bx_4.keep k_8
    have bx_18 := bx_18.keep k_8
    have k0 := k0.trans k_8
    have kh := kh.trans k_8
    refine ⟨k_8.preLe (m_7).le, ?_⟩
    refine hc_intro (num_Mul.hs (r_3_0.tame (m_4.trans (m_5.trans (m_6.trans (m_7.trans m_8))))).rd64 rfl r_19.rd64 rfl) fun v h_9 ⟨k_9, s⟩ => ?_
    obtain ⟨p_20, hp_20⟩ : ∃ p, p = twoZ mulI (p_3.1.1, p_3.1.2) (p_19.1, p_19.2) := ⟨_, rfl⟩
    rw [← hp_20] at s
    replace g := lift_let2 hp_20 g
    obtain ⟨_, _, rfl, ⟨a_20_0, c_20_0, rfl, r_20_0⟩, ⟨rfl, i_20_1⟩⟩ := s
    refine gTup_intro rfl (uncons_intro (gAgg_intro rfl (uncons_intro (gBool_intro rfl (uncons_intro (gSlice_intro rfl (unnil_intro (uncons_intro (gInt_intro rfl (unnil_intro (?_)))))))))))
    have r_20_0 := r_20_0.from k0.le
    have m_9 := k_9.tame
    have bx_4 := bx_4.keep k_9
    have bx_18 := bx_18.keep k_9
    have k0 := k0.trans k_9
    have kh := kh.trans k_9
    refine ⟨k_9.preLe (m_7.trans m_8).le, ?_⟩
    refine stA bx_18 (base_add _ _) rfl fun h_10 bx_18 k_10 m_10 => ?_
    have bx_4 := bx_4.keepB d_4q_18 k_10
    have k0 := KeepB.keep k0 k_10 o_18
    have kh := KeepB.keep kh k_10 oh_18
    refine stA bx_18 (base_add _ _) rfl fun h_11 bx_18 k_11 m_11 => ?_
    have bx_4 := bx_4.keepB d_4q_18 k_11
    have k0 := KeepB.keep k0 k_11 o_18
    have kh := KeepB.keep kh k_11 oh_18
    exact D2.hv k0 i_3_1 (r_20_0.tame (m_10.trans m_11)) bx_18 o_18 i_20_1 g
def v  : Bool := D1.v 
theorem hv {h : Hp}  : HC id #[] h fun v_ h_ => Keep h h_ ∧ sBool h h_ v_ (v) :=
  ok (D1.hv (Keep.refl _)  fun v h' k s => ⟨k, s⟩)
end gnomonlaw04_awake

end Go.Proofs.Ytpglfeeebnnkkaa.G

/- Whole numbers: sums, products, quotients and shifts of numbers in form: plain law. -/
namespace Go.Proofs.Ytpglfeeebnnkkaa.G
open Go.Gv
set_option linter.unusedVariables false
theorem sg_of (a : Int) : ∃ p A, a = sg p A ∧ (p = true → A ≠ 0) ∧ A = a.natAbs := by
  by_cases h : a < 0
  · exact ⟨true, a.natAbs, by unfold sg; simp; omega, fun _ => by omega, rfl⟩
  · exact ⟨false, a.natAbs, by unfold sg; simp; omega, fun h => (by cases h), rfl⟩
theorem quo_up {A B : Nat} (h : A % B ≠ 0) : A / B + 1 ≤ A := by
  have hd := Nat.div_add_mod A B
  rcases Nat.eq_zero_or_pos B with h0 | h0
  · subst h0; simp at h ⊢; omega
  have hm := Nat.mod_lt A h0
  generalize A % B = r at *
  have h2 : 2 ≤ B := by omega
  have h3 := Nat.mul_le_mul_right (A / B) h2
  omega
theorem flo_abs {a b : Int} (hb : b ≠ 0) : (flo a b).natAbs ≤ a.natAbs := by
  obtain ⟨p, A, rfl, hp, _⟩ := sg_of a
  obtain ⟨q, B, rfl, hq, _⟩ := sg_of b
  have hB : B ≠ 0 := fun h => hb (sg_eq_zero.mpr h)
  rw [flo_sg hB hp, sg_abs, sg_abs]
  split
  · rename_i h; exact quo_up h.2
  · exact Nat.div_le_self _ _
theorem cei_abs {a b : Int} (hb : b ≠ 0) : (cei a b).natAbs ≤ a.natAbs := by
  have := flo_abs (a := -a) hb
  unfold cei; rw [Int.natAbs_neg] at this ⊢; exact this
theorem near_le {A B : Nat} (hB : B ≠ 0) : nearN A B ≤ A := by
  unfold nearN
  split
  · rename_i h; exact quo_up (by omega)
  · exact Nat.div_le_self _ _
theorem nea_abs {a b : Int} (hb : b ≠ 0) : (nea a b).natAbs ≤ a.natAbs := by
  unfold nea; rw [sg_abs]; exact near_le (by omega)
theorem mo_abs {a b : Int} (hb : b ≠ 0) : (mo a b).natAbs < b.natAbs := by
  obtain ⟨p, A, rfl, hp, _⟩ := sg_of a
  obtain ⟨q, B, rfl, hq, _⟩ := sg_of b
  have hB : B ≠ 0 := fun h => hb (sg_eq_zero.mpr h)
  rw [mo_sg hB hp, sg_abs, sg_abs]
  have hm := Nat.mod_lt A (show 0 < B by omega)
  split
  · rename_i h; omega
  · exact hm
theorem pow2_pos (n : Nat) : (0 : Int) < 2 ^ n := by rw [pow2_sg, sg_false]; have := Nat.two_pow_pos n; omega
theorem pow2_nz (n : Nat) : ((2 : Int) ^ n) ≠ 0 := by have := pow2_pos n; omega
theorem nea_neg {a b : Int} : nea (-a) b = -nea a b := by
  by_cases h : a = 0
  · subst h
    unfold nea
    have : nearN (0 : Int).natAbs b.natAbs = 0 := by
      unfold nearN; simp
    simp only [Int.neg_zero, this, sg_zero]
  · unfold nea
    rw [Int.natAbs_neg, neg_sg]
    congr 1
    have : decide (-a < 0) = !decide (a < 0) := by
      by_cases h2 : a < 0
      · simp [h2]; omega
      · simp [h2]; omega
    rw [this]; cases decide (a < 0) <;> cases decide (b < 0) <;> rfl
theorem flo_flip {a b : Int} (hb : b ≠ 0) : flo a (-b) = flo (-a) b := by
  unfold flo
  by_cases h : b < 0
  · rw [if_neg (by omega), if_pos h, Int.neg_neg]
  · rw [if_pos (by omega), if_neg h, Int.neg_neg]
theorem neg_cei (a b : Int) : -cei a b = flo (-a) b := by unfold cei; omega
/-! ### answers of numbers in form -/
theorem sm_neg {i : Int} (h : SmZ i) : SmZ (-i) := by unfold SmZ at *; rw [Int.natAbs_neg]; exact h
theorem neg_zz {i : Int} (h : SmZ i) : negZ (zz i) = (zz (-i), 0) := by
  unfold negZ; rw [if_pos (frm_zz h), zi_zz, zlim_ok (sm_neg h)]
theorem two_zz (f : Int → Int → Int) {i j : Int} (h : SmZ i) (g : SmZ j) : twoZ f (zz i) (zz j) = zlim (f i j) := by
  unfold twoZ; rw [if_pos ⟨frm_zz h, frm_zz g⟩, zi_zz, zi_zz]
theorem quo_zz {g : Int → Int → Int} {i j : Int} (h1 : SmZ i) (h2 : SmZ j) (h0 : j ≠ 0) : quoZ g (zz i) (zz j) = zlim (g i j) := by
  unfold quoZ
  rw [if_pos ⟨frm_zz h1, frm_zz h2⟩, zi_zz, zi_zz, if_neg h0]
theorem quo_z0 {g : Int → Int → Int} {i : Int} (h1 : SmZ i) (h2 : SmZ 0) : quoZ g (zz i) (zz 0) = (nz, 4) := by
  unfold quoZ
  rw [if_pos ⟨frm_zz h1, frm_zz h2⟩, zi_zz, zi_zz, if_pos rfl]
theorem shr_zz {g : Int → Int → Int} {i : Int} (h1 : SmZ i) (n : Nat) : shrZ g (zz i) (n : Int) = zlim (g i (2 ^ n)) := by
  unfold shrZ
  rw [if_neg (by omega), if_pos (frm_zz h1), zi_zz, Int.toNat_natCast]
theorem shl_zz {i : Int} (h1 : SmZ i) (n : Nat) : shlZ (zz i) (n : Int) = zlim (i * 2 ^ n) := by
  unfold shlZ
  rw [if_neg (by omega), if_pos (frm_zz h1), zi_zz, Int.toNat_natCast]
theorem cmp_zz {i j : Int} (h : SmZ i) (g : SmZ j) : cmpS (zz i) (zz j) = (cmpZ i j, 0) := by
  unfold cmpS; rw [if_pos ⟨frm_zz h, frm_zz g⟩, zi_zz, zi_zz]
theorem sma_zz {i : Int} (h : SmZ i) : smaS (zz i) = if -9223372036854775808 ≤ i ∧ i < 9223372036854775808 then (i, 0) else (0, 5) := by
  unfold smaS; rw [if_pos (frm_zz h), zi_zz]
theorem zz_eq {i j : Int} : (zz i = zz j) ↔ i = j := ⟨zz_inj, fun e => by rw [e]⟩
theorem eta2 (p : Zw) : (p.1, p.2) = p := rfl
theorem dl_pow2 {k j : Nat} (h : k < 64 * j) : (digs (2 ^ k)).length ≤ j := digs_len.mpr (Nat.pow_lt_pow_right (by decide) h)
theorem sm_small {i : Int} (h : i.natAbs < 340282366920938463463374607431768211456) : SmZ i := by
  unfold SmZ
  have : (digs i.natAbs).length ≤ 2 := digs_len.mpr (by simpa using h)
  omega
theorem cmpZ_wrap (i : Int) : IntKind.i64.wrap (0 - cmpZ i 0) = cmpZ (-i) 0 := by
  unfold cmpZ
  rcases Int.lt_trichotomy i 0 with h | h | h
  · rw [if_pos h, if_neg (by omega), if_neg (by omega)]; rfl
  · subst h; rfl
  · rw [if_neg (by omega), if_neg (by omega), if_pos (by omega)]; rfl
theorem nea_mul (a : Int) (n : Nat) : nea (a * 2 ^ n) (2 ^ n) = a := by
  obtain ⟨p, A, rfl, hp, _⟩ := sg_of a
  rw [shl_sg, pow2_sg, nea_sg (pow2_ne n) (fun h h0 => hp h (by
    rcases Nat.mul_eq_zero.mp h0 with h1 | h1
    · exact h1
    · exact absurd h1 (pow2_ne n))), Bool.xor_false]
  congr 1
  unfold nearN
  rw [Nat.mul_mod_left, Nat.mul_div_cancel _ (Nat.two_pow_pos n)]
  rw [if_neg (by have := Nat.two_pow_pos n; omega)]
theorem flo_two (a : Int) (j k : Nat) : flo (flo a (2 ^ j)) (2 ^ k) = flo a (2 ^ (j + k)) := by
  have h1 := pow2_pos j; have h2 := pow2_pos k; have h3 := pow2_pos (j + k)
  unfold flo
  rw [if_neg (by omega), if_neg (by omega), if_neg (by omega), Int.pow_add, Int.ediv_ediv_of_nonneg (by omega)]
theorem cmp_neg_iff (i : Int) : decide (cmpZ i 0 < 0) = decide (i < 0) := by
  unfold cmpZ
  by_cases h : i < 0
  · simp [h]
  · rw [if_neg h]; split <;> simp [h]
theorem cmp_pos_iff (i : Int) : decide (cmpZ i 0 > 0) = decide (i > 0) := by
  unfold cmpZ
  rcases Int.lt_trichotomy i 0 with h | h | h
  · rw [if_pos h]; simp; omega
  · subst h; simp
  · rw [if_neg (by omega), if_neg (by omega)]; simp; omega
theorem cmp_lt_iff (i j : Int) : decide (cmpZ i j < 0) = decide (i < j) := by
  unfold cmpZ
  by_cases h : i < j
  · simp [h]
  · rw [if_neg h]; split <;> simp [h]
theorem cmp_gt_iff (i j : Int) : decide (cmpZ i j > 0) = decide (i > j) := by
  unfold cmpZ
  rcases Int.lt_trichotomy i j with h | h | h
  · rw [if_pos h]; simp; omega
  · subst h; simp
  · rw [if_neg (by omega), if_neg (by omega)]; simp; omega
theorem cmp_eq_iff (i : Int) : (cmpZ i 0 == 0) = decide (i = 0) := by
  unfold cmpZ
  rcases Int.lt_trichotomy i 0 with h | h | h
  · rw [if_pos h]; have : i ≠ 0 := by omega
    simp [this]
  · subst h; simp
  · rw [if_neg (by omega), if_neg (by omega)]; have : i ≠ 0 := by omega
    simp [this]
end Go.Proofs.Ytpglfeeebnnkkaa.G

/- Layer 4: numbers brought into form; the calls whose answers are fixed. -/
namespace Go.Proofs.Ytpglfeeebnnkkaa.G
open Go.Gv
set_option linter.unusedVariables false
set_option maxRecDepth 100000
theorem formed_v (b : Bool) (xs : List Nat) : gnomonlaw04_formed.v b xs = (zz (zi (b, xs)), decide (SmZ (zi (b, xs)))) := by
  unfold gnomonlaw04_formed.v gnomonlaw04_formed.D1.v
  simp only [letV]
  have e : di ((dz (zi (b, xs))).1, (dz (zi (b, xs))).2) = zi (b, xs) := di_dz _
  rw [e]
  have e2 : decide (((((zz (zi (b, xs))).2).length : Nat) : Int) ≤ 8192) = decide (SmZ (zi (b, xs))) := decide_eq_decide.mpr (by
    show ((((digs (zi (b, xs)).natAbs).length : Nat) : Int) ≤ 8192) ↔ ((digs (zi (b, xs)).natAbs).length ≤ 8192)
    omega)
  rw [e2]
section
variable {a : Option Addr} {c l : Nat} {xs : List Nat} {h : Hp} {x : Int} {p : Bool}
theorem gnomonlaw04_formed.hs (r : Rd h a c xs) (e : l = xs.length) : HC gnomonlaw04_formed.id #[.agg #[.bool p, .slice a l c]] h fun v h' => Keep h h' ∧ s2 sZW sBool h h' v (zz (zi (p, xs)), decide (SmZ (zi (p, xs)))) := by rw [← formed_v]; exact gnomonlaw04_formed.hv r e
end
theorem awake4_true : gnomonlaw04_awake.v = true := by
  have s : ∀ i : Int, i.natAbs < 18446744073709551616 → SmZ i := fun i h => sm_small (by omega)
  have f : ∀ i : Int, i.natAbs < 18446744073709551616 → FrmZ (zz i) := fun i h => frm_zz (s i h)
  have t : ∀ (g : Int → Int → Int) (i j : Int), i.natAbs < 18446744073709551616 → j.natAbs < 18446744073709551616 → (g i j).natAbs < 18446744073709551616 → twoZ g (zz i) (zz j) = (zz (g i j), 0) := by
    intro g i j h1 h2 h3
    unfold twoZ
    rw [if_pos ⟨f i h1, f j h2⟩, zi_zz, zi_zz, zlim_ok (s _ h3)]
  unfold gnomonlaw04_awake.v gnomonlaw04_awake.D1.v
  simp only [letV]
  have e1 : twoZ addI ((zz (-5)).1, (zz (-5)).2) ((zz 3).1, (zz 3).2) = (zz (-2), 0) := t addI (-5) 3 (by decide) (by decide) (by decide)
  rw [e1]
  have e2 : twoZ mulI ((zz (-2), (0 : Int)).1.1, (zz (-2), (0 : Int)).1.2) ((zz 7).1, (zz 7).2) = (zz (-14), 0) := t mulI (-2) 7 (by decide) (by decide) (by decide)
  rw [e2]
  unfold gnomonlaw04_awake.D2.v
  have f14 : FrmZ ((zz (-14)).1, (zz (-14)).2) := f (-14) (by decide)
  have z14 : zi ((zz (-14)).1, (zz (-14)).2) = -14 := zi_zz (-14)
  have e3 : smaS ((zz (-14)).1, (zz (-14)).2) = (-14, 0) := by
    unfold smaS
    rw [if_pos f14, z14]; rfl
  simp only [letV, e3, z14]
  rw [show cmpZ (-14) 0 = -1 from rfl]
  simp only [decide_eq_true f14]; rfl
theorem awake_hs {h : Hp} : HC gnomonlaw04_awake.id #[] h fun v h' => Keep h h' ∧ sBool h h' v true := by
  have := gnomonlaw04_awake.hv (h := h)
  rw [awake4_true] at this; exact this
end Go.Proofs.Ytpglfeeebnnkkaa.G

/- Functions without loops as functions of values. Written by a program of this work. -/
namespace Go.Proofs.Ytpglfeeebnnkkaa.G
open Go.Gv
set_option linter.unusedVariables false
set_option maxRecDepth 100000
namespace gnomonlaw04_NumRing
def D6.v (b23_0 : Bool) (xs23_1 : List Nat) (b25_0 : Bool) (xs25_1 : List Nat) (b27_0 : Bool) (xs27_1 : List Nat) : Bool :=
  letV (twoZ addI (b25_0, xs25_1) (b27_0, xs27_1)) fun p_52 =>
  bif (p_52.2 == (0 : Int)) then
    (decide ((b23_0, xs23_1) = (p_52.1.1, p_52.1.2)))
  else
    false
theorem D6.hv {R : Rt} {h0 h : Hp} (k0 : Keep h0 h) {b23_0 : Bool} {a23_1 : Option Addr} {c23_1 : Nat} {xs23_1 : List Nat} (r23_1 : GotE eU64 h0 h a23_1 c23_1 xs23_1) {B23 : Nat} (bx23 : BlkV h B23 [.bool b23_0, .slice a23_1 xs23_1.length c23_1]) (o23 : h0.size ≤ B23) {b25_0 : Bool} {a25_1 : Option Addr} {c25_1 : Nat} {xs25_1 : List Nat} (r25_1 : GotE eU64 h0 h a25_1 c25_1 xs25_1) {B25 : Nat} (bx25 : BlkV h B25 [.bool b25_0, .slice a25_1 xs25_1.length c25_1]) (o25 : h0.size ≤ B25) {b27_0 : Bool} {a27_1 : Option Addr} {c27_1 : Nat} {xs27_1 : List Nat} (r27_1 : GotE eU64 h0 h a27_1 c27_1 xs27_1) {B27 : Nat} (bx27 : BlkV h B27 [.bool b27_0, .slice a27_1 xs27_1.length c27_1]) (o27 : h0.size ≤ B27) (d23q25 : B23 ≠ B25) (d23q27 : B23 ≠ B27) (d25q27 : B25 ≠ B27) (g : Post sBool h0 R (D6.v b23_0 xs23_1 b25_0 xs25_1 b27_0 xs27_1)) : D6.t R (⟨B23, 0, none⟩ : Addr) (⟨B25, 0, none⟩ : Addr) (⟨B27, 0, none⟩ : Addr) h := by
  have kh := Keep.refl h
  have lt23 := bx23.lt
  have lt25 := bx25.lt
  have lt27 := bx27.lt
  unfold D6.v at g
  unfold D6.t
  refine ldA bx25 (base_add _ _) rfl ?_
  refine gBool_intro rfl ?_
  refine ldA bx25 (base_add _ _) rfl ?_
  refine gSlice_intro rfl ?_
  refine ldA bx27 (base_add _ _) rfl ?_
  refine gBool_intro rfl ?_
  refine ldA bx27 (base_add _ _) rfl ?_
  refine gSlice_intro rfl ?_
  refine hc_intro (num_Add.hs r25_1.rd64 rfl r27_1.rd64 rfl) fun v h_1 ⟨k_1, s⟩ => ?_
  obtain ⟨p_52, hp_52⟩ : ∃ p, p = twoZ addI (b25_0, xs25_1) (b27_0, xs27_1) := ⟨_, rfl⟩
  rw [← hp_52] at s
  replace g := lift_let2 hp_52 g
  obtain ⟨_, _, rfl, ⟨a_52_0, c_52_0, rfl, r_52_0⟩, ⟨rfl, i_52_1⟩⟩ := s
  refine gTup_intro rfl (uncons_intro (gAgg_intro rfl (uncons_intro (gBool_intro rfl (uncons_intro (gSlice_intro rfl (unnil_intro (uncons_intro (gInt_intro rfl (unnil_intro (?_)))))))))))
  have r_52_0 := r_52_0.from k0.le
  have m_1 := k_1.tame
  have bx23 := bx23.keep k_1
  have bx25 := bx25.keep k_1
  have bx27 := bx27.keep k_1
  have k0 := k0.trans k_1
  have kh := kh.trans k_1
  refine boxV fun h_2 bx_53 k_2 => ?_
  have d23q_53 : B23 ≠ h_1.size := Nat.ne_of_lt bx23.lt
  have d25q_53 : B25 ≠ h_1.size := Nat.ne_of_lt bx25.lt
  have d27q_53 : B27 ≠ h_1.size := Nat.ne_of_lt bx27.lt
  have o_53 : h0.size ≤ h_1.size := k0.le
  have oh_53 : h.size ≤ h_1.size := kh.le
  have lt_53 := bx_53.lt
  have m_2 := k_2.tame
  have bx23 := bx23.keep k_2
  have bx25 := bx25.keep k_2
  have bx27 := bx27.keep k_2
  have k0 := k0.trans k_2
  have kh := kh.trans k_2
  refine stA bx_53 (base_add _ _) rfl fun h_3 bx_53 k_3 m_3 => ?_
  have bx23 := bx23.keepB d23q_53 k_3
  have bx25 := bx25.keepB d25q_53 k_3
  have bx27 := bx27.keepB d27q_53 k_3
  have k0 := KeepB.keep k0 k_3 o_53
  have kh := KeepB.keep kh k_3 oh_53
  refine stA bx_53 (base_add _ _) rfl fun h_4 bx_53 k_4 m_4 => ?_
  have bx23 := bx23.keepB d23q_53 k_4
  have bx25 := bx25.keepB d25q_53 k_4
  have bx27 := bx27.keepB d27q_53 k_4
  have k0 := KeepB.keep k0 k_4 o_53
  have kh := KeepB.keep kh k_4 oh_53
  refine lift_eq g (fun q_54 g => ?_) (fun q_54 g => ?_)
  · refine ldA bx23 (base_add _ _) rfl ?_
    refine gBool_intro rfl ?_
    refine ldA bx23 (base_add _ _) rfl ?_
    refine gSlice_intro rfl ?_
    refine ldA bx_53 (base_add _ _) rfl ?_
    refine gBool_intro rfl ?_
    refine ldA bx_53 (base_add _ _) rfl ?_
    refine gSlice_intro rfl ?_
    refine hc_intro (gnomonlaw04_same.hs (r23_1.tame (m_1.trans (m_2.trans (m_3.trans m_4)))).rd64 rfl (r_52_0.tame (m_2.trans (m_3.trans m_4))).rd64 rfl) fun v h_5 ⟨k_5, s⟩ => ?_
    obtain rfl := s
    refine gBool_intro rfl (?_)
    have m_5 := k_5.tame
    have bx23 := bx23.keep k_5
    have bx25 := bx25.keep k_5
    have bx27 := bx27.keep k_5
    have bx_53 := bx_53.keep k_5
    have k0 := k0.trans k_5
    have kh := kh.trans k_5
    exact g _ _ k0 rfl
  · exact g _ _ k0 rfl
def D5.v (b7_0 : Bool) (xs7_1 : List Nat) (b9_0 : Bool) (xs9_1 : List Nat) (b11_0 : Bool) (xs11_1 : List Nat) (b13_0 : Bool) (xs13_1 : List Nat) : Bool :=
  letV (twoZ mulI (b13_0, xs13_1) (b11_0, xs11_1)) fun p_43 =>
  letV (twoZ mulI (b7_0, xs7_1) (b11_0, xs11_1)) fun p_45 =>
  letV (twoZ mulI (b9_0, xs9_1) (b11_0, xs11_1)) fun p_47 =>
  bif (p_43.2 != (0 : Int)) then
    (decide (((IntKind.i64.wrap ((((xs11_1.length : Nat) : Int)) + ((if (((xs13_1.length : Nat) : Int)) > ((if (((xs9_1.length : Nat) : Int)) > (((xs7_1.length : Nat) : Int)) then (((xs9_1.length : Nat) : Int)) else (((xs7_1.length : Nat) : Int)))) then (((xs13_1.length : Nat) : Int)) else ((if (((xs9_1.length : Nat) : Int)) > (((xs7_1.length : Nat) : Int)) then (((xs9_1.length : Nat) : Int)) else (((xs7_1.length : Nat) : Int))))))))) > (8192 : Int)))
  else
    bif (p_45.2 != (0 : Int)) then
      (decide (((IntKind.i64.wrap ((((xs11_1.length : Nat) : Int)) + ((if (((xs13_1.length : Nat) : Int)) > ((if (((xs9_1.length : Nat) : Int)) > (((xs7_1.length : Nat) : Int)) then (((xs9_1.length : Nat) : Int)) else (((xs7_1.length : Nat) : Int)))) then (((xs13_1.length : Nat) : Int)) else ((if (((xs9_1.length : Nat) : Int)) > (((xs7_1.length : Nat) : Int)) then (((xs9_1.length : Nat) : Int)) else (((xs7_1.length : Nat) : Int))))))))) > (8192 : Int)))
    else
      bif (p_47.2 != (0 : Int)) then
        (decide (((IntKind.i64.wrap ((((xs11_1.length : Nat) : Int)) + ((if (((xs13_1.length : Nat) : Int)) > ((if (((xs9_1.length : Nat) : Int)) > (((xs7_1.length : Nat) : Int)) then (((xs9_1.length : Nat) : Int)) else (((xs7_1.length : Nat) : Int)))) then (((xs13_1.length : Nat) : Int)) else ((if (((xs9_1.length : Nat) : Int)) > (((xs7_1.length : Nat) : Int)) then (((xs9_1.length : Nat) : Int)) else (((xs7_1.length : Nat) : Int))))))))) > (8192 : Int)))
      else
        D6.v p_43.1.1 p_43.1.2 p_45.1.1 p_45.1.2 p_47.1.1 p_47.1.2
theorem D5.hv {R : Rt} {h0 h : Hp} (k0 : Keep h0 h) {b7_0 : Bool} {a7_1 : Option Addr} {c7_1 : Nat} {xs7_1 : List Nat} (r7_1 : GotE eU64 h0 h a7_1 c7_1 xs7_1) {B7 : Nat} (bx7 : BlkV h B7 [.bool b7_0, .slice a7_1 xs7_1.length c7_1]) (o7 : h0.size ≤ B7) {b9_0 : Bool} {a9_1 : Option Addr} {c9_1 : Nat} {xs9_1 : List Nat} (r9_1 : GotE eU64 h0 h a9_1 c9_1 xs9_1) {B9 : Nat} (bx9 : BlkV h B9 [.bool b9_0, .slice a9_1 xs9_1.length c9_1]) (o9 : h0.size ≤ B9) {b11_0 : Bool} {a11_1 : Option Addr} {c11_1 : Nat} {xs11_1 : List Nat} (r11_1 : GotE eU64 h0 h a11_1 c11_1 xs11_1) {B11 : Nat} (bx11 : BlkV h B11 [.bool b11_0, .slice a11_1 xs11_1.length c11_1]) (o11 : h0.size ≤ B11) {b13_0 : Bool} {a13_1 : Option Addr} {c13_1 : Nat} {xs13_1 : List Nat} (r13_1 : GotE eU64 h0 h a13_1 c13_1 xs13_1) {B13 : Nat} (bx13 : BlkV h B13 [.bool b13_0, .slice a13_1 xs13_1.length c13_1]) (o13 : h0.size ≤ B13) (d7q9 : B7 ≠ B9) (d7q11 : B7 ≠ B11) (d7q13 : B7 ≠ B13) (d9q11 : B9 ≠ B11) (d9q13 : B9 ≠ B13) (d11q13 : B11 ≠ B13) (g : Post sBool h0 R (D5.v b7_0 xs7_1 b9_0 xs9_1 b11_0 xs11_1 b13_0 xs13_1)) : D5.t R (⟨B7, 0, none⟩ : Addr) (⟨B9, 0, none⟩ : Addr) (⟨B11, 0, none⟩ : Addr) (⟨B13, 0, none⟩ : Addr) h := by
  have kh := Keep.refl h
  have lt7 := bx7.lt
  have lt9 := bx9.lt
  have lt11 := bx11.lt
  have lt13 := bx13.lt
  unfold D5.v at g
  unfold D5.t
  refine ldA bx13 (base_add _ _) rfl ?_
  refine gBool_intro rfl ?_
  refine ldA bx13 (base_add _ _) rfl ?_
  refine gSlice_intro rfl ?_
  refine ldA bx11 (base_add _ _) rfl ?_
  refine gBool_intro rfl ?_
  refine ldA bx11 (base_add _ _) rfl ?_
  refine gSlice_intro rfl ?_
  refine hc_intro (num_Mul.hs r13_1.rd64 rfl r11_1.rd64 rfl) fun v h_1 ⟨k_1, s⟩ => ?_
  obtain ⟨p_43, hp_43⟩ : ∃ p, p = twoZ mulI (b13_0, xs13_1) (b11_0, xs11_1) := ⟨_, rfl⟩
  rw [← hp_43] at s
  replace g := lift_let2 hp_43 g
  obtain ⟨_, _, rfl, ⟨a_43_0, c_43_0, rfl, r_43_0⟩, ⟨rfl, i_43_1⟩⟩ := s
  refine gTup_intro rfl (uncons_intro (gAgg_intro rfl (uncons_intro (gBool_intro rfl (uncons_intro (gSlice_intro rfl (unnil_intro (uncons_intro (gInt_intro rfl (unnil_intro (?_)))))))))))
  have r_43_0 := r_43_0.from k0.le
  have m_1 := k_1.tame
  have bx7 := bx7.keep k_1
  have bx9 := bx9.keep k_1
  have bx11 := bx11.keep k_1
  have bx13 := bx13.keep k_1
  have k0 := k0.trans k_1
  have kh := kh.trans k_1
  refine boxV fun h_2 bx_44 k_2 => ?_
  have d7q_44 : B7 ≠ h_1.size := Nat.ne_of_lt bx7.lt
  have d9q_44 : B9 ≠ h_1.size := Nat.ne_of_lt bx9.lt
  have d11q_44 : B11 ≠ h_1.size := Nat.ne_of_lt bx11.lt
  have d13q_44 : B13 ≠ h_1.size := Nat.ne_of_lt bx13.lt
  have o_44 : h0.size ≤ h_1.size := k0.le
  have oh_44 : h.size ≤ h_1.size := kh.le
  have lt_44 := bx_44.lt
  have m_2 := k_2.tame
  have bx7 := bx7.keep k_2
  have bx9 := bx9.keep k_2
  have bx11 := bx11.keep k_2
  have bx13 := bx13.keep k_2
  have k0 := k0.trans k_2
  have kh := kh.trans k_2
  refine stA bx_44 (base_add _ _) rfl fun h_3 bx_44 k_3 m_3 => ?_
  have bx7 := bx7.keepB d7q_44 k_3
  have bx9 := bx9.keepB d9q_44 k_3
  have bx11 := bx11.keepB d11q_44 k_3
  have bx13 := bx13.keepB d13q_44 k_3
  have k0 := KeepB.keep k0 k_3 o_44
  have kh := KeepB.keep kh k_3 oh_44
  refine stA bx_44 (base_add _ _) rfl fun h_4 bx_44 k_4 m_4 => ?_
  have bx7 := bx7.keepB d7q_44 k_4
  have bx9 := bx9.keepB d9q_44 k_4
  have bx11 := bx11.keepB d11q_44 k_4
  have bx13 := bx13.keepB d13q_44 k_4
  have k0 := KeepB.keep k0 k_4 o_44
  have kh := KeepB.keep kh k_4 oh_44
  refine ldA bx7 (base_add _ _) rfl ?_
  refine gBool_intro rfl ?_
  refine ldA bx7 (base_add _ _) rfl ?_
  refine gSlice_intro rfl ?_
  refine ldA bx11 (base_add _ _) rfl ?_
  refine gBool_intro rfl ?_
  refine ldA bx11 (base_add _ _) rfl ?_
  refine gSlice_intro rfl ?_
  refine hc_intro (num_Mul.hs (r7_1.tame (m_1.trans (m_2.trans (m_3.trans m_4)))).rd64 rfl (r11_1.tame (m_1.trans (m_2.trans (m_3.trans m_4)))).rd64 rfl) fun v h_5 ⟨k_5, s⟩ => ?_
  obtain ⟨p_45, hp_45⟩ : ∃ p, p = twoZ mulI (b7_0, xs7_1) (b11_0, xs11_1) := ⟨_, rfl⟩
  rw [← hp_45] at s
  replace g := lift_let2 hp_45 g
  obtain ⟨_, _, rfl, ⟨a_45_0, c_45_0, rfl, r_45_0⟩, ⟨rfl, i_45_1⟩⟩ := s
  refine gTup_intro rfl (uncons_intro (gAgg_intro rfl (uncons_intro (gBool_intro rfl (uncons_intro (gSlice_intro rfl (unnil_intro (uncons_intro (gInt_intro rfl (unnil_intro (?_)))))))))))
  have r_45_0 := r_45_0.from k0.le
  have m_5 := k_5.tame
  have bx7 := bx7.keep k_5
  have bx9 := bx9.keep k_5
  have bx11 := bx11.keep k_5
  have bx13 := bx13.keep k_5
  have bx_44 := bx_44.keep k_5
  have k0 := k0.trans k_5
  have kh := kh.trans k_5
  refine boxV fun h_6 bx_46 k_6 => ?_
  have d7q_46 : B7 ≠ h_5.size := Nat.ne_of_lt bx7.lt
  have d9q_46 : B9 ≠ h_5.size := Nat.ne_of_lt bx9.lt
  have d11q_46 : B11 ≠ h_5.size := Nat.ne_of_lt bx11.lt
  have d13q_46 : B13 ≠ h_5.size := Nat.ne_of_lt bx13.lt
  have d_44q_46 : h_1.size ≠ h_5.size := Nat.ne_of_lt bx_44.lt
  have o_46 : h0.size ≤ h_5.size := k0.le
  have oh_46 : h.size ≤ h_5.size := kh.le
  have lt_46 := bx_46.lt
  have m_6 := k_6.tame
  have bx7 := bx7.keep k_6
  have bx9 := bx9.keep k_6
  have bx11 := bx11.keep k_6
  have bx13 := bx13.keep k_6
  have bx_44 := bx_44.keep k_6
  have k0 := k0.trans k_6
  have kh := kh.trans k_6
  refine stA bx_46 (base_add _ _) rfl fun h_7 bx_46 k_7 m_7 => ?_
  have bx7 := bx7.keepB d7q_46 k_7
  have bx9 := bx9.keepB d9q_46 k_7
  have bx11 := bx11.keepB d11q_46 k_7
  have bx13 := bx13.keepB d13q_46 k_7
  have bx_44 := bx_44.keepB d_44q_46 k_7
  have k0 := KeepB.keep k0 k_7 o_46
  have kh := KeepB.keep kh k_7 oh_46
  refine stA bx_46 (base_add _ _) rfl fun h_8 bx_46 k_8 m_8 => ?_
  have bx7 := bx7.keepB d7q_46 k_8
  have bx9 := bx9.keepB d9q_46 k_8
  have bx11 := bx11.keepB d11q_46 k_8
  have bx13 := bx13.keepB d13q_46 k_8
  have bx_44 := bx_44.keepB d_44q_46 k_8
  have k0 := KeepB.keep k0 k_8 o_46
  have kh := KeepB.keep kh k_8 oh_46
  refine ldA bx9 (base_add _ _) rfl ?_
  refine gBool_intro rfl ?_
  refine ldA bx9 (base_add _ _) rfl ?_
  refine gSlice_intro rfl ?_
  refine ldA bx11 (base_add _ _) rfl ?_
  refine gBool_intro rfl ?_
  refine ldA bx11 (base_add _ _) rfl ?_
  refine gSlice_intro rfl ?_
  refine hc_intro (num_Mul.hs (r9_1.tame (m_1.trans (m_2.trans (m_3.trans (m_4.trans (m_5.trans (m_6.trans (m_7.trans m_8)))))))).rd64 rfl (r11_1.tame (m_1.trans (m_2.trans (m_3.trans (m_4.trans (m_5.trans (m_6.trans (m_7.trans m_8)))))))).rd64 rfl) fun v h_9 ⟨k_9, s⟩ => ?_
  obtain ⟨p_47, hp_47⟩ : ∃ p, p = twoZ mulI (b9_0, xs9_1) (b11_0, xs11_1) := ⟨_, rfl⟩
  rw [← hp_47] at s
  replace g := lift_let2 hp_47 g
  obtain ⟨_, _, rfl, ⟨a_47_0, c_47_0, rfl, r_47_0⟩, ⟨rfl, i_47_1⟩⟩ := s
  refine gTup_intro rfl (uncons_intro (gAgg_intro rfl (uncons_intro (gBool_intro rfl (uncons_intro (gSlice_intro rfl (unnil_intro (uncons_intro (gInt_intro rfl (unnil_intro (?_)))))))))))
  have r_47_0 := r_47_0.from k0.le
  have m_9 := k_9.tame
  have bx7 := bx7.keep k_9
  have bx9 := bx9.keep k_9
  have bx11 := bx11.keep k_9
  have bx13 := bx13.keep k_9
  have bx_44 := bx_44.keep k_9
  have bx_46 := bx_46.keep k_9
  have k0 := k0.trans k_9
  have kh := kh.trans k_9
  refine boxV fun h_10 bx_48 k_10 => ?_
  have d7q_48 : B7 ≠ h_9.size := Nat.ne_of_lt bx7.lt
  have d9q_48 : B9 ≠ h_9.size := Nat.ne_of_lt bx9.lt
  have d11q_48 : B11 ≠ h_9.size := Nat.ne_of_lt bx11.lt
  have d13q_48 : B13 ≠ h_9.size := Nat.ne_of_lt bx13.lt
  have d_44q_48 : h_1.size ≠ h_9.size := Nat.ne_of_lt bx_44.lt
  have d_46q_48 : h_5.size ≠ h_9.size := Nat.ne_of_lt bx_46.lt
  have o_48 : h0.size ≤ h_9.size := k0.le
  have oh_48 : h.size ≤ h_9.size := kh.le
  have lt_48 := bx_48.lt
  have m_10 := k_10.tame
  have bx7 := bx7.keep k_10
  have bx9 := bx9.keep k_10
  have bx11 := bx11.keep k_10
  have bx13 := bx13.keep k_10
  have bx_44 := bx_44.keep k_10
  have bx_46 := bx_46.keep k_10
  have k0 := k0.trans k_10
  have kh := kh.trans k_10
  refine stA bx_48 (base_add _ _) rfl fun h_11 bx_48 k_11 m_11 => ?_
  have bx7 := bx7.keepB d7q_48 k_11
  have bx9 := bx9.keepB d9q_48 k_11
  have bx11 := bx11.keepB d11q_48 k_11
  have bx13 := bx13.keepB d13q_48 k_11
  have bx_44 := bx_44.keepB d_44q_48 k_11
  have bx_46 := bx_46.keepB d_46q_48 k_11
  have k0 := KeepB.keep k0 k_11 o_48
  have kh := KeepB.keep kh k_11 oh_48
  refine stA bx_48 (base_add _ _) rfl fun h_12 bx_48 k_12 m_12 => ?_
  have bx7 := bx7.keepB d7q_48 k_12
  have bx9 := bx9.keepB d9q_48 k_12
  have bx11 := bx11.keepB d11q_48 k_12
  have bx13 := bx13.keepB d13q_48 k_12
  have bx_44 := bx_44.keepB d_44q_48 k_12
  have bx_46 := bx_46.keepB d_46q_48 k_12
  have k0 := KeepB.keep k0 k_12 o_48
  have kh := KeepB.keep kh k_12 oh_48
  refine lift_ne g (fun q_49 g => ?_) (fun q_49 g => ?_)
  · refine ldA bx11 (base_add _ _) rfl ?_
    refine gSlice_intro rfl ?_
    refine ldA bx7 (base_add _ _) rfl ?_
    refine gSlice_intro rfl ?_
    refine ldA bx9 (base_add _ _) rfl ?_
    refine gSlice_intro rfl ?_
    refine ldA bx13 (base_add _ _) rfl ?_
    refine gSlice_intro rfl ?_
    refine letK_out ?_
    exact g _ _ k0 rfl
  · refine lift_ne g (fun q_50 g => ?_) (fun q_50 g => ?_)
    · refine ldA bx11 (base_add _ _) rfl ?_
      refine gSlice_intro rfl ?_
      refine ldA bx7 (base_add _ _) rfl ?_
      refine gSlice_intro rfl ?_
      refine ldA bx9 (base_add _ _) rfl ?_
      refine gSlice_intro rfl ?_
      refine ldA bx13 (base_add _ _) rfl ?_
      refine gSlice_intro rfl ?_
      refine letK_out ?_
      exact g _ _ k0 rfl
    · refine lift_ne g (fun q_51 g => ?_) (fun q_51 g => ?_)
      · refine ldA bx11 (base_add _ _) rfl ?_
        refine gSlice_intro rfl ?_
        refine ldA bx7 (base_add _ _) rfl ?_
        refine gSlice_intro rfl ?_
        refine ldA bx9 (base_add _ _) rfl ?_
        refine gSlice_intro rfl ?_
        refine ldA bx13 (base_add _ _) rfl ?_
        refine gSlice_intro rfl ?_
        refine letK_out ?_
        exact g _ _ k0 rfl
      · exact D6.hv k0 (r_43_0.tame (m_2.trans (m_3.trans (m_4.trans (m_5.trans (m_6.trans (m_7.trans (m_8.trans (m_9.trans (m_10.trans (m_11.trans m_12))))))))))) bx_44 o_44 (r_45_0.tame (m_6.trans (m_7.trans (m_8.trans (m_9.trans (m_10.trans (m_11.trans m_12))))))) bx_46 o_46 (r_47_0.tame (m_10.trans (m_11.trans m_12))) bx_48 o_48 d_44q_46 d_44q_48 d_46q_48 g
def D4.v (b7_0 : Bool) (xs7_1 : List Nat) (b9_0 : Bool) (xs9_1 : List Nat) (b11_0 : Bool) (xs11_1 : List Nat) (b13_0 : Bool) (xs13_1 : List Nat) (x14 : Int) : Bool :=
  bif (x14 == (5 : Int)) then
    (((if (((xs9_1.length : Nat) : Int)) > (((xs7_1.length : Nat) : Int)) then (((xs9_1.length : Nat) : Int)) else (((xs7_1.length : Nat) : Int)))) == (8192 : Int))
  else
    letV (twoZ subI (b13_0, xs13_1) (b9_0, xs9_1)) fun p_38 =>
    bif (p_38.2 != (0 : Int)) then
      false
    else
      bif (!(decide ((p_38.1.1, p_38.1.2) = (b7_0, xs7_1)))) then
        false
      else
        D5.v b7_0 xs7_1 b9_0 xs9_1 b11_0 xs11_1 b13_0 xs13_1
theorem D4.hv {R : Rt} {h0 h : Hp} (k0 : Keep h0 h) {b7_0 : Bool} {a7_1 : Option Addr} {c7_1 : Nat} {xs7_1 : List Nat} (r7_1 : GotE eU64 h0 h a7_1 c7_1 xs7_1) {B7 : Nat} (bx7 : BlkV h B7 [.bool b7_0, .slice a7_1 xs7_1.length c7_1]) (o7 : h0.size ≤ B7) {b9_0 : Bool} {a9_1 : Option Addr} {c9_1 : Nat} {xs9_1 : List Nat} (r9_1 : GotE eU64 h0 h a9_1 c9_1 xs9_1) {B9 : Nat} (bx9 : BlkV h B9 [.bool b9_0, .slice a9_1 xs9_1.length c9_1]) (o9 : h0.size ≤ B9) {b11_0 : Bool} {a11_1 : Option Addr} {c11_1 : Nat} {xs11_1 : List Nat} (r11_1 : GotE eU64 h0 h a11_1 c11_1 xs11_1) {B11 : Nat} (bx11 : BlkV h B11 [.bool b11_0, .slice a11_1 xs11_1.length c11_1]) (o11 : h0.size ≤ B11) {b13_0 : Bool} {a13_1 : Option Addr} {c13_1 : Nat} {xs13_1 : List Nat} (r13_1 : GotE eU64 h0 h a13_1 c13_1 xs13_1) {B13 : Nat} (bx13 : BlkV h B13 [.bool b13_0, .slice a13_1 xs13_1.length c13_1]) (o13 : h0.size ≤ B13) {x14 : Int} (i14 : In .i64 x14) (d7q9 : B7 ≠ B9) (d7q11 : B7 ≠ B11) (d7q13 : B7 ≠ B13) (d9q11 : B9 ≠ B11) (d9q13 : B9 ≠ B13) (d11q13 : B11 ≠ B13) (g : Post sBool h0 R (D4.v b7_0 xs7_1 b9_0 xs9_1 b11_0 xs11_1 b13_0 xs13_1 x14)) : D4.t R (⟨B7, 0, none⟩ : Addr) (⟨B9, 0, none⟩ : Addr) (⟨B11, 0, none⟩ : Addr) (⟨B13, 0, none⟩ : Addr) x14 h := by
  have kh := Keep.refl h
  have lt7 := bx7.lt
  have lt9 := bx9.lt
  have lt11 := bx11.lt
  have lt13 := bx13.lt
  unfold D4.v at g
  unfold D4.t
  refine lift_eq g (fun q_37 g => ?_) (fun q_37 g => ?_)
  · refine ldA bx7 (base_add _ _) rfl ?_
    refine gSlice_intro rfl ?_
    refine ldA bx9 (base_add _ _) rfl ?_
    refine gSlice_intro rfl ?_
    exact g _ _ k0 rfl
  · refine ldA bx13 (base_add _ _) rfl ?_
    refine gBool_intro rfl ?_
    refine ldA bx13 (base_add _ _) rfl ?_
    refine gSlice_intro rfl ?_
    refine ldA bx9 (base_add _ _) rfl ?_
    refine gBool_intro rfl ?_
    refine ldA bx9 (base_add _ _) rfl ?_
    refine gSlice_intro rfl ?_
    refine hc_intro (num_Sub.hs r13_1.rd64 rfl r9_1.rd64 rfl) fun v h_1 ⟨k_1, s⟩ => ?_
    obtain ⟨p_38, hp_38⟩ : ∃ p, p = twoZ subI (b13_0, xs13_1) (b9_0, xs9_1) := ⟨_, rfl⟩
    rw [← hp_38] at s
    replace g := lift_let2 hp_38 g
    obtain ⟨_, _, rfl, ⟨a_38_0, c_38_0, rfl, r_38_0⟩, ⟨rfl, i_38_1⟩⟩ := s
    refine gTup_intro rfl (uncons_intro (gAgg_intro rfl (uncons_intro (gBool_intro rfl (uncons_intro (gSlice_intro rfl (unnil_intro (uncons_intro (gInt_intro rfl (unnil_intro (?_)))))))))))
    have r_38_0 := r_38_0.from k0.le
    have m_1 := k_1.tame
    have bx7 := bx7.keep k_1
    have bx9 := bx9.keep k_1
    have bx11 := bx11.keep k_1
    have bx13 := bx13.keep k_1
    have k0 := k0.trans k_1
    have kh := kh.trans k_1
    refine boxV fun h_2 bx_39 k_2 => ?_
    have d7q_39 : B7 ≠ h_1.size := Nat.ne_of_lt bx7.lt
    have d9q_39 : B9 ≠ h_1.size := Nat.ne_of_lt bx9.lt
    have d11q_39 : B11 ≠ h_1.size := Nat.ne_of_lt bx11.lt
    have d13q_39 : B13 ≠ h_1.size := Nat.ne_of_lt bx13.lt
    have o_39 : h0.size ≤ h_1.size := k0.le
    have oh_39 : h.size ≤ h_1.size := kh.le
    have lt_39 := bx_39.lt
    have m_2 := k_2.tame
    have bx7 := bx7.keep k_2
    have bx9 := bx9.keep k_2
    have bx11 := bx11.keep k_2
    have bx13 := bx13.keep k_2
    have k0 := k0.trans k_2
    have kh := kh.trans k_2
    refine stA bx_39 (base_add _ _) rfl fun h_3 bx_39 k_3 m_3 => ?_
    have bx7 := bx7.keepB d7q_39 k_3
    have bx9 := bx9.keepB d9q_39 k_3
    have bx11 := bx11.keepB d11q_39 k_3
    have bx13 := bx13.keepB d13q_39 k_3
    have k0 := KeepB.keep k0 k_3 o_39
    have kh := KeepB.keep kh k_3 oh_39
    refine stA bx_39 (base_add _ _) rfl fun h_4 bx_39 k_4 m_4 => ?_
    have bx7 := bx7.keepB d7q_39 k_4
    have bx9 := bx9.keepB d9q_39 k_4
    have bx11 := bx11.keepB d11q_39 k_4
    have bx13 := bx13.keepB d13q_39 k_4
    have k0 := KeepB.keep k0 k_4 o_39
    have kh := KeepB.keep kh k_4 oh_39
    refine lift_ne g (fun q_40 g => ?_) (fun q_40 g => ?_)
    · exact g _ _ k0 rfl
    · refine ldA bx_39 (base_add _ _) rfl ?_
      refine gBool_intro rfl ?_
      refine ldA bx_39 (base_add _ _) rfl ?_
      refine gSlice_intro rfl ?_
      refine ldA bx7 (base_add _ _) rfl ?_
      refine gBool_intro rfl ?_
      refine ldA bx7 (base_add _ _) rfl ?_
      refine gSlice_intro rfl ?_
      refine hc_intro (gnomonlaw04_same.hs (r_38_0.tame (m_2.trans (m_3.trans m_4))).rd64 rfl (r7_1.tame (m_1.trans (m_2.trans (m_3.trans m_4)))).rd64 rfl) fun v h_5 ⟨k_5, s⟩ => ?_
      obtain rfl := s
      refine gBool_intro rfl (?_)
      have m_5 := k_5.tame
      have bx7 := bx7.keep k_5
      have bx9 := bx9.keep k_5
      have bx11 := bx11.keep k_5
      have bx13 := bx13.keep k_5
      have bx_39 := bx_39.keep k_5
      have k0 := k0.trans k_5
      have kh := kh.trans k_5
      refine lift_not g (fun q_42 g => ?_) (fun q_42 g => ?_)
      · exact g _ _ k0 rfl
      · exact D5.hv k0 (r7_1.tame (m_1.trans (m_2.trans (m_3.trans (m_4.trans m_5))))) bx7 o7 (r9_1.tame (m_1.trans (m_2.trans (m_3.trans (m_4.trans m_5))))) bx9 o9 (r11_1.tame (m_1.trans (m_2.trans (m_3.trans (m_4.trans m_5))))) bx11 o11 (r13_1.tame (m_1.trans (m_2.trans (m_3.trans (m_4.trans m_5))))) bx13 o13 d7q9 d7q11 d7q13 d9q11 d9q13 d11q13 g
def D3.v (b7_0 : Bool) (xs7_1 : List Nat) (b9_0 : Bool) (xs9_1 : List Nat) (b11_0 : Bool) (xs11_1 : List Nat) (b13_0 : Bool) (xs13_1 : List Nat) (x14 : Int) (x18 : Int) : Bool :=
  bif (x14 != (0 : Int)) then
    bif (x14 != (5 : Int)) then
      false
    else
      bif (x18 != (0 : Int)) then
        bif (x18 != (5 : Int)) then
          false
        else
          D4.v b7_0 xs7_1 b9_0 xs9_1 b11_0 xs11_1 b13_0 xs13_1 x14
      else
        D4.v b7_0 xs7_1 b9_0 xs9_1 b11_0 xs11_1 b13_0 xs13_1 x14
  else
    bif (x18 != (0 : Int)) then
      bif (x18 != (5 : Int)) then
        false
      else
        D4.v b7_0 xs7_1 b9_0 xs9_1 b11_0 xs11_1 b13_0 xs13_1 x14
    else
      D4.v b7_0 xs7_1 b9_0 xs9_1 b11_0 xs11_1 b13_0 xs13_1 x14
theorem D3.hv {R : Rt} {h0 h : Hp} (k0 : Keep h0 h) {b7_0 : Bool} {a7_1 : Option Addr} {c7_1 : Nat} {xs7_1 : List Nat} (r7_1 : GotE eU64 h0 h a7_1 c7_1 xs7_1) {B7 : Nat} (bx7 : BlkV h B7 [.bool b7_0, .slice a7_1 xs7_1.length c7_1]) (o7 : h0.size ≤ B7) {b9_0 : Bool} {a9_1 : Option Addr} {c9_1 : Nat} {xs9_1 : List Nat} (r9_1 : GotE eU64 h0 h a9_1 c9_1 xs9_1) {B9 : Nat} (bx9 : BlkV h B9 [.bool b9_0, .slice a9_1 xs9_1.length c9_1]) (o9 : h0.size ≤ B9) {b11_0 : Bool} {a11_1 : Option Addr} {c11_1 : Nat} {xs11_1 : List Nat} (r11_1 : GotE eU64 h0 h a11_1 c11_1 xs11_1) {B11 : Nat} (bx11 : BlkV h B11 [.bool b11_0, .slice a11_1 xs11_1.length c11_1]) (o11 : h0.size ≤ B11) {b13_0 : Bool} {a13_1 : Option Addr} {c13_1 : Nat} {xs13_1 : List Nat} (r13_1 : GotE eU64 h0 h a13_1 c13_1 xs13_1) {B13 : Nat} (bx13 : BlkV h B13 [.bool b13_0, .slice a13_1 xs13_1.length c13_1]) (o13 : h0.size ≤ B13) {x14 : Int} (i14 : In .i64 x14) {x18 : Int} (i18 : In .i64 x18) (d7q9 : B7 ≠ B9) (d7q11 : B7 ≠ B11) (d7q13 : B7 ≠ B13) (d9q11 : B9 ≠ B11) (d9q13 : B9 ≠ B13) (d11q13 : B11 ≠ B13) (g : Post sBool h0 R (D3.v b7_0 xs7_1 b9_0 xs9_1 b11_0 xs11_1 b13_0 xs13_1 x14 x18)) : D3.t R (⟨B7, 0, none⟩ : Addr) (⟨B9, 0, none⟩ : Addr) (⟨B11, 0, none⟩ : Addr) (⟨B13, 0, none⟩ : Addr) x14 x18 h := by
  have kh := Keep.refl h
  have lt7 := bx7.lt
  have lt9 := bx9.lt
  have lt11 := bx11.lt
  have lt13 := bx13.lt
  unfold D3.v at g
  unfold D3.t
  refine lift_ne g (fun q_33 g => ?_) (fun q_33 g => ?_)
  · refine lift_ne g (fun q_34 g => ?_) (fun q_34 g => ?_)
    · exact g _ _ k0 rfl
    · refine lift_ne g (fun q_35 g => ?_) (fun q_35 g => ?_)
      · refine lift_ne g (fun q_36 g => ?_) (fun q_36 g => ?_)
        · exact g _ _ k0 rfl
        · exact D4.hv k0 r7_1 bx7 o7 r9_1 bx9 o9 r11_1 bx11 o11 r13_1 bx13 o13 i14 d7q9 d7q11 d7q13 d9q11 d9q13 d11q13 g
      · exact D4.hv k0 r7_1 bx7 o7 r9_1 bx9 o9 r11_1 bx11 o11 r13_1 bx13 o13 i14 d7q9 d7q11 d7q13 d9q11 d9q13 d11q13 g
  · refine lift_ne g (fun q_56 g => ?_) (fun q_56 g => ?_)
    · refine lift_ne g (fun q_57 g => ?_) (fun q_57 g => ?_)
      · exact g _ _ k0 rfl
      · exact D4.hv k0 r7_1 bx7 o7 r9_1 bx9 o9 r11_1 bx11 o11 r13_1 bx13 o13 i14 d7q9 d7q11 d7q13 d9q11 d9q13 d11q13 g
    · exact D4.hv k0 r7_1 bx7 o7 r9_1 bx9 o9 r11_1 bx11 o11 r13_1 bx13 o13 i14 d7q9 d7q11 d7q13 d9q11 d9q13 d11q13 g
def D2.v (b7_0 : Bool) (xs7_1 : List Nat) (b9_0 : Bool) (xs9_1 : List Nat) (b11_0 : Bool) (xs11_1 : List Nat) : Bool :=
  letV (twoZ addI (b7_0, xs7_1) (b9_0, xs9_1)) fun p_19 =>
  letV (twoZ addI (b9_0, xs9_1) (b7_0, xs7_1)) fun p_21 =>
  letV (twoZ mulI (b7_0, xs7_1) (b9_0, xs9_1)) fun p_23 =>
  letV (twoZ mulI (b9_0, xs9_1) (b7_0, xs7_1)) fun p_25 =>
  bif (p_19.2 != p_21.2) then
    false
  else
    bif (p_23.2 != p_25.2) then
      false
    else
      bif (!(decide ((p_19.1.1, p_19.1.2) = (p_21.1.1, p_21.1.2)))) then
        false
      else
        bif (!(decide ((p_23.1.1, p_23.1.2) = (p_25.1.1, p_25.1.2)))) then
          false
        else
          D3.v b7_0 xs7_1 b9_0 xs9_1 b11_0 xs11_1 p_19.1.1 p_19.1.2 p_19.2 p_23.2
theorem D2.hv {R : Rt} {h0 h : Hp} (k0 : Keep h0 h) {b7_0 : Bool} {a7_1 : Option Addr} {c7_1 : Nat} {xs7_1 : List Nat} (r7_1 : GotE eU64 h0 h a7_1 c7_1 xs7_1) {B7 : Nat} (bx7 : BlkV h B7 [.bool b7_0, .slice a7_1 xs7_1.length c7_1]) (o7 : h0.size ≤ B7) {b9_0 : Bool} {a9_1 : Option Addr} {c9_1 : Nat} {xs9_1 : List Nat} (r9_1 : GotE eU64 h0 h a9_1 c9_1 xs9_1) {B9 : Nat} (bx9 : BlkV h B9 [.bool b9_0, .slice a9_1 xs9_1.length c9_1]) (o9 : h0.size ≤ B9) {b11_0 : Bool} {a11_1 : Option Addr} {c11_1 : Nat} {xs11_1 : List Nat} (r11_1 : GotE eU64 h0 h a11_1 c11_1 xs11_1) {B11 : Nat} (bx11 : BlkV h B11 [.bool b11_0, .slice a11_1 xs11_1.length c11_1]) (o11 : h0.size ≤ B11) (d7q9 : B7 ≠ B9) (d7q11 : B7 ≠ B11) (d9q11 : B9 ≠ B11) (g : Post sBool h0 R (D2.v b7_0 xs7_1 b9_0 xs9_1 b11_0 xs11_1)) : D2.t R (⟨B7, 0, none⟩ : Addr) (⟨B9, 0, none⟩ : Addr) (⟨B11, 0, none⟩ : Addr) h := by
  have kh := Keep.refl h
  have lt7 := bx7.lt
  have lt9 := bx9.lt
  have lt11 := bx11.lt
  unfold D2.v at g
  unfold D2.t
  refine ldA bx7 (base_add _ _) rfl ?_
  refine gBool_intro rfl ?_
  refine ldA bx7 (base_add _ _) rfl ?_
  refine gSlice_intro rfl ?_
  refine ldA bx9 (base_add _ _) rfl ?_
  refine gBool_intro rfl ?_
  refine ldA bx9 (base_add _ _) rfl ?_
  refine gSlice_intro rfl ?_
  refine hc_intro (num_Add.hs r7_1.rd64 rfl r9_1.rd64 rfl) fun v h_1 ⟨k_1, s⟩ => ?_
  obtain ⟨p_19, hp_19⟩ : ∃ p, p = twoZ addI (b7_0, xs7_1) (b9_0, xs9_1) := ⟨_, rfl⟩
  rw [← hp_19] at s
  replace g := lift_let2 hp_19 g
  obtain ⟨_, _, rfl, ⟨a_19_0, c_19_0, rfl, r_19_0⟩, ⟨rfl, i_19_1⟩⟩ := s
  refine gTup_intro rfl (uncons_intro (gAgg_intro rfl (uncons_intro (gBool_intro rfl (uncons_intro (gSlice_intro rfl (unnil_intro (uncons_intro (gInt_intro rfl (unnil_intro (?_)))))))))))
  have r_19_0 := r_19_0.from k0.le
  have m_1 := k_1.tame
  have bx7 := bx7.keep k_1
  have bx9 := bx9.keep k_1
  have bx11 := bx11.keep k_1
  have k0 := k0.trans k_1
  have kh := kh.trans k_1
  refine boxV fun h_2 bx_20 k_2 => ?_
  have d7q_20 : B7 ≠ h_1.size := Nat.ne_of_lt bx7.lt
  have d9q_20 : B9 ≠ h_1.size := Nat.ne_of_lt bx9.lt
  have d11q_20 : B11 ≠ h_1.size := Nat.ne_of_lt bx11.lt
  have o_20 : h0.size ≤ h_1.size := k0.le
  have oh_20 : h.size ≤ h_1.size := kh.le
  have lt_20 := bx_20.lt
  have m_2 := k_2.tame
  have bx7 := bx7.keep k_2
  have bx9 := bx9.keep k_2
  have bx11 := bx11.keep k_2
  have k0 := k0.trans k_2
  have kh := kh.trans k_2
  refine stA bx_20 (base_add _ _) rfl fun h_3 bx_20 k_3 m_3 => ?_
  have bx7 := bx7.keepB d7q_20 k_3
  have bx9 := bx9.keepB d9q_20 k_3
  have bx11 := bx11.keepB d11q_20 k_3
  have k0 := KeepB.keep k0 k_3 o_20
  have kh := KeepB.keep kh k_3 oh_20
  refine stA bx_20 (base_add _ _) rfl fun h_4 bx_20 k_4 m_4 => ?_
  have bx7 := bx7.keepB d7q_20 k_4
  have bx9 := bx9.keepB d9q_20 k_4
  have bx11 := bx11.keepB d11q_20 k_4
  have k0 := KeepB.keep k0 k_4 o_20
  have kh := KeepB.keep kh k_4 oh_20
  refine ldA bx9 (base_add _ _) rfl ?_
  refine gBool_intro rfl ?_
  refine ldA bx9 (base_add _ _) rfl ?_
  refine gSlice_intro rfl ?_
  refine ldA bx7 (base_add _ _) rfl ?_
  refine gBool_intro rfl ?_
  refine ldA bx7 (base_add _ _) rfl ?_
  refine gSlice_intro rfl ?_
  refine hc_intro (num_Add.hs (r9_1.tame (m_1.trans (m_2.trans (m_3.trans m_4)))).rd64 rfl (r7_1.tame (m_1.trans (m_2.trans (m_3.trans m_4)))).rd64 rfl) fun v h_5 ⟨k_5, s⟩ => ?_
  obtain ⟨p_21, hp_21⟩ : ∃ p, p = twoZ addI (b9_0, xs9_1) (b7_0, xs7_1) := ⟨_, rfl⟩
  rw [← hp_21] at s
  replace g := lift_let2 hp_21 g
  obtain ⟨_, _, rfl, ⟨a_21_0, c_21_0, rfl, r_21_0⟩, ⟨rfl, i_21_1⟩⟩ := s
  refine gTup_intro rfl (uncons_intro (gAgg_intro rfl (uncons_intro (gBool_intro rfl (uncons_intro (gSlice_intro rfl (unnil_intro (uncons_intro (gInt_intro rfl (unnil_intro (?_)))))))))))
  have r_21_0 := r_21_0.from k0.le
  have m_5 := k_5.tame
  have bx7 := bx7.keep k_5
  have bx9 := bx9.keep k_5
  have bx11 := bx11.keep k_5
  have bx_20 := bx_20.keep k_5
  have k0 := k0.trans k_5
  have kh := kh.trans k_5
  refine boxV fun h_6 bx_22 k_6 => ?_
  have d7q_22 : B7 ≠ h_5.size := Nat.ne_of_lt bx7.lt
  have d9q_22 : B9 ≠ h_5.size := Nat.ne_of_lt bx9.lt
  have d11q_22 : B11 ≠ h_5.size := Nat.ne_of_lt bx11.lt
  have d_20q_22 : h_1.size ≠ h_5.size := Nat.ne_of_lt bx_20.lt
  have o_22 : h0.size ≤ h_5.size := k0.le
  have oh_22 : h.size ≤ h_5.size := kh.le
  have lt_22 := bx_22.lt
  have m_6 := k_6.tame
  have bx7 := bx7.keep k_6
  have bx9 := bx9.keep k_6
  have bx11 := bx11.keep k_6
  have bx_20 := bx_20.keep k_6
  have k0 := k0.trans k_6
  have kh := kh.trans k_6
  refine stA bx_22 (base_add _ _) rfl fun h_7 bx_22 k_7 m_7 => ?_
  have bx7 := bx7.keepB d7q_22 k_7
  have bx9 := bx9.keepB d9q_22 k_7
  have bx11 := bx11.keepB d11q_22 k_7
  have bx_20 := bx_20.keepB d_20q_22 k_7
  have k0 := KeepB.keep k0 k_7 o_22
  have kh := KeepB.keep kh k_7 oh_22
  refine stA bx_22 (base_add _ _) rfl fun h_8 bx_22 k_8 m_8 => ?_
  have bx7 := bx7.keepB d7q_22 k_8
  have bx9 := bx9.keepB d9q_22 k_8
  have bx11 := bx11.keepB d11q_22 k_8
  have bx_20 := bx_20.keepB d_20q_22 k_8
  have k0 := KeepB.keep k0 k_8 o_22
  have kh := KeepB.keep kh k_8 oh_22
  refine ldA bx7 (base_add _ _) rfl ?_
  refine gBool_intro rfl ?_
  refine ldA bx7 (base_add _ _) rfl ?_
  refine gSlice_intro rfl ?_
  refine ldA bx9 (base_add _ _) rfl ?_
  refine gBool_intro rfl ?_
  refine ldA bx9 (base_add _ _) rfl ?_
  refine gSlice_intro rfl ?_
  refine hc_intro (num_Mul.hs (r7_1.tame (m_1.trans (m_2.trans (m_3.trans (m_4.trans (m_5.trans (m_6.trans (m_7.trans m_8)))))))).rd64 rfl (r9_1.tame (m_1.trans (m_2.trans (m_3.trans (m_4.trans (m_5.trans (m_6.trans (m_7.trans m_8)))))))).rd64 rfl) fun v h_9 ⟨k_9, s⟩ => ?_
  obtain ⟨p_23, hp_23⟩ : ∃ p, p = twoZ mulI (b7_0, xs7_1) (b9_0, xs9_1) := ⟨_, rfl⟩
  rw [← hp_23] at s
  replace g := lift_let2 hp_23 g
  obtain ⟨_, _, rfl, ⟨a_23_0, c_23_0, rfl, r_23_0⟩, ⟨rfl, i_23_1⟩⟩ := s
  refine gTup_intro rfl (uncons_intro (gAgg_intro rfl (uncons_intro (gBool_intro rfl (uncons_intro (gSlice_intro rfl (unnil_intro (uncons_intro (gInt_intro rfl (unnil_intro (?_)))))))))))
  have r_23_0 := r_23_0.from k0.le
  have m_9 := k_9.tame
  have bx7 := bx7.keep k_9
  have bx9 := bx9.keep k_9
  have bx11 := bx11.keep k_9
  have bx_20 := bx_20.keep k_9
  have bx_22 := bx_22.keep k_9
  have k0 := k0.trans k_9
  have kh := kh.trans k_9
  refine boxV fun h_10 bx_24 k_10 => ?_
  have d7q_24 : B7 ≠ h_9.size := Nat.ne_of_lt bx7.lt
  have d9q_24 : B9 ≠ h_9.size := Nat.ne_of_lt bx9.lt
  have d11q_24 : B11 ≠ h_9.size := Nat.ne_of_lt bx11.lt
  have d_20q_24 : h_1.size ≠ h_9.size := Nat.ne_of_lt bx_20.lt
  have d_22q_24 : h_5.size ≠ h_9.size := Nat.ne_of_lt bx_22.lt
  have o_24 : h0.size ≤ h_9.size := k0.le
  have oh_24 : h.size ≤ h_9.size := kh.le
  have lt_24 := bx_24.lt
  have m_10 := k_10.tame
  have bx7 := bx7.keep k_10
  have bx9 := bx9.keep k_10
  have bx11 := bx11.keep k_10
  have bx_20 := bx_20.keep k_10
  have bx_22 := bx_22.keep k_10
  have k0 := k0.trans k_10
  have kh := kh.trans k_10
  refine stA bx_24 (base_add _ _) rfl fun h_11 bx_24 k_11 m_11 => ?_
  have bx7 := bx7.keepB d7q_24 k_11
  have bx9 := bx9.keepB d9q_24 k_11
  have bx11 := bx11.keepB d11q_24 k_11
  have bx_20 := bx_20.keepB d_20q_24 k_11
  have bx_22 := bx_22.keepB d_22q_24 k_11
  have k0 := KeepB.keep k0 k_11 o_24
  have kh := KeepB.keep kh k_11 oh_24
  refine stA bx_24 (base_add _ _) rfl fun h_12 bx_24 k_12 m_12 => ?_
  have bx7 := bx7.keepB d7q_24 k_12
  have bx9 := bx9.keepB d9q_24 k_12
  have bx11 := bx11.keepB d11q_24 k_12
  have bx_20 := bx_20.keepB d_20q_24 k_12
  have bx_22 := bx_22.keepB d_22q_24 k_12
  have k0 := KeepB.keep k0 k_12 o_24
  have kh := KeepB.keep kh k_12 oh_24
  refine ldA bx9 (base_add _ _) rfl ?_
  refine gBool_intro rfl ?_
  refine ldA bx9 (base_add _ _) rfl ?_
  refine gSlice_intro rfl ?_
  refine ldA bx7 (base_add _ _) rfl ?_
  refine gBool_intro rfl ?_
  refine ldA bx7 (base_add _ _) rfl ?_
  refine gSlice_intro rfl ?_
  refine hc_intro (num_Mul.hs (r9_1.tame (m_1.trans (m_2.trans (m_3.trans (m_4.trans (m_5.trans (m_6.trans (m_7.trans (m_8.trans (m_9.trans (m_10.trans (m_11.trans m_12)))))))))))).rd64 rfl (r7_1.tame (m_1.trans (m_2.trans (m_3.trans (m_4.trans (m_5.trans (m_6.trans (m_7.trans (m_8.trans (m_9.trans (m_10.trans (m_11.trans m_12)))))))))))).rd64 rfl) fun v h_13 ⟨k_13, s⟩ => ?_
  obtain ⟨p_25, hp_25⟩ : ∃ p, p = twoZ mulI (b9_0, xs9_1) (b7_0, xs7_1) := ⟨_, rfl⟩
  rw [← hp_25] at s
  replace g := lift_let2 hp_25 g
  obtain ⟨_, _, rfl, ⟨a_25_0, c_25_0, rfl, r_25_0⟩, ⟨rfl, i_25_1⟩⟩ := s
  refine gTup_intro rfl (uncons_intro (gAgg_intro rfl (uncons_intro (gBool_intro rfl (uncons_intro (gSlice_intro rfl (unnil_intro (uncons_intro (gInt_intro rfl (unnil_intro (?_)))))))))))
  have r_25_0 := r_25_0.from k0.le
  have m_13 := k_13.tame
  have bx7 := bx7.keep k_13
  have bx9 := bx9.keep k_13
  have bx11 := bx11.keep k_13
  have bx_20 := bx_20.keep k_13
  have bx_22 := bx_22.keep k_13
  have bx_24 := bx_24.keep k_13
  have k0 := k0.trans k_13
  have kh := kh.trans k_13
  refine boxV fun h_14 bx_26 k_14 => ?_
  have d7q_26 : B7 ≠ h_13.size := Nat.ne_of_lt bx7.lt
  have d9q_26 : B9 ≠ h_13.size := Nat.ne_of_lt bx9.lt
  have d11q_26 : B11 ≠ h_13.size := Nat.ne_of_lt bx11.lt
  have d_20q_26 : h_1.size ≠ h_13.size := Nat.ne_of_lt bx_20.lt
  have d_22q_26 : h_5.size ≠ h_13.size := Nat.ne_of_lt bx_22.lt
  have d_24q_26 : h_9.size ≠ h_13.size := Nat.ne_of_lt bx_24.lt
  have o_26 : h0.size ≤ h_13.size := k0.le
  have oh_26 : h.size ≤ h_13.size := kh.le
  have lt_26 := bx_26.lt
  have m_14 := k_14.tame
  have bx7 := bx7.keep k_14
  have bx9 := bx9.keep k_14
  have bx11 := bx11.keep k_14
  have bx_20 := bx_20.keep k_14
  have bx_22 := bx_22.keep k_14
  have bx_24 := bx_24.keep k_14
  have k0 := k0.trans k_14
  have kh := kh.trans k_14
  refine stA bx_26 (base_add _ _) rfl fun h_15 bx_26 k_15 m_15 => ?_
  have bx7 := bx7.keepB d7q_26 k_15
  have bx9 := bx9.keepB d9q_26 k_15
  have bx11 := bx11.keepB d11q_26 k_15
  have bx_20 := bx_20.keepB d_20q_26 k_15
  have bx_22 := bx_22.keepB d_22q_26 k_15
  have bx_24 := bx_24.keepB d_24q_26 k_15
  have k0 := KeepB.keep k0 k_15 o_26
  have kh := KeepB.keep kh k_15 oh_26
  refine stA bx_26 (base_add _ _) rfl fun h_16 bx_26 k_16 m_16 => ?_
  have bx7 := bx7.keepB d7q_26 k_16
  have bx9 := bx9.keepB d9q_26 k_16
  have bx11 := bx11.keepB d11q_26 k_16
  have bx_20 := bx_20.keepB d_20q_26 k_16
  have bx_22 := bx_22.keepB d_22q_26 k_16
  have bx_24 := bx_24.keepB d_24q_26 k_16
  have k0 := KeepB.keep k0 k_16 o_26
  have kh := KeepB.keep kh k_16 oh_26
  refine lift_ne g (fun q_27 g => ?_) (fun q_27 g => ?_)
  · exact g _ _ k0 rfl
  · refine lift_ne g (fun q_28 g => ?_) (fun q_28 g => ?_)
    · exact g _ _ k0 rfl
    · refine ldA bx_20 (base_add _ _) rfl ?_
      refine gBool_intro rfl ?_
      refine ldA bx_20 (base_add _ _) rfl ?_
      refine gSlice_intro rfl ?_
      refine ldA bx_22 (base_add _ _) rfl ?_
      refine gBool_intro rfl ?_
      refine ldA bx_22 (base_add _ _) rfl ?_
      refine gSlice_intro rfl ?_
      refine hc_intro (gnomonlaw04_same.hs (r_19_0.tame (m_2.trans (m_3.trans (m_4.trans (m_5.trans (m_6.trans (m_7.trans (m_8.trans (m_9.trans (m_10.trans (m_11.trans (m_12.trans (m_13.trans (m_14.trans (m_15.trans m_16))))))))))))))).rd64 rfl (r_21_0.tame (m_6.trans (m_7.trans (m_8.trans (m_9.trans (m_10.trans (m_11.trans (m_12.trans (m_13.trans (m_14.trans (m_15.trans m_16))))))))))).rd64 rfl) fun v h_17 ⟨k_17, s⟩ => ?_
      obtain rfl := s
      refine gBool_intro rfl (?_)
      have m_17 := k_17.tame
      have bx7 := bx7.keep k_17
      have bx9 := bx9.keep k_17
      have bx11 := bx11.keep k_17
      have bx_20 := bx_20.keep k_17
      have bx_22 := bx_22.keep k_17
      have bx_24 := bx_24.keep k_17
      have bx_26 := bx_26.keep k_17
      have k0 := k0.trans k_17
      have kh := kh.trans k_17
      refine lift_not g (fun q_30 g => ?_) (fun q_30 g => ?_)
      · exact g _ _ k0 rfl
      · refine ldA bx_24 (base_add _ _) rfl ?_
        refine gBool_intro rfl ?_
        refine ldA bx_24 (base_add _ _) rfl ?_
        refine gSlice_intro rfl ?_
        refine ldA bx_26 (base_add _ _) rfl ?_
        refine gBool_intro rfl ?_
        refine ldA bx_26 (base_add _ _) rfl ?_
        refine gSlice_intro rfl ?_
        refine hc_intro (gnomonlaw04_same.hs (r_23_0.tame (m_10.trans (m_11.trans (m_12.trans (m_13.trans (m_14.trans (m_15.trans (m_16.trans m_17)))))))).rd64 rfl (r_25_0.tame (m_14.trans (m_15.trans (m_16.trans m_17)))).rd64 rfl) fun v h_18 ⟨k_18, s⟩ => ?_
        obtain rfl := s
        refine gBool_intro rfl (?_)
        have m_18 := k_18.tame
        have bx7 := bx7.keep k_18
        have bx9 := bx9.keep k_18
        have bx11 := bx11.keep k_18
        have bx_20 := bx_20.keep k_18
        have bx_22 := bx_22.keep k_18
        have bx_24 := bx_24.keep k_18
        have bx_26 := bx_26.keep k_18
        have k0 := k0.trans k_18
        have kh := kh.trans k_18
        refine lift_not g (fun q_32 g => ?_) (fun q_32 g => ?_)
        · exact g _ _ k0 rfl
        · exact D3.hv k0 (r7_1.tame (m_1.trans (m_2.trans (m_3.trans (m_4.trans (m_5.trans (m_6.trans (m_7.trans (m_8.trans (m_9.trans (m_10.trans (m_11.trans (m_12.trans (m_13.trans (m_14.trans (m_15.trans (m_16.trans (m_17.trans m_18)))))))))))))))))) bx7 o7 (r9_1.tame (m_1.trans (m_2.trans (m_3.trans (m_4.trans (m_5.trans (m_6.trans (m_7.trans (m_8.trans (m_9.trans (m_10.trans (m_11.trans (m_12.trans (m_13.trans (m_14.trans (m_15.trans (m_16.trans (m_17.trans m_18)))))))))))))))))) bx9 o9 (r11_1.tame (m_1.trans (m_2.trans (m_3.trans (m_4.trans (m_5.trans (m_6.trans (m_7.trans (m_8.trans (m_9.trans (m_10.trans (m_11.trans (m_12.trans (m_13.trans (m_14.trans (m_15.trans (m_16.trans (m_17.trans m_18)))))))))))))))))) bx11 o11 (r_19_0.tame (m_2.trans (m_3.trans (m_4.trans (m_5.trans (m_6.trans (m_7.trans (m_8.trans (m_9.trans (m_10.trans (m_11.trans (m_12.trans (m_13.trans (m_14.trans (m_15.trans (m_16.trans (m_17.trans m_18))))))))))))))))) bx_20 o_20 i_19_1 i_23_1 d7q9 d7q11 d7q_20 d9q11 d9q_20 d11q_20 g
def D1.v (b0_0 : Bool) (xs0_1 : List Nat) (b1_0 : Bool) (xs1_1 : List Nat) (b2_0 : Bool) (xs2_1 : List Nat) : Bool :=
  letV ((zz (zi (b0_0, xs0_1)), decide (SmZ (zi (b0_0, xs0_1))))) fun p_4 =>
  letV ((zz (zi (b1_0, xs1_1)), decide (SmZ (zi (b1_0, xs1_1))))) fun p_6 =>
  letV ((zz (zi (b2_0, xs2_1)), decide (SmZ (zi (b2_0, xs2_1))))) fun p_8 =>
  bif (!(true)) then
    (true)
  else
    bif (!p_4.2) then
      (true)
    else
      bif (!p_6.2) then
        (true)
      else
        bif (!p_8.2) then
          (true)
        else
          D2.v p_4.1.1 p_4.1.2 p_6.1.1 p_6.1.2 p_8.1.1 p_8.1.2
theorem D1.hv {R : Rt} {h0 h : Hp} (k0 : Keep h0 h) {b0_0 : Bool} {a0_1 : Option Addr} {c0_1 l0_1 : Nat} {xs0_1 : List Nat} (r0_1 : Rd h a0_1 c0_1 xs0_1) (e0_1 : l0_1 = xs0_1.length) {b1_0 : Bool} {a1_1 : Option Addr} {c1_1 l1_1 : Nat} {xs1_1 : List Nat} (r1_1 : Rd h a1_1 c1_1 xs1_1) (e1_1 : l1_1 = xs1_1.length) {b2_0 : Bool} {a2_1 : Option Addr} {c2_1 l2_1 : Nat} {xs2_1 : List Nat} (r2_1 : Rd h a2_1 c2_1 xs2_1) (e2_1 : l2_1 = xs2_1.length) (g : Post sBool h0 R (D1.v b0_0 xs0_1 b1_0 xs1_1 b2_0 xs2_1)) : D1.t R b0_0 a0_1 l0_1 c0_1 b1_0 a1_1 l1_1 c1_1 b2_0 a2_1 l2_1 c2_1 h := by
  subst e0_1 e1_1 e2_1
  have kh := Keep.refl h
  unfold D1.v at g
  unfold D1.t
  refine boxV fun h_1 bx_1 k_1 => ?_
  have o_1 : h0.size ≤ h.size := k0.le
  have oh_1 : h.size ≤ h.size := kh.le
  have lt_1 := bx_1.lt
  have m_1 := k_1.tame
  have k0 := k0.trans k_1
  have kh := kh.trans k_1
  refine boxV fun h_2 bx_2 k_2 => ?_
  have d_1q_2 : h.size ≠ h_1.size := Nat.ne_of_lt bx_1.lt
  have o_2 : h0.size ≤ h_1.size := k0.le
  have oh_2 : h.size ≤ h_1.size := kh.le
  have lt_2 := bx_2.lt
  have m_2 := k_2.tame
  have bx_1 := bx_1.keep k_2
  have k0 := k0.trans k_2
  have kh := kh.trans k_2
  refine boxV fun h_3 bx_3 k_3 => ?_
  have d_1q_3 : h.size ≠ h_2.size := Nat.ne_of_lt bx_1.lt
  have d_2q_3 : h_1.size ≠ h_2.size := Nat.ne_of_lt bx_2.lt
  have o_3 : h0.size ≤ h_2.size := k0.le
  have oh_3 : h.size ≤ h_2.size := kh.le
  have lt_3 := bx_3.lt
  have m_3 := k_3.tame
  have bx_1 := bx_1.keep k_3
  have bx_2 := bx_2.keep k_3
  have k0 := k0.trans k_3
  have kh := kh.trans k_3
  refine ldA bx_1 (base_add _ _) rfl ?_
  refine gBool_intro rfl ?_
  refine ldA bx_1 (base_add _ _) rfl ?_
  refine gSlice_intro rfl ?_
  refine hc_intro (gnomonlaw04_formed.hs (r0_1.tame (m_1.trans (m_2.trans m_3))) rfl) fun v h_4 ⟨k_4, s⟩ => ?_
  obtain ⟨p_4, hp_4⟩ : ∃ p, p = (zz (zi (b0_0, xs0_1)), decide (SmZ (zi (b0_0, xs0_1)))) := ⟨_, rfl⟩
  rw [← hp_4] at s
  replace g := lift_let2 hp_4 g
  obtain ⟨_, _, rfl, ⟨a_4_0, c_4_0, rfl, r_4_0⟩, rfl⟩ := s
  refine gTup_intro rfl (uncons_intro (gAgg_intro rfl (uncons_intro (gBool_intro rfl (uncons_intro (gSlice_intro rfl (unnil_intro (uncons_intro (gBool_intro rfl (unnil_intro (?_)))))))))))
  have r_4_0 := r_4_0.from k0.le
  have m_4 := k_4.tame
  have bx_1 := bx_1.keep k_4
  have bx_2 := bx_2.keep k_4
  have bx_3 := bx_3.keep k_4
  have k0 := k0.trans k_4
  have kh := kh.trans k_4
  refine boxV fun h_5 bx_5 k_5 => ?_
  have d_1q_5 : h.size ≠ h_4.size := Nat.ne_of_lt bx_1.lt
  have d_2q_5 : h_1.size ≠ h_4.size := Nat.ne_of_lt bx_2.lt
  have d_3q_5 : h_2.size ≠ h_4.size := Nat.ne_of_lt bx_3.lt
  have o_5 : h0.size ≤ h_4.size := k0.le
  have oh_5 : h.size ≤ h_4.size := kh.le
  have lt_5 := bx_5.lt
  have m_5 := k_5.tame
  have bx_1 := bx_1.keep k_5
  have bx_2 := bx_2.keep k_5
  have bx_3 := bx_3.keep k_5
  have k0 := k0.trans k_5
  have kh := kh.trans k_5
  refine stA bx_5 (base_add _ _) rfl fun h_6 bx_5 k_6 m_6 => ?_
  have bx_1 := bx_1.keepB d_1q_5 k_6
  have bx_2 := bx_2.keepB d_2q_5 k_6
  have bx_3 := bx_3.keepB d_3q_5 k_6
  have k0 := KeepB.keep k0 k_6 o_5
  have kh := KeepB.keep kh k_6 oh_5
  refine stA bx_5 (base_add _ _) rfl fun h_7 bx_5 k_7 m_7 => ?_
  have bx_1 := bx_1.keepB d_1q_5 k_7
  have bx_2 := bx_2.keepB d_2q_5 k_7
  have bx_3 := bx_3.keepB d_3q_5 k_7
  have k0 := KeepB.keep k0 k_7 o_5
  have kh := KeepB.keep kh k_7 oh_5
  refine ldA bx_2 (base_add _ _) rfl ?_
  refine gBool_intro rfl ?_
  refine ldA bx_2 (base_add _ _) rfl ?_
  refine gSlice_intro rfl ?_
  refine hc_intro (gnomonlaw04_formed.hs (r1_1.tame (m_1.trans (m_2.trans (m_3.trans (m_4.trans (m_5.trans (m_6.trans m_7))))))) rfl) fun v h_8 ⟨k_8, s⟩ => ?_
  obtain ⟨p_6, hp_6⟩ : ∃ p, p = (zz (zi (b1_0, xs1_1)), decide (SmZ (zi (b1_0, xs1_1)))) := ⟨_, rfl⟩
  rw [← hp_6] at s
  replace g := lift_let2 hp_6 g
  obtain ⟨_, _, rfl, ⟨a_6_0, c_6_0, rfl, r_6_0⟩, rfl⟩ := s
  refine gTup_intro rfl (uncons_intro (gAgg_intro rfl (uncons_intro (gBool_intro rfl (uncons_intro (gSlice_intro rfl (unnil_intro (uncons_intro (gBool_intro rfl (unnil_intro (?_)))))))))))
  have r_6_0 := r_6_0.from k0.le
  have m_8 := k_8.tame
  have bx_1 := bx_1.keep k_8
  have bx_2 := bx_2.keep k_8
  have bx_3 := bx_3.keep k_8
  have bx_5 := bx_5.keep k_8
  have k0 := k0.trans k_8
  have kh := kh.trans k_8
  refine boxV fun h_9 bx_7 k_9 => ?_
  have d_1q_7 : h.size ≠ h_8.size := Nat.ne_of_lt bx_1.lt
  have d_2q_7 : h_1.size ≠ h_8.size := Nat.ne_of_lt bx_2.lt
  have d_3q_7 : h_2.size ≠ h_8.size := Nat.ne_of_lt bx_3.lt
  have d_5q_7 : h_4.size ≠ h_8.size := Nat.ne_of_lt bx_5.lt
  have o_7 : h0.size ≤ h_8.size := k0.le
  have oh_7 : h.size ≤ h_8.size := kh.le
  have lt_7 := bx_7.lt
  have m_9 := k_9.tame
  have bx_1 := bx_1.keep k_9
  have bx_2 := bx_2.keep k_9
  have bx_3 := bx_3.keep k_9
  have bx_5 := bx_5.keep k_9
  have k0 := k0.trans k_9
  have kh := kh.trans k_9
  refine stA bx_7 (base_add _ _) rfl fun h_10 bx_7 k_10 m_10 => ?_
  have bx_1 := bx_1.keepB d_1q_7 k_10
  have bx_2 := bx_2.keepB d_2q_7 k_10
  have bx_3 := bx_3.keepB d_3q_7 k_10
  have bx_5 := bx_5.keepB d_5q_7 k_10
  have k0 := KeepB.keep k0 k_10 o_7
  have kh := KeepB.keep kh k_10 oh_7
  refine stA bx_7 (base_add _ _) rfl fun h_11 bx_7 k_11 m_11 => ?_
  have bx_1 := bx_1.keepB d_1q_7 k_11
  have bx_2 := bx_2.keepB d_2q_7 k_11
  have bx_3 := bx_3.keepB d_3q_7 k_11
  have bx_5 := bx_5.keepB d_5q_7 k_11
  have k0 := KeepB.keep k0 k_11 o_7
  have kh := KeepB.keep kh k_11 oh_7
  refine ldA bx_3 (base_add _ _) rfl ?_
  refine gBool_intro rfl ?_
  refine ldA bx_3 (base_add _ _) rfl ?_
  refine gSlice_intro rfl ?_
  refine hc_intro (gnomonlaw04_formed.hs (r2_1.tame (m_1.trans (m_2.trans (m_3.trans (m_4.trans (m_5.trans (m_6.trans (m_7.trans (m_8.trans (m_9.trans (m_10.trans m_11))))))))))) rfl) fun v h_12 ⟨k_12, s⟩ => ?_
  obtain ⟨p_8, hp_8⟩ : ∃ p, p = (zz (zi (b2_0, xs2_1)), decide (SmZ (zi (b2_0, xs2_1)))) := ⟨_, rfl⟩
  rw [← hp_8] at s
  replace g := lift_let2 hp_8 g
  obtain ⟨_, _, rfl, ⟨a_8_0, c_8_0, rfl, r_8_0⟩, rfl⟩ := s
  refine gTup_intro rfl (uncons_intro (gAgg_intro rfl (uncons_intro (gBool_intro rfl (uncons_intro (gSlice_intro rfl (unnil_intro (uncons_intro (gBool_intro rfl (unnil_intro (?_)))))))))))
  have r_8_0 := r_8_0.from k0.le
  have m_12 := k_12.tame
  have bx_1 := bx_1.keep k_12
  have bx_2 := bx_2.keep k_12
  have bx_3 := bx_3.keep k_12
  have bx_5 := bx_5.keep k_12
  have bx_7 := bx_7.keep k_12
  have k0 := k0.trans k_12
  have kh := kh.trans k_12
  refine boxV fun h_13 bx_9 k_13 => ?_
  have d_1q_9 : h.size ≠ h_12.size := Nat.ne_of_lt bx_1.lt
  have d_2q_9 : h_1.size ≠ h_12.size := Nat.ne_of_lt bx_2.lt
  have d_3q_9 : h_2.size ≠ h_12.size := Nat.ne_of_lt bx_3.lt
  have d_5q_9 : h_4.size ≠ h_12.size := Nat.ne_of_lt bx_5.lt
  have d_7q_9 : h_8.size ≠ h_12.size := Nat.ne_of_lt bx_7.lt
  have o_9 : h0.size ≤ h_12.size := k0.le
  have oh_9 : h.size ≤ h_12.size := kh.le
  have lt_9 := bx_9.lt
  have m_13 := k_13.tame
  have bx_1 := bx_1.keep k_13
  have bx_2 := bx_2.keep k_13
  have bx_3 := bx_3.keep k_13
  have bx_5 := bx_5.keep k_13
  have bx_7 := bx_7.keep k_13
  have k0 := k0.trans k_13
  have kh := kh.trans k_13
  refine stA bx_9 (base_add _ _) rfl fun h_14 bx_9 k_14 m_14 => ?_
  have bx_1 := bx_1.keepB d_1q_9 k_14
  have bx_2 := bx_2.keepB d_2q_9 k_14
  have bx_3 := bx_3.keepB d_3q_9 k_14
  have bx_5 := bx_5.keepB d_5q_9 k_14
  have bx_7 := bx_7.keepB d_7q_9 k_14
  have k0 := KeepB.keep k0 k_14 o_9
  have kh := KeepB.keep kh k_14 oh_9
  refine stA bx_9 (base_add _ _) rfl fun h_15 bx_9 k_15 m_15 => ?_
  have bx_1 := bx_1.keepB d_1q_9 k_15
  have bx_2 := bx_2.keepB d_2q_9 k_15
  have bx_3 := bx_3.keepB d_3q_9 k_15
  have bx_5 := bx_5.keepB d_5q_9 k_15
  have bx_7 := bx_7.keepB d_7q_9 k_15
  have k0 := KeepB.keep k0 k_15 o_9
  have kh := KeepB.keep kh k_15 oh_9
  refine hc_intro (awake_hs) fun v h_16 ⟨k_16, s⟩ => ?_
  obtain rfl := s
  refine gBool_intro rfl (?_)
  have m_16 := k_16.tame
  have bx_1 := bx_1.keep k_16
  have bx_2 := bx_2.keep k_16
  have bx_3 := bx_3.keep k_16
  have bx_5 := bx_5.keep k_16
  have bx_7 := bx_7.keep k_16
  have bx_9 := bx_9.keep k_16
  have k0 := k0.trans k_16
  have kh := kh.trans k_16
  refine lift_not g (fun q_11 g => ?_) (fun q_11 g => ?_)
  · refine hc_intro (awake_hs) fun v h_17 ⟨k_17, s⟩ => ?_
    obtain rfl := s
    refine gBool_intro rfl (?_)
    have m_17 := k_17.tame
    have bx_1 := bx_1.keep k_17
    have bx_2 := bx_2.keep k_17
    have bx_3 := bx_3.keep k_17
    have bx_5 := bx_5.keep k_17
    have bx_7 := bx_7.keep k_17
    have bx_9 := bx_9.keep k_17
    have k0 := k0.trans k_17
    have kh := kh.trans k_17
    exact g _ _ k0 rfl
  · refine lift_not g (fun q_13 g => ?_) (fun q_13 g => ?_)
    · refine hc_intro (awake_hs) fun v h_17 ⟨k_17, s⟩ => ?_
      obtain rfl := s
      refine gBool_intro rfl (?_)
      have m_17 := k_17.tame
      have bx_1 := bx_1.keep k_17
      have bx_2 := bx_2.keep k_17
      have bx_3 := bx_3.keep k_17
      have bx_5 := bx_5.keep k_17
      have bx_7 := bx_7.keep k_17
      have bx_9 := bx_9.keep k_17
      have k0 := k0.trans k_17
      have kh := kh.trans k_17
      exact g _ _ k0 rfl
    · refine lift_not g (fun q_15 g => ?_) (fun q_15 g => ?_)
      · refine hc_intro (awake_hs) fun v h_17 ⟨k_17, s⟩ => ?_
        obtain rfl := s
        refine gBool_intro rfl (?_)
        have m_17 := k_17.tame
        have bx_1 := bx_1.keep k_17
        have bx_2 := bx_2.keep k_17
        have bx_3 := bx_3.keep k_17
        have bx_5 := bx_5.keep k_17
        have bx_7 := bx_7.keep k_17
        have bx_9 := bx_9.keep k_17
        have k0 := k0.trans k_17
        have kh := kh.trans k_17
        exact g _ _ k0 rfl
      · refine lift_not g (fun q_17 g => ?_) (fun q_17 g => ?_)
        · refine hc_intro (awake_hs) fun v h_17 ⟨k_17, s⟩ => ?_
          obtain rfl := s
          refine gBool_intro rfl (?_)
          have m_17 := k_17.tame
          have bx_1 := bx_1.keep k_17
          have bx_2 := bx_2.keep k_17
          have bx_3 := bx_3.keep k_17
          have bx_5 := bx_5.keep k_17
          have bx_7 := bx_7.keep k_17
          have bx_9 := bx_9.keep k_17
          have k0 := k0.trans k_17
          have kh := kh.trans k_17
          exact g _ _ k0 rfl
        · exact D2.hv k0 (r_4_0.tame (m_5.trans (m_6.trans (m_7.trans (m_8.trans (m_9.trans (m_10.trans (m_11.trans (m_12.trans (m_13.trans (m_14.trans (m_15.trans m_16)))))))))))) bx_5 o_5 (r_6_0.tame (m_9.trans (m_10.trans (m_11.trans (m_12.trans (m_13.trans (m_14.trans (m_15.trans m_16)))))))) bx_7 o_7 (r_8_0.tame (m_13.trans (m_14.trans (m_15.trans m_16)))) bx_9 o_9 d_5q_7 d_5q_9 d_7q_9 g
def v (b0_0 : Bool) (xs0_1 : List Nat) (b1_0 : Bool) (xs1_1 : List Nat) (b2_0 : Bool) (xs2_1 : List Nat) : Bool := D1.v b0_0 xs0_1 b1_0 xs1_1 b2_0 xs2_1
theorem hv {h : Hp} {b0_0 : Bool} {a0_1 : Option Addr} {c0_1 l0_1 : Nat} {xs0_1 : List Nat} (r0_1 : Rd h a0_1 c0_1 xs0_1) (e0_1 : l0_1 = xs0_1.length) {b1_0 : Bool} {a1_1 : Option Addr} {c1_1 l1_1 : Nat} {xs1_1 : List Nat} (r1_1 : Rd h a1_1 c1_1 xs1_1) (e1_1 : l1_1 = xs1_1.length) {b2_0 : Bool} {a2_1 : Option Addr} {c2_1 l2_1 : Nat} {xs2_1 : List Nat} (r2_1 : Rd h a2_1 c2_1 xs2_1) (e2_1 : l2_1 = xs2_1.length) : HC id #[.agg #[.bool b0_0, .slice a0_1 l0_1 c0_1], .agg #[.bool b1_0, .slice a1_1 l1_1 c1_1], .agg #[.bool b2_0, .slice a2_1 l2_1 c2_1]] h fun v_ h_ => Keep h h_ ∧ sBool h h_ v_ (v b0_0 xs0_1 b1_0 xs1_1 b2_0 xs2_1) :=
  ok (D1.hv (Keep.refl _) r0_1 e0_1 r1_1 e1_1 r2_1 e2_1 fun v h' k s => ⟨k, s⟩)
end gnomonlaw04_NumRing

end Go.Proofs.Ytpglfeeebnnkkaa.G

/- Layer 4: a whole number as an argument. -/
namespace Go.Proofs.Ytpglfeeebnnkkaa.G
open Go.Gv
set_option linter.unusedVariables false
set_option maxRecDepth 100000
theorem zne : ((0 : Int) != 0) = false := rfl
/-! ### the laws -/
theorem says_oneZ {α β : Type} {S : Says α} {T : Says β} {h : Hp} {cs : List Value} {p : α × β} (z : saysCons S 1 T h cs p) : ∃ c rest, cs = c :: rest ∧ S h [c] p.1 ∧ T h rest p.2 := by
  obtain ⟨l, s, t⟩ := z
  cases cs with
  | nil => simp at l
  | cons c r => exact ⟨c, r, rfl, s, t⟩
abbrev saysInt4 : Says (Bool × List Nat × Unit) := saysCons saysBool 1 (saysCons saysWords 1 saysEnd)
theorem int4_open {h : Hp} {cs : Array Value} {x : Bool × List Nat × Unit} (z : saysInt4 h cs.toList x) : ∃ a c, cs = #[.bool x.1, .slice a x.2.1.length c] ∧ Rd h a c x.2.1 := by
  obtain ⟨v0, t0, e0, f0, z⟩ := says_oneZ z
  obtain ⟨v1, t1, e1, ⟨a1, c1, f1, r1, _⟩, z⟩ := says_oneZ z
  have z : t1 = [] := z
  have f0 : [v0] = [.bool x.1] := f0
  simp only [List.cons.injEq, and_true] at f0 f1
  subst f0 f1
  rw [e1, z] at e0
  exact ⟨a1, c1, Array.toList_inj.mp e0, r1⟩
end Go.Proofs.Ytpglfeeebnnkkaa.G

/- The law NumRing of the translation answers true. -/
namespace Go.Proofs.Ytpglfeeebnnkkaa.G
open Go.Gv
set_option linter.unusedVariables false
set_option maxRecDepth 100000
theorem ite_max (a b : Nat) : (if ((a : Nat) : Int) > ((b : Nat) : Int) then ((a : Nat) : Int) else ((b : Nat) : Int)) = ((max b a : Nat) : Int) := by
  split <;> omega
theorem zz_len (i : Int) : (zz i).2.length = (digs i.natAbs).length := rfl
theorem zlim_two (i : Int) : (zlim i).2 = if SmZ i then 0 else 5 := by unfold zlim; split <;> rfl
theorem sm_sum {x y : Int} {k : Nat} (hx : (digs x.natAbs).length ≤ k) (hy : (digs y.natAbs).length ≤ k) : (digs (x + y).natAbs).length ≤ k + 1 :=
  Nat.le_trans (digs_len_mono (Int.natAbs_add_le x y)) (digs_add_len hx hy)
theorem sm_mul {x y : Int} {j k : Nat} (hx : (digs x.natAbs).length ≤ j) (hy : (digs y.natAbs).length ≤ k) : (digs (x * y).natAbs).length ≤ j + k := by
  rw [Int.natAbs_mul]
  rw [digs_len] at hx hy ⊢
  rw [Nat.mul_add, Nat.pow_add]
  exact Nat.mul_lt_mul'' hx hy
theorem ring_D5 {x y z : Int} (hx : SmZ x) (hy : SmZ y) (hz : SmZ z) (hs : SmZ (x + y)) : gnomonlaw04_NumRing.D5.v (zz x).1 (zz x).2 (zz y).1 (zz y).2 (zz z).1 (zz z).2 (zz (x + y)).1 (zz (x + y)).2 = true := by
  unfold gnomonlaw04_NumRing.D5.v
  simp only [letV, eta2, two_zz mulI hs hz, two_zz mulI hx hz, two_zz mulI hy hz]
  have hx' : (digs x.natAbs).length ≤ 8192 := hx
  have hy' : (digs y.natAbs).length ≤ 8192 := hy
  have hz' : (digs z.natAbs).length ≤ 8192 := hz
  have hs' : (digs (x + y).natAbs).length ≤ 8192 := hs
  have m1 := sm_mul (Nat.le_refl (digs (x + y).natAbs).length) (Nat.le_refl (digs z.natAbs).length)
  have m2 := sm_mul (Nat.le_refl (digs x.natAbs).length) (Nat.le_refl (digs z.natAbs).length)
  have m3 := sm_mul (Nat.le_refl (digs y.natAbs).length) (Nat.le_refl (digs z.natAbs).length)
  have c1 : (mulI (x + y) z) = (x + y) * z := rfl
  have c2 : (mulI x z) = x * z := rfl
  have c3 : (mulI y z) = y * z := rfl
  by_cases h1 : SmZ (mulI (x + y) z)
  · by_cases h2 : SmZ (mulI x z)
    · by_cases h3 : SmZ (mulI y z)
      · rw [zlim_ok h1, zlim_ok h2, zlim_ok h3]
        simp only [zne, cond_false]
        unfold gnomonlaw04_NumRing.D6.v
        have e : addI (mulI x z) (mulI y z) = mulI (x + y) z := (Int.add_mul x y z).symm
        simp only [letV, eta2, two_zz addI h2 h3, e, zlim_ok h1, beq_self_eq_true, cond_true, decide_true]
      · have h3' : ¬ (digs (mulI y z).natAbs).length ≤ 8192 := h3
        rw [zlim_ok h1, zlim_ok h2, zlim_no h3]
        simp only [zne, cond_false]
        rw [c3] at h3'
        show decide _ = true
        refine decide_eq_true ?_
        simp only [ite_max]
        simp only [zz_len]
        rw [wrap_i64 (by omega) (by omega)]
        omega
    · have h2' : ¬ (digs (mulI x z).natAbs).length ≤ 8192 := h2
      rw [zlim_ok h1, zlim_no h2]
      simp only [zne, cond_false]
      rw [c2] at h2'
      show decide _ = true
      refine decide_eq_true ?_
      simp only [ite_max]
      simp only [zz_len]
      rw [wrap_i64 (by omega) (by omega)]
      omega
  · have h1' : ¬ (digs (mulI (x + y) z).natAbs).length ≤ 8192 := h1
    rw [zlim_no h1]
    rw [c1] at h1'
    show decide _ = true
    refine decide_eq_true ?_
    simp only [ite_max]
    simp only [zz_len]
    rw [wrap_i64 (by omega) (by omega)]
    omega
theorem ring_D4 {x y z : Int} (hx : SmZ x) (hy : SmZ y) (hz : SmZ z) : gnomonlaw04_NumRing.D4.v (zz x).1 (zz x).2 (zz y).1 (zz y).2 (zz z).1 (zz z).2 (zlim (x + y)).1.1 (zlim (x + y)).1.2 (zlim (x + y)).2 = true := by
  unfold gnomonlaw04_NumRing.D4.v
  by_cases hs : SmZ (x + y)
  · have e : subI (x + y) y = x := by show x + y - y = x; omega
    have e5 : ((0 : Int) == 5) = false := rfl
    simp only [zlim_ok hs, e5, cond_false, letV, eta2, two_zz subI hs hy, e, zlim_ok hx, zne, decide_true, Bool.not_true]
    exact ring_D5 hx hy hz hs
  · rw [zlim_no hs]
    have hx' : (digs x.natAbs).length ≤ 8192 := hx
    have hy' : (digs y.natAbs).length ≤ 8192 := hy
    have hs' : ¬ (digs (x + y).natAbs).length ≤ 8192 := hs
    have e5 : ((5 : Int) == 5) = true := rfl
    simp only [e5, cond_true, ite_max]
    simp only [zz_len]
    have : max (digs x.natAbs).length (digs y.natAbs).length = 8192 := by
      rcases Nat.lt_or_ge (max (digs x.natAbs).length (digs y.natAbs).length) 8192 with h | h
      · exact absurd (sm_sum (x := x) (y := y) (k := 8191) (by omega) (by omega)) (by omega)
      · omega
    rw [this]; rfl
theorem NumRing_v (a b c : Bool) (xs ys zs : List Nat) : gnomonlaw04_NumRing.v a xs b ys c zs = true := by
  unfold gnomonlaw04_NumRing.v gnomonlaw04_NumRing.D1.v
  simp only [letV, Bool.not_true, cond_false]
  generalize zi (a, xs) = x
  generalize zi (b, ys) = y
  generalize zi (c, zs) = z
  by_cases hx : SmZ x
  · by_cases hy : SmZ y
    · by_cases hz : SmZ z
      · simp only [hx, hy, hz, decide_true, Bool.not_true, cond_false]
        unfold gnomonlaw04_NumRing.D2.v
        have e1 : addI y x = addI x y := Int.add_comm y x
        have e2 : mulI y x = mulI x y := Int.mul_comm y x
        have r : ∀ i : Int, (i != i) = false := fun i => by simp
        simp only [letV, eta2, two_zz addI hx hy, two_zz addI hy hx, two_zz mulI hx hy, two_zz mulI hy hx, e1, e2, r, cond_false, decide_true, Bool.not_true]
        unfold gnomonlaw04_NumRing.D3.v
        have d4 := ring_D4 hx hy hz
        have d4 : gnomonlaw04_NumRing.D4.v (zz x).1 (zz x).2 (zz y).1 (zz y).2 (zz z).1 (zz z).2 (zlim (addI x y)).1.1 (zlim (addI x y)).1.2 (zlim (addI x y)).2 = true := d4
        rw [d4]
        rw [zlim_two, zlim_two]
        split <;> split <;> rfl
      · simp only [hx, hy, hz, decide_true, decide_false, Bool.not_true, Bool.not_false, cond_false, cond_true]
    · simp only [hx, hy, decide_true, decide_false, Bool.not_true, Bool.not_false, cond_false, cond_true]
  · simp only [hx, decide_false, Bool.not_false, cond_true]
section
variable {h : Hp} {cs ds es : Array Value} {X Y Z : Bool × List Nat × Unit}
theorem NumRing_law (z0 : saysInt4 h cs.toList X) (z1 : saysInt4 h ds.toList Y) (z2 : saysInt4 h es.toList Z) : HC gnomonlaw04_NumRing.id #[.agg cs, .agg ds, .agg es] h fun v h' => Keep h h' ∧ v = .bool true := by
  obtain ⟨a, c, e, r⟩ := int4_open z0
  obtain ⟨b, d, e', s⟩ := int4_open z1
  obtain ⟨b2, d2, e2, s2⟩ := int4_open z2
  subst e; subst e'; subst e2
  have := gnomonlaw04_NumRing.hv (b0_0 := X.1) (b1_0 := Y.1) (b2_0 := Z.1) r rfl s rfl s2 rfl
  rw [NumRing_v] at this; exact this
end
end Go.Proofs.Ytpglfeeebnnkkaa.G
