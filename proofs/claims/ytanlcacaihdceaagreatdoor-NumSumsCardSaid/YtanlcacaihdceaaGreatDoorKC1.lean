/- Texts of this work, joined: ZRefM, ZRef3, ZLawL, ZAri, ZRef4, ZLawC, ZDoc, ZDocA, ZDocB, ZDocC, ZDocD, ZDocE, ZDocF, ZDocG, ZDocH, ZDocI, ZDocJ, ZPlayT, ZPlayT2, ZDocKS, ZDocLS, ZPlayS, ZPlayS2, ZPlaySL, ZAllC, ZAllS. -/
import Derived.Test.YtanlcacaihdceaaGreatDoorKB
import Derived.Test.YtanlcacaihdceaaGreatDoorKC0
/- Functions without loops as functions of values. Written by a program of this work. -/
namespace Go.Proofs.YtanlcacaihdceaaGreatDoor.G
open Go.Gv
set_option linter.unusedVariables false
set_option maxRecDepth 100000
namespace gnomonref04_From
def D1.v (b0_0 : Bool) (xs0_1 : List Nat) : (Bool × Nat) :=
  letV (val xs0_1) fun p_3 =>
  letV (dz (sg b0_0 p_3)) fun p_4 =>
  (p_4.1, p_4.2)
theorem D1.hv {R : Rt} {h0 h : Hp} (k0 : Keep h0 h) {b0_0 : Bool} {a0_1 : Option Addr} {c0_1 l0_1 : Nat} {xs0_1 : List Nat} (r0_1 : Rd h a0_1 c0_1 xs0_1) (e0_1 : l0_1 = xs0_1.length) (g : Post sZD h0 R (D1.v b0_0 xs0_1)) : D1.t R b0_0 a0_1 l0_1 c0_1 h := by
  subst e0_1
  have kh := Keep.refl h
  unfold D1.v at g
  unfold D1.t
  refine boxV fun h_1 bx_1 k_1 => ?_
  have o_1 : h0.size ≤ h.size := k0.le
  have oh_1 : h.size ≤ h.size := kh.le
  have lt_1 := bx_1.lt
  have m_1 := k_1.tame
  have k0 := k0.trans k_1
  have kh := kh.trans k_1
  refine boxV fun h_2 bx_2 k_2 => ?_
  have d_1q_2 : h.size ≠ h_1.size := Nat.ne_of_lt bx_1.lt
  have o_2 : h0.size ≤ h_1.size := k0.le
  have oh_2 : h.size ≤ h_1.size := kh.le
  have lt_2 := bx_2.lt
  have m_2 := k_2.tame
  have bx_1 := bx_1.keep k_2
  have k0 := k0.trans k_2
  have kh := kh.trans k_2
  refine ⟨blkLt (base_add _ _) ((m_2).lt lt_1), ?_⟩
  refine ldA bx_1 (base_add _ _) rfl ?_
  refine gBool_intro rfl ?_
  refine ⟨blkLt (base_add _ _) ((m_2).lt lt_1), ?_⟩
  refine ldA bx_1 (base_add _ _) rfl ?_
  refine gSlice_intro rfl ?_
  refine hc_intro (gnomonref01_From.hv (r0_1.tame (m_1.trans m_2)) rfl) fun v h_3 ⟨k_3, s⟩ => ?_
  obtain ⟨p_3, hp_3⟩ : ∃ p, p = val xs0_1 := ⟨_, rfl⟩
  rw [← hp_3] at s
  replace g := lift_let2 hp_3 g
  obtain ⟨a_3, c_3, rfl, r_3⟩ := s
  refine gSlice_intro rfl (?_)
  have r_3 := r_3.from k0.le
  have m_3 := k_3.tame
  have bx_1 := bx_1.keep k_3
  have bx_2 := bx_2.keep k_3
  have k0 := k0.trans k_3
  have kh := kh.trans k_3
  refine ⟨k_3.preLe (Nat.le_refl _), ?_⟩
  refine hc_intro (gnomonref04_Mk.hs r_3.rd rfl) fun v h_4 ⟨k_4, s⟩ => ?_
  obtain ⟨p_4, hp_4⟩ : ∃ p, p = dz (sg b0_0 p_3) := ⟨_, rfl⟩
  rw [← hp_4] at s
  replace g := lift_let2 hp_4 g
  obtain ⟨a_4, c_4, rfl, r_4⟩ := s
  refine gAgg_intro rfl (uncons_intro (gBool_intro rfl (uncons_intro (gSlice_intro rfl (unnil_intro (?_))))))
  have r_4 := r_4.from k0.le
  have m_4 := k_4.tame
  have bx_1 := bx_1.keep k_4
  have bx_2 := bx_2.keep k_4
  have k0 := k0.trans k_4
  have kh := kh.trans k_4
  refine ⟨k_4.preLe (m_3).le, ?_⟩
  refine stA bx_2 (base_add _ _) rfl fun h_5 bx_2 k_5 m_5 => ?_
  have bx_1 := bx_1.keepB d_1q_2 k_5
  have k0 := KeepB.keep k0 k_5 o_2
  have kh := KeepB.keep kh k_5 oh_2
  refine stA bx_2 (base_add _ _) rfl fun h_6 bx_2 k_6 m_6 => ?_
  have bx_1 := bx_1.keepB d_1q_2 k_6
  have k0 := KeepB.keep k0 k_6 o_2
  have kh := KeepB.keep kh k_6 oh_2
  refine ldA bx_2 (base_add _ _) rfl ?_
  refine gBool_intro rfl ?_
  refine ldA bx_2 (base_add _ _) rfl ?_
  refine gSlice_intro rfl ?_
  exact g _ _ k0 ⟨_, _, rfl, (r_4.tame (m_5.trans m_6))⟩
def v (b0_0 : Bool) (xs0_1 : List Nat) : (Bool × Nat) := D1.v b0_0 xs0_1
theorem hv {h : Hp} {b0_0 : Bool} {a0_1 : Option Addr} {c0_1 l0_1 : Nat} {xs0_1 : List Nat} (r0_1 : Rd h a0_1 c0_1 xs0_1) (e0_1 : l0_1 = xs0_1.length) : HC id #[.agg #[.bool b0_0, .slice a0_1 l0_1 c0_1]] h fun v_ h_ => Keep h h_ ∧ sZD h h_ v_ (v b0_0 xs0_1) :=
  ok (D1.hv (Keep.refl _) r0_1 e0_1 fun v h' k s => ⟨k, s⟩)
end gnomonref04_From

namespace gnomonref04_To
def D1.v (b0_0 : Bool) (X0_1 : Nat) : (Bool × List Nat) :=
  bif b0_0 then
    letV (digs X0_1) fun p_4 =>
    ((decide (((((D.digs X0_1).length : Nat) : Int)) > (0 : Int))), p_4)
  else
    letV (digs X0_1) fun p_5 =>
    (false, p_5)
theorem D1.hv {R : Rt} {h0 h : Hp} (k0 : Keep h0 h) {b0_0 : Bool} {a0_1 : Option Addr} {c0_1 l0_1 : Nat} {X0_1 : Nat} (r0_1 : RdE eU32 h a0_1 c0_1 (D.digs X0_1)) (e0_1 : l0_1 = (D.digs X0_1).length) (g : Post sZW h0 R (D1.v b0_0 X0_1)) : D1.t R b0_0 a0_1 l0_1 c0_1 h := by
  subst e0_1
  have kh := Keep.refl h
  unfold D1.v at g
  unfold D1.t
  refine boxV fun h_1 bx_1 k_1 => ?_
  have o_1 : h0.size ≤ h.size := k0.le
  have oh_1 : h.size ≤ h.size := kh.le
  have lt_1 := bx_1.lt
  have m_1 := k_1.tame
  have k0 := k0.trans k_1
  have kh := kh.trans k_1
  refine boxV fun h_2 bx_2 k_2 => ?_
  have d_1q_2 : h.size ≠ h_1.size := Nat.ne_of_lt bx_1.lt
  have o_2 : h0.size ≤ h_1.size := k0.le
  have oh_2 : h.size ≤ h_1.size := kh.le
  have lt_2 := bx_2.lt
  have m_2 := k_2.tame
  have bx_1 := bx_1.keep k_2
  have k0 := k0.trans k_2
  have kh := kh.trans k_2
  refine ⟨blkLt (base_add _ _) ((m_2).lt lt_1), ?_⟩
  refine ldA bx_1 (base_add _ _) rfl ?_
  refine gBool_intro rfl ?_
  refine lift_bool g (fun q_3 g => ?_) (fun q_3 g => ?_)
  · refine ⟨blkLt (base_add _ _) ((m_2).lt lt_1), ?_⟩
    refine ldA bx_1 (base_add _ _) rfl ?_
    refine gSlice_intro rfl ?_
    refine ⟨blkLt (base_add _ _) ((m_2).lt lt_1), ?_⟩
    refine ldA bx_1 (base_add _ _) rfl ?_
    refine gSlice_intro rfl ?_
    refine hc_intro (gnomonref01_To.hv (r0_1.tame (m_1.trans m_2)) rfl) fun v h_3 ⟨k_3, s⟩ => ?_
    obtain ⟨p_4, hp_4⟩ : ∃ p, p = digs X0_1 := ⟨_, rfl⟩
    rw [← hp_4] at s
    replace g := lift_let2 hp_4 g
    obtain ⟨a_4, c_4, rfl, r_4⟩ := s
    refine gSlice_intro rfl (?_)
    have r_4 := r_4.from k0.le
    have m_3 := k_3.tame
    have bx_1 := bx_1.keep k_3
    have bx_2 := bx_2.keep k_3
    have k0 := k0.trans k_3
    have kh := kh.trans k_3
    refine ⟨k_3.preLe (Nat.le_refl _), ?_⟩
    refine stA bx_2 (base_add _ _) rfl fun h_4 bx_2 k_4 m_4 => ?_
    have bx_1 := bx_1.keepB d_1q_2 k_4
    have k0 := KeepB.keep k0 k_4 o_2
    have kh := KeepB.keep kh k_4 oh_2
    refine stA bx_2 (base_add _ _) rfl fun h_5 bx_2 k_5 m_5 => ?_
    have bx_1 := bx_1.keepB d_1q_2 k_5
    have k0 := KeepB.keep k0 k_5 o_2
    have kh := KeepB.keep kh k_5 oh_2
    refine ldA bx_2 (base_add _ _) rfl ?_
    refine gBool_intro rfl ?_
    refine ldA bx_2 (base_add _ _) rfl ?_
    refine gSlice_intro rfl ?_
    exact g _ _ k0 ⟨_, _, rfl, (r_4.tame (m_4.trans m_5))⟩
  · refine ⟨blkLt (base_add _ _) ((m_2).lt lt_1), ?_⟩
    refine ldA bx_1 (base_add _ _) rfl ?_
    refine gSlice_intro rfl ?_
    refine hc_intro (gnomonref01_To.hv (r0_1.tame (m_1.trans m_2)) rfl) fun v h_3 ⟨k_3, s⟩ => ?_
    obtain ⟨p_5, hp_5⟩ : ∃ p, p = digs X0_1 := ⟨_, rfl⟩
    rw [← hp_5] at s
    replace g := lift_let2 hp_5 g
    obtain ⟨a_5, c_5, rfl, r_5⟩ := s
    refine gSlice_intro rfl (?_)
    have r_5 := r_5.from k0.le
    have m_3 := k_3.tame
    have bx_1 := bx_1.keep k_3
    have bx_2 := bx_2.keep k_3
    have k0 := k0.trans k_3
    have kh := kh.trans k_3
    refine ⟨k_3.preLe (Nat.le_refl _), ?_⟩
    refine stA bx_2 (base_add _ _) rfl fun h_4 bx_2 k_4 m_4 => ?_
    have bx_1 := bx_1.keepB d_1q_2 k_4
    have k0 := KeepB.keep k0 k_4 o_2
    have kh := KeepB.keep kh k_4 oh_2
    refine stA bx_2 (base_add _ _) rfl fun h_5 bx_2 k_5 m_5 => ?_
    have bx_1 := bx_1.keepB d_1q_2 k_5
    have k0 := KeepB.keep k0 k_5 o_2
    have kh := KeepB.keep kh k_5 oh_2
    refine ldA bx_2 (base_add _ _) rfl ?_
    refine gBool_intro rfl ?_
    refine ldA bx_2 (base_add _ _) rfl ?_
    refine gSlice_intro rfl ?_
    exact g _ _ k0 ⟨_, _, rfl, (r_5.tame (m_4.trans m_5))⟩
def v (b0_0 : Bool) (X0_1 : Nat) : (Bool × List Nat) := D1.v b0_0 X0_1
theorem hv {h : Hp} {b0_0 : Bool} {a0_1 : Option Addr} {c0_1 l0_1 : Nat} {X0_1 : Nat} (r0_1 : RdE eU32 h a0_1 c0_1 (D.digs X0_1)) (e0_1 : l0_1 = (D.digs X0_1).length) : HC id #[.agg #[.bool b0_0, .slice a0_1 l0_1 c0_1]] h fun v_ h_ => Keep h h_ ∧ sZW h h_ v_ (v b0_0 X0_1) :=
  ok (D1.hv (Keep.refl _) r0_1 e0_1 fun v h' k s => ⟨k, s⟩)
end gnomonref04_To

end Go.Proofs.YtanlcacaihdceaaGreatDoor.G

/- The reference's whole numbers: from limbs and back. -/
namespace Go.Proofs.YtanlcacaihdceaaGreatDoor.G
open Go.Gv
set_option linter.unusedVariables false
theorem To_v (b : Bool) (X : Nat) : gnomonref04_To.v b X = zz (di (b, X)) := by
  unfold gnomonref04_To.v gnomonref04_To.D1.v
  have e1 : di (b, X) = sg b X := rfl
  rw [e1, zz_sg]
  have e : decide ((((D.digs X).length : Nat) : Int) > 0) = decide (X ≠ 0) := by
    rw [decide_eq_decide]; have := dlenZ X; omega
  simp only [letV, e]
  cases b <;> rfl
section
variable {a b : Option Addr} {c d l m X : Nat} {xs ys : List Nat} {h : Hp} {x y : Int} {p q : Bool}
theorem gnomonref04_From.hs (r : Rd h a c xs) (e : l = xs.length) : HC gnomonref04_From.id #[.agg #[.bool p, .slice a l c]] h fun v h' => Keep h h' ∧ sZD h h' v (dz (zi (p, xs))) := gnomonref04_From.hv r e
theorem gnomonref04_To.hs (r : RdE eU32 h a c (D.digs X)) (e : l = (D.digs X).length) : HC gnomonref04_To.id #[.agg #[.bool p, .slice a l c]] h fun v h' => Keep h h' ∧ sZW h h' v (zz (di (p, X))) := by rw [← To_v]; exact gnomonref04_To.hv r e
end
end Go.Proofs.YtanlcacaihdceaaGreatDoor.G

/- Functions without loops as functions of values. Written by a program of this work. -/
namespace Go.Proofs.YtanlcacaihdceaaGreatDoor.G
open Go.Gv
set_option linter.unusedVariables false
set_option maxRecDepth 100000

namespace gnomonlaw04_awake
def D2.v (x2 : Int) (b3_0 : Bool) (xs3_1 : List Nat) (x4 : Int) : Bool :=
  letV (smaS (b3_0, xs3_1)) fun p_8 =>
  bif (x2 == (0 : Int)) then
    bif (x4 == (0 : Int)) then
      bif (p_8.2 == (0 : Int)) then
        bif (p_8.1 == (-14 : Int)) then
          bif (((cmpZ (zi (b3_0, xs3_1)) 0)) == (-1 : Int)) then
            (decide (FrmZ (b3_0, xs3_1)))
          else
            false
        else
          false
      else
        false
    else
      false
  else
    false
theorem D2.hv {R : Rt} {h0 h : Hp} (k0 : Keep h0 h) {x2 : Int} (i2 : In .i64 x2) {b3_0 : Bool} {a3_1 : Option Addr} {c3_1 : Nat} {xs3_1 : List Nat} (r3_1 : GotE eU64 h0 h a3_1 c3_1 xs3_1) {B3 : Nat} (bx3 : BlkV h B3 [.bool b3_0, .slice a3_1 xs3_1.length c3_1]) (o3 : h0.size ≤ B3) {x4 : Int} (i4 : In .i64 x4) (g : Post sBool h0 R (D2.v x2 b3_0 xs3_1 x4)) : D2.t R x2 (⟨B3, 0, none⟩ : Addr) x4 h := by
  have kh := Keep.refl h
  have lt3 := bx3.lt
  unfold D2.v at g
  unfold D2.t
  refine ldA bx3 (base_add _ _) rfl ?_
  refine gBool_intro rfl ?_
  refine ldA bx3 (base_add _ _) rfl ?_
  refine gSlice_intro rfl ?_
  refine hc_intro (num_Small.hs r3_1.rd64 rfl) fun v h_1 ⟨k_1, s⟩ => ?_
  obtain ⟨p_8, hp_8⟩ : ∃ p, p = smaS (b3_0, xs3_1) := ⟨_, rfl⟩
  rw [← hp_8] at s
  replace g := lift_let2 hp_8 g
  obtain ⟨_, _, rfl, ⟨rfl, i_8_0⟩, ⟨rfl, i_8_1⟩⟩ := s
  refine gTup_intro rfl (uncons_intro (gInt_intro rfl (uncons_intro (gInt_intro rfl (unnil_intro (?_))))))
  have m_1 := k_1.tame
  have bx3 := bx3.keep k_1
  have k0 := k0.trans k_1
  have kh := kh.trans k_1
  refine lift_eq g (fun q_9 g => ?_) (fun q_9 g => ?_)
  · refine lift_eq g (fun q_10 g => ?_) (fun q_10 g => ?_)
    · refine lift_eq g (fun q_11 g => ?_) (fun q_11 g => ?_)
      · refine lift_eq g (fun q_12 g => ?_) (fun q_12 g => ?_)
        · refine ldA bx3 (base_add _ _) rfl ?_
          refine gBool_intro rfl ?_
          refine ldA bx3 (base_add _ _) rfl ?_
          refine gSlice_intro rfl ?_
          refine hc_intro (num_Sign.hs (r3_1.tame (m_1)).rd64 rfl) fun v h_2 ⟨k_2, s⟩ => ?_
          obtain ⟨rfl, i_13⟩ := s
          refine gInt_intro rfl (?_)
          have m_2 := k_2.tame
          have bx3 := bx3.keep k_2
          have k0 := k0.trans k_2
          have kh := kh.trans k_2
          refine lift_eq g (fun q_14 g => ?_) (fun q_14 g => ?_)
          · refine ldA bx3 (base_add _ _) rfl ?_
            refine gBool_intro rfl ?_
            refine ldA bx3 (base_add _ _) rfl ?_
            refine gSlice_intro rfl ?_
            refine hc_intro (num_Form.hs (r3_1.tame (m_1.trans m_2)).rd64 rfl) fun v h_3 ⟨k_3, s⟩ => ?_
            obtain rfl := s
            refine gBool_intro rfl (?_)
            have m_3 := k_3.tame
            have bx3 := bx3.keep k_3
            have k0 := k0.trans k_3
            have kh := kh.trans k_3
            exact g _ _ k0 rfl
          · exact g _ _ k0 rfl
        · exact g _ _ k0 rfl
      · exact g _ _ k0 rfl
    · exact g _ _ k0 rfl
  · exact g _ _ k0 rfl
def D1.v  : Bool :=
  letV (zz (-5 : Int)) fun p_1 =>
  letV (zz (3 : Int)) fun p_2 =>
  letV (twoZ addI (p_1.1, p_1.2) (p_2.1, p_2.2)) fun p_3 =>
  letV (zz (7 : Int)) fun p_5 =>
  letV (twoZ mulI (p_3.1.1, p_3.1.2) (p_5.1, p_5.2)) fun p_6 =>
  D2.v p_3.2 p_6.1.1 p_6.1.2 p_6.2
theorem D1.hv {R : Rt} {h0 h : Hp} (k0 : Keep h0 h)  (g : Post sBool h0 R (D1.v )) : D1.t R  h := by
  have kh := Keep.refl h
  unfold D1.v at g
  unfold D1.t
  refine hc_intro (num_Of.hs (show In .i64 (-5 : Int) by decide)) fun v h_1 ⟨k_1, s⟩ => ?_
  obtain ⟨p_1, hp_1⟩ : ∃ p, p = zz (-5 : Int) := ⟨_, rfl⟩
  rw [← hp_1] at s
  replace g := lift_let2 hp_1 g
  obtain ⟨a_1, c_1, rfl, r_1⟩ := s
  refine gAgg_intro rfl (uncons_intro (gBool_intro rfl (uncons_intro (gSlice_intro rfl (unnil_intro (?_))))))
  have r_1 := r_1.from k0.le
  have m_1 := k_1.tame
  have k0 := k0.trans k_1
  have kh := kh.trans k_1
  refine hc_intro (num_Of.hs (show In .i64 (3 : Int) by decide)) fun v h_2 ⟨k_2, s⟩ => ?_
  obtain ⟨p_2, hp_2⟩ : ∃ p, p = zz (3 : Int) := ⟨_, rfl⟩
  rw [← hp_2] at s
  replace g := lift_let2 hp_2 g
  obtain ⟨a_2, c_2, rfl, r_2⟩ := s
  refine gAgg_intro rfl (uncons_intro (gBool_intro rfl (uncons_intro (gSlice_intro rfl (unnil_intro (?_))))))
  have r_2 := r_2.from k0.le
  have m_2 := k_2.tame
  have k0 := k0.trans k_2
  have kh := kh.trans k_2
  refine hc_intro (num_Add.hs (r_1.tame (m_2)).rd64 rfl r_2.rd64 rfl) fun v h_3 ⟨k_3, s⟩ => ?_
  obtain ⟨p_3, hp_3⟩ : ∃ p, p = twoZ addI (p_1.1, p_1.2) (p_2.1, p_2.2) := ⟨_, rfl⟩
  rw [← hp_3] at s
  replace g := lift_let2 hp_3 g
  obtain ⟨_, _, rfl, ⟨a_3_0, c_3_0, rfl, r_3_0⟩, ⟨rfl, i_3_1⟩⟩ := s
  refine gTup_intro rfl (uncons_intro (gAgg_intro rfl (uncons_intro (gBool_intro rfl (uncons_intro (gSlice_intro rfl (unnil_intro (uncons_intro (gInt_intro rfl (unnil_intro (?_)))))))))))
  have r_3_0 := r_3_0.from k0.le
  have m_3 := k_3.tame
  have k0 := k0.trans k_3
  have kh := kh.trans k_3
  refine boxV fun h_4 bx_4 k_4 => ?_
  have o_4 : h0.size ≤ h_3.size := k0.le
  have oh_4 : h.size ≤ h_3.size := kh.le
  have lt_4 := bx_4.lt
  have m_4 := k_4.tame
  have k0 := k0.trans k_4
  have kh := kh.trans k_4
  refine stA bx_4 (base_add _ _) rfl fun h_5 bx_4 k_5 m_5 => ?_
  have k0 := KeepB.keep k0 k_5 o_4
  have kh := KeepB.keep kh k_5 oh_4
  refine stA bx_4 (base_add _ _) rfl fun h_6 bx_4 k_6 m_6 => ?_
  have k0 := KeepB.keep k0 k_6 o_4
  have kh := KeepB.keep kh k_6 oh_4
  refine ⟨blkLt rfl ((m_5.trans m_6).lt lt_4), ?_⟩
  refine ldA bx_4 (base_add _ _) rfl ?_
  refine gBool_intro rfl ?_
  refine ldA bx_4 (base_add _ _) rfl ?_
  refine gSlice_intro rfl ?_
  refine ⟨?_, ?_⟩
  · refine hc_intro (num_Of.hs (show In .i64 (7 : Int) by decide)) fun v h_7 ⟨k_7, s⟩ => ?_
    obtain ⟨p_5, hp_5⟩ : ∃ p, p = zz (7 : Int) := ⟨_, rfl⟩
    rw [← hp_5] at s
    replace g := lift_let2 hp_5 g
    obtain ⟨a_5, c_5, rfl, r_5⟩ := s
    refine gAgg_intro rfl (uncons_intro (gBool_intro rfl (uncons_intro (gSlice_intro rfl (unnil_intro (?_))))))
    have r_5 := r_5.from k0.le
    have m_7 := k_7.tame
    have bx_4 := bx_4.keep k_7
    have k0 := k0.trans k_7
    have kh := kh.trans k_7
    refine ⟨k_7.preLe (Nat.le_refl _), ?_⟩
    refine ⟨?_, ?_⟩
    · refine hc_intro (num_Mul.hs (r_3_0.tame (m_4.trans (m_5.trans (m_6.trans m_7)))).rd64 rfl r_5.rd64 rfl) fun v h_8 ⟨k_8, s⟩ => ?_
      obtain ⟨p_6, hp_6⟩ : ∃ p, p = twoZ mulI (p_3.1.1, p_3.1.2) (p_5.1, p_5.2) := ⟨_, rfl⟩
      rw [← hp_6] at s
      replace g := lift_let2 hp_6 g
      obtain ⟨_, _, rfl, ⟨a_6_0, c_6_0, rfl, r_6_0⟩, ⟨rfl, i_6_1⟩⟩ := s
      refine gTup_intro rfl (uncons_intro (gAgg_intro rfl (uncons_intro (gBool_intro rfl (uncons_intro (gSlice_intro rfl (unnil_intro (uncons_intro (gInt_intro rfl (unnil_intro (?_)))))))))))
      have r_6_0 := r_6_0.from k0.le
      have m_8 := k_8.tame
      have bx_4 := bx_4.keep k_8
      have k0 := k0.trans k_8
      have kh := kh.trans k_8
      refine ⟨k_8.preLe (m_7).le, ?_⟩
      refine boxV fun h_9 bx_7 k_9 => ?_
      have d_4q_7 : h_3.size ≠ h_8.size := Nat.ne_of_lt bx_4.lt
      have o_7 : h0.size ≤ h_8.size := k0.le
      have oh_7 : h.size ≤ h_8.size := kh.le
      have lt_7 := bx_7.lt
      have m_9 := k_9.tame
      have bx_4 := bx_4.keep k_9
      have k0 := k0.trans k_9
      have kh := kh.trans k_9
      refine ⟨k_9.preLe (m_7.trans m_8).le, ?_⟩
      refine stA bx_7 (base_add _ _) rfl fun h_10 bx_7 k_10 m_10 => ?_
      have bx_4 := bx_4.keepB d_4q_7 k_10
      have k0 := KeepB.keep k0 k_10 o_7
      have kh := KeepB.keep kh k_10 oh_7
      refine stA bx_7 (base_add _ _) rfl fun h_11 bx_7 k_11 m_11 => ?_
      have bx_4 := bx_4.keepB d_4q_7 k_11
      have k0 := KeepB.keep k0 k_11 o_7
      have kh := KeepB.keep kh k_11 oh_7
      exact D2.hv k0 i_3_1 (r_6_0.tame (m_9.trans (m_10.trans m_11))) bx_7 o_7 i_6_1 g
    · refine boxV fun h_8 bx_16 k_8 => ?_
      have d_4q_16 : h_3.size ≠ h_7.size := Nat.ne_of_lt bx_4.lt
      have o_16 : h0.size ≤ h_7.size := k0.le
      have oh_16 : h.size ≤ h_7.size := kh.le
      have lt_16 := bx_16.lt
      have m_8 := k_8.tame
      have bx_4 := bx_4.keep k_8
      have k0 := k0.trans k_8
      have kh := kh.trans k_8
      refine ⟨k_8.preLe (m_7).le, ?_⟩
      refine hc_intro (num_Mul.hs (r_3_0.tame (m_4.trans (m_5.trans (m_6.trans (m_7.trans m_8))))).rd64 rfl (r_5.tame (m_8)).rd64 rfl) fun v h_9 ⟨k_9, s⟩ => ?_
      obtain ⟨p_17, hp_17⟩ : ∃ p, p = twoZ mulI (p_3.1.1, p_3.1.2) (p_5.1, p_5.2) := ⟨_, rfl⟩
      rw [← hp_17] at s
      replace g := lift_let2 hp_17 g
      obtain ⟨_, _, rfl, ⟨a_17_0, c_17_0, rfl, r_17_0⟩, ⟨rfl, i_17_1⟩⟩ := s
      refine gTup_intro rfl (uncons_intro (gAgg_intro rfl (uncons_intro (gBool_intro rfl (uncons_intro (gSlice_intro rfl (unnil_intro (uncons_intro (gInt_intro rfl (unnil_intro (?_)))))))))))
      have r_17_0 := r_17_0.from k0.le
      have m_9 := k_9.tame
      have bx_4 := bx_4.keep k_9
      have bx_16 := bx_16.keep k_9
      have k0 := k0.trans k_9
      have kh := kh.trans k_9
      refine ⟨k_9.preLe (m_7.trans m_8).le, ?_⟩
      refine stA bx_16 (base_add _ _) rfl fun h_10 bx_16 k_10 m_10 => ?_
      have bx_4 := bx_4.keepB d_4q_16 k_10
      have k0 := KeepB.keep k0 k_10 o_16
      have kh := KeepB.keep kh k_10 oh_16
      refine stA bx_16 (base_add _ _) rfl fun h_11 bx_16 k_11 m_11 => ?_
      have bx_4 := bx_4.keepB d_4q_16 k_11
      have k0 := KeepB.keep k0 k_11 o_16
      have kh := KeepB.keep kh k_11 oh_16
      exact D2.hv k0 i_3_1 (r_17_0.tame (m_10.trans m_11)) bx_16 o_16 i_17_1 g
  · refine boxV fun h_7 bx_18 k_7 => ?_
    have d_4q_18 : h_3.size ≠ h_6.size := Nat.ne_of_lt bx_4.lt
    have o_18 : h0.size ≤ h_6.size := k0.le
    have oh_18 : h.size ≤ h_6.size := kh.le
    have lt_18 := bx_18.lt
    have m_7 := k_7.tame
    have bx_4 := bx_4.keep k_7
    have k0 := k0.trans k_7
    have kh := kh.trans k_7
    refine ⟨k_7.preLe (Nat.le_refl _), ?_⟩
    refine hc_intro (num_Of.hs (show In .i64 (7 : Int) by decide)) fun v h_8 ⟨k_8, s⟩ => ?_
    obtain ⟨p_19, hp_19⟩ : ∃ p, p = zz (7 : Int) := ⟨_, rfl⟩
    rw [← hp_19] at s
    replace g := lift_let2 hp_19 g
    obtain ⟨a_19, c_19, rfl, r_19⟩ := s
    refine gAgg_intro rfl (uncons_intro (gBool_intro rfl (uncons_intro (gSlice_intro rfl (unnil_intro (?_))))))
    have r_19 := r_19.from k0.le
    have m_8 := k_8.tame
    have bx_4 := bx_4.keep k_8
    have bx_18 := bx_18.keep k_8
    have k0 := k0.trans k_8
    have kh := kh.trans k_8
    refine ⟨k_8.preLe (m_7).le, ?_⟩
    refine hc_intro (num_Mul.hs (r_3_0.tame (m_4.trans (m_5.trans (m_6.trans (m_7.trans m_8))))).rd64 rfl r_19.rd64 rfl) fun v h_9 ⟨k_9, s⟩ => ?_
    obtain ⟨p_20, hp_20⟩ : ∃ p, p = twoZ mulI (p_3.1.1, p_3.1.2) (p_19.1, p_19.2) := ⟨_, rfl⟩
    rw [← hp_20] at s
    replace g := lift_let2 hp_20 g
    obtain ⟨_, _, rfl, ⟨a_20_0, c_20_0, rfl, r_20_0⟩, ⟨rfl, i_20_1⟩⟩ := s
    refine gTup_intro rfl (uncons_intro (gAgg_intro rfl (uncons_intro (gBool_intro rfl (uncons_intro (gSlice_intro rfl (unnil_intro (uncons_intro (gInt_intro rfl (unnil_intro (?_)))))))))))
    have r_20_0 := r_20_0.from k0.le
    have m_9 := k_9.tame
    have bx_4 := bx_4.keep k_9
    have bx_18 := bx_18.keep k_9
    have k0 := k0.trans k_9
    have kh := kh.trans k_9
    refine ⟨k_9.preLe (m_7.trans m_8).le, ?_⟩
    refine stA bx_18 (base_add _ _) rfl fun h_10 bx_18 k_10 m_10 => ?_
    have bx_4 := bx_4.keepB d_4q_18 k_10
    have k0 := KeepB.keep k0 k_10 o_18
    have kh := KeepB.keep kh k_10 oh_18
    refine stA bx_18 (base_add _ _) rfl fun h_11 bx_18 k_11 m_11 => ?_
    have bx_4 := bx_4.keepB d_4q_18 k_11
    have k0 := KeepB.keep k0 k_11 o_18
    have kh := KeepB.keep kh k_11 oh_18
    exact D2.hv k0 i_3_1 (r_20_0.tame (m_10.trans m_11)) bx_18 o_18 i_20_1 g
def v  : Bool := D1.v 
theorem hv {h : Hp}  : HC id #[] h fun v_ h_ => Keep h h_ ∧ sBool h h_ v_ (v) :=
  ok (D1.hv (Keep.refl _)  fun v h' k s => ⟨k, s⟩)
end gnomonlaw04_awake


end Go.Proofs.YtanlcacaihdceaaGreatDoor.G

/- Whole numbers: sums, products, quotients and shifts of numbers in form: plain law. -/
namespace Go.Proofs.YtanlcacaihdceaaGreatDoor.G
open Go.Gv
set_option linter.unusedVariables false
/-! ### answers of numbers in form -/
theorem eta2 (p : Zw) : (p.1, p.2) = p := rfl
theorem sm_small {i : Int} (h : i.natAbs < 340282366920938463463374607431768211456) : SmZ i := by
  unfold SmZ
  have : (digs i.natAbs).length ≤ 2 := digs_len.mpr (by simpa using h)
  omega
end Go.Proofs.YtanlcacaihdceaaGreatDoor.G

/- Layer 4: numbers brought into form; the calls whose answers are fixed. -/
namespace Go.Proofs.YtanlcacaihdceaaGreatDoor.G
open Go.Gv
set_option linter.unusedVariables false
set_option maxRecDepth 100000
section
variable {a : Option Addr} {c l : Nat} {xs : List Nat} {h : Hp} {x : Int} {p : Bool}
end
theorem awake4_true : gnomonlaw04_awake.v = true := by
  have s : ∀ i : Int, i.natAbs < 18446744073709551616 → SmZ i := fun i h => sm_small (by omega)
  have f : ∀ i : Int, i.natAbs < 18446744073709551616 → FrmZ (zz i) := fun i h => frm_zz (s i h)
  have t : ∀ (g : Int → Int → Int) (i j : Int), i.natAbs < 18446744073709551616 → j.natAbs < 18446744073709551616 → (g i j).natAbs < 18446744073709551616 → twoZ g (zz i) (zz j) = (zz (g i j), 0) := by
    intro g i j h1 h2 h3
    unfold twoZ
    rw [if_pos ⟨f i h1, f j h2⟩, zi_zz, zi_zz, zlim_ok (s _ h3)]
  unfold gnomonlaw04_awake.v gnomonlaw04_awake.D1.v
  simp only [letV]
  have e1 : twoZ addI ((zz (-5)).1, (zz (-5)).2) ((zz 3).1, (zz 3).2) = (zz (-2), 0) := t addI (-5) 3 (by decide) (by decide) (by decide)
  rw [e1]
  have e2 : twoZ mulI ((zz (-2), (0 : Int)).1.1, (zz (-2), (0 : Int)).1.2) ((zz 7).1, (zz 7).2) = (zz (-14), 0) := t mulI (-2) 7 (by decide) (by decide) (by decide)
  rw [e2]
  unfold gnomonlaw04_awake.D2.v
  have f14 : FrmZ ((zz (-14)).1, (zz (-14)).2) := f (-14) (by decide)
  have z14 : zi ((zz (-14)).1, (zz (-14)).2) = -14 := zi_zz (-14)
  have e3 : smaS ((zz (-14)).1, (zz (-14)).2) = (-14, 0) := by
    unfold smaS
    rw [if_pos f14, z14]; rfl
  simp only [letV, e3, z14]
  rw [show cmpZ (-14) 0 = -1 from rfl]
  simp only [decide_eq_true f14]; rfl
theorem awake_hs {h : Hp} : HC gnomonlaw04_awake.id #[] h fun v h' => Keep h h' ∧ sBool h h' v true := by
  have := gnomonlaw04_awake.hv (h := h)
  rw [awake4_true] at this; exact this
end Go.Proofs.YtanlcacaihdceaaGreatDoor.G

/- Layer 4: a whole number as an argument. -/
namespace Go.Proofs.YtanlcacaihdceaaGreatDoor.G
open Go.Gv
set_option linter.unusedVariables false
set_option maxRecDepth 100000
/-! ### the laws -/
theorem says_oneZ {α β : Type} {S : Says α} {T : Says β} {h : Hp} {cs : List Value} {p : α × β} (z : saysCons S 1 T h cs p) : ∃ c rest, cs = c :: rest ∧ S h [c] p.1 ∧ T h rest p.2 := by
  obtain ⟨l, s, t⟩ := z
  cases cs with
  | nil => simp at l
  | cons c r => exact ⟨c, r, rfl, s, t⟩
abbrev saysInt4 : Says (Bool × List Nat × Unit) := saysCons saysBool 1 (saysCons saysWords 1 saysEnd)
theorem int4_open {h : Hp} {cs : Array Value} {x : Bool × List Nat × Unit} (z : saysInt4 h cs.toList x) : ∃ a c, cs = #[.bool x.1, .slice a x.2.1.length c] ∧ Rd h a c x.2.1 := by
  obtain ⟨v0, t0, e0, f0, z⟩ := says_oneZ z
  obtain ⟨v1, t1, e1, ⟨a1, c1, f1, r1, _⟩, z⟩ := says_oneZ z
  have z : t1 = [] := z
  have f0 : [v0] = [.bool x.1] := f0
  simp only [List.cons.injEq, and_true] at f0 f1
  subst f0 f1
  rw [e1, z] at e0
  exact ⟨a1, c1, Array.toList_inj.mp e0, r1⟩
end Go.Proofs.YtanlcacaihdceaaGreatDoor.G

/- The reference's digits with bounds on their number, in the form that the lifted functions use. -/
namespace Go.Proofs.YtanlcacaihdceaaGreatDoor.G
open Go.Gv
set_option linter.unusedVariables false
theorem bdLe {X Y : Nat} (h : X ≤ Y) : (D.digs X).length ≤ (D.digs Y).length := D.digs_len_mono h
theorem bdMul (X Y : Nat) : (D.digs (X * Y)).length ≤ (D.digs X).length + (D.digs Y).length := by
  have hX := (D.digs_len (n := X)).mp (Nat.le_refl _)
  have hY := (D.digs_len (n := Y)).mp (Nat.le_refl _)
  rw [D.digs_len, Nat.mul_add, Nat.pow_add]
  exact Nat.mul_lt_mul'' hX hY
theorem bdAdd (X Y : Nat) : (D.digs (X + Y)).length ≤ (D.digs X).length + (D.digs Y).length + 1 := by
  have hX := (D.digs_len (n := X)).mp (Nat.le_refl _)
  have hY := (D.digs_len (n := Y)).mp (Nat.le_refl _)
  rw [D.digs_len]
  generalize (D.digs X).length = j at *
  generalize (D.digs Y).length = k at *
  have h1 : 2 ^ (32 * j) ≤ 2 ^ (32 * (j + k)) := Nat.pow_le_pow_right (by decide) (by omega)
  have h2 : 2 ^ (32 * k) ≤ 2 ^ (32 * (j + k)) := Nat.pow_le_pow_right (by decide) (by omega)
  have h3 : 2 * 2 ^ (32 * (j + k)) ≤ 2 ^ (32 * (j + k + 1)) := by
    have : (2 : Nat) * 2 ^ (32 * (j + k)) = 2 ^ (32 * (j + k) + 1) := by rw [Nat.pow_succ]; omega
    rw [this]; exact Nat.pow_le_pow_right (by decide) (by omega)
  omega
theorem frmZ_len (b : Bool) (xs : List Nat) : decide (FrmZ (b, xs)) = true → xs.length ≤ 8192 := fun h => (of_decide_eq_true h).1.1
theorem di_abs (b : Bool) (X : Nat) : (di (b, X)).natAbs = X := sg_abs b X
theorem bz_of {i : Int} {n : Nat} (h : i.natAbs ≤ n) : (D.digs (dz i).2).length ≤ (D.digs n).length := D.digs_len_mono h
theorem bzMk (b : Bool) (X : Nat) : (D.digs (dz (sg b X)).2).length ≤ (D.digs X).length := bz_of (by rw [sg_abs]; exact Nat.le_refl _)
theorem bzFrom (b : Bool) {xs : List Nat} (hw : Words xs) : (D.digs (dz (zi (b, xs))).2).length ≤ 2 * xs.length := by
  show (D.digs (zi (b, xs)).natAbs).length ≤ _
  rw [zi_abs]
  exact (dlen_two _ _).mpr (digs_len.mpr (val_lt hw))
theorem bzNeg (b : Bool) (X : Nat) : (D.digs (dz (-di (b, X))).2).length ≤ (D.digs X).length := bz_of (by rw [Int.natAbs_neg, di_abs]; exact Nat.le_refl _)
theorem bzAdd (b : Bool) (X : Nat) (c : Bool) (Y : Nat) : (D.digs (dz (di (b, X) + di (c, Y))).2).length ≤ (D.digs X).length + (D.digs Y).length + 1 :=
  Nat.le_trans (bz_of (n := X + Y) (by have := Int.natAbs_add_le (di (b, X)) (di (c, Y)); rw [di_abs, di_abs] at this; exact this)) (bdAdd X Y)
theorem bzSub (b : Bool) (X : Nat) (c : Bool) (Y : Nat) : (D.digs (dz (di (b, X) - di (c, Y))).2).length ≤ (D.digs X).length + (D.digs Y).length + 1 :=
  Nat.le_trans (bz_of (n := X + Y) (by have := Int.natAbs_sub_le (di (b, X)) (di (c, Y)); rw [di_abs, di_abs] at this; exact this)) (bdAdd X Y)
theorem bzMul (b : Bool) (X : Nat) (c : Bool) (Y : Nat) : (D.digs (dz (di (b, X) * di (c, Y))).2).length ≤ (D.digs X).length + (D.digs Y).length :=
  Nat.le_trans (bz_of (n := X * Y) (by rw [Int.natAbs_mul, di_abs, di_abs]; exact Nat.le_refl _)) (bdMul X Y)
section
variable {a b : Option Addr} {c d l m X Y : Nat} {xs ys : List Nat} {h : Hp} {x y : Int}
theorem gnomonref01_Add.hv (r : RdE eU32 h a c (D.digs X)) (e : l = (D.digs X).length) (s : RdE eU32 h b d (D.digs Y)) (f : m = (D.digs Y).length) (w1 : (D.digs X).length ≤ 100000000) (w2 : (D.digs Y).length ≤ 100000000) : HC gnomonref01_Add.id #[.slice a l c, .slice b m d] h fun v h' => Keep h h' ∧ sD h h' v (X + Y) := rAdd_spec r s e f (by omega) (by omega)
theorem gnomonref01_Sub.hv (r : RdE eU32 h a c (D.digs X)) (e : l = (D.digs X).length) (s : RdE eU32 h b d (D.digs Y)) (f : m = (D.digs Y).length) : HC gnomonref01_Sub.id #[.slice a l c, .slice b m d] h fun v h' => Keep h h' ∧ sD h h' v (X - Y) := rSub_spec r s e f
theorem gnomonref01_Mul.hv (r : RdE eU32 h a c (D.digs X)) (e : l = (D.digs X).length) (s : RdE eU32 h b d (D.digs Y)) (f : m = (D.digs Y).length) (w1 : (D.digs X).length ≤ 100000000) (w2 : (D.digs Y).length ≤ 100000000) : HC gnomonref01_Mul.id #[.slice a l c, .slice b m d] h fun v h' => Keep h h' ∧ sD h h' v (X * Y) := rMul_spec r s e f (by omega) (by omega)
theorem gnomonref01_Cmp.hv (r : RdE eU32 h a c (D.digs X)) (e : l = (D.digs X).length) (s : RdE eU32 h b d (D.digs Y)) (f : m = (D.digs Y).length) : HC gnomonref01_Cmp.id #[.slice a l c, .slice b m d] h fun v h' => Keep h h' ∧ sI .i64 h h' v (cmpI X Y) := same_heap (rCmp_spec r s e f) fun v s => ⟨s, cmp_in _ _⟩
end
end Go.Proofs.YtanlcacaihdceaaGreatDoor.G

/- Functions without loops as functions of values. Written by a program of this work. -/
namespace Go.Proofs.YtanlcacaihdceaaGreatDoor.G
open Go.Gv
set_option linter.unusedVariables false
set_option maxRecDepth 100000
namespace gnomonref04_Sign
def D1.v (b0_0 : Bool) (X0_1 : Nat) : Int :=
  bif (((((D.digs X0_1).length : Nat) : Int)) == (0 : Int)) then
    (0 : Int)
  else
    bif b0_0 then
      (-1 : Int)
    else
      (1 : Int)
theorem D1.hv {R : Rt} {h0 h : Hp} (k0 : Keep h0 h) {b0_0 : Bool} {a0_1 : Option Addr} {c0_1 l0_1 : Nat} {X0_1 : Nat} (r0_1 : RdE eU32 h a0_1 c0_1 (D.digs X0_1)) (e0_1 : l0_1 = (D.digs X0_1).length) (g : Post (sI .i64) h0 R (D1.v b0_0 X0_1)) : D1.t R b0_0 a0_1 l0_1 c0_1 h := by
  subst e0_1
  have kh := Keep.refl h
  unfold D1.v at g
  unfold D1.t
  refine boxV fun h_1 bx_1 k_1 => ?_
  have o_1 : h0.size ≤ h.size := k0.le
  have oh_1 : h.size ≤ h.size := kh.le
  have lt_1 := bx_1.lt
  have m_1 := k_1.tame
  have k0 := k0.trans k_1
  have kh := kh.trans k_1
  refine ldA bx_1 (base_add _ _) rfl ?_
  refine gSlice_intro rfl ?_
  refine lift_eq g (fun q_2 g => ?_) (fun q_2 g => ?_)
  · exact g _ _ k0 ⟨rfl, (show In .i64 (0 : Int) by decide)⟩
  · refine ldA bx_1 (base_add _ _) rfl ?_
    refine gBool_intro rfl ?_
    refine lift_bool g (fun q_3 g => ?_) (fun q_3 g => ?_)
    · exact g _ _ k0 ⟨rfl, (show In .i64 (-1 : Int) by decide)⟩
    · exact g _ _ k0 ⟨rfl, (show In .i64 (1 : Int) by decide)⟩
def v (b0_0 : Bool) (X0_1 : Nat) : Int := D1.v b0_0 X0_1
theorem hv {h : Hp} {b0_0 : Bool} {a0_1 : Option Addr} {c0_1 l0_1 : Nat} {X0_1 : Nat} (r0_1 : RdE eU32 h a0_1 c0_1 (D.digs X0_1)) (e0_1 : l0_1 = (D.digs X0_1).length) : HC id #[.agg #[.bool b0_0, .slice a0_1 l0_1 c0_1]] h fun v_ h_ => Keep h h_ ∧ (sI .i64) h h_ v_ (v b0_0 X0_1) :=
  ok (D1.hv (Keep.refl _) r0_1 e0_1 fun v h' k s => ⟨k, s⟩)
end gnomonref04_Sign

namespace gnomonref04_Flip
def D1.v (b0_0 : Bool) (X0_1 : Nat) : (Bool × Nat) :=
  letV (dz (sg (!b0_0) X0_1)) fun p_3 =>
  (p_3.1, p_3.2)
theorem D1.hv {R : Rt} {h0 h : Hp} (k0 : Keep h0 h) {b0_0 : Bool} {a0_1 : Option Addr} {c0_1 l0_1 : Nat} {X0_1 : Nat} (r0_1 : RdE eU32 h a0_1 c0_1 (D.digs X0_1)) (e0_1 : l0_1 = (D.digs X0_1).length) (g : Post sZD h0 R (D1.v b0_0 X0_1)) : D1.t R b0_0 a0_1 l0_1 c0_1 h := by
  subst e0_1
  have kh := Keep.refl h
  unfold D1.v at g
  unfold D1.t
  refine boxV fun h_1 bx_1 k_1 => ?_
  have o_1 : h0.size ≤ h.size := k0.le
  have oh_1 : h.size ≤ h.size := kh.le
  have lt_1 := bx_1.lt
  have m_1 := k_1.tame
  have k0 := k0.trans k_1
  have kh := kh.trans k_1
  refine boxV fun h_2 bx_2 k_2 => ?_
  have d_1q_2 : h.size ≠ h_1.size := Nat.ne_of_lt bx_1.lt
  have bx_2 : BlkV h_2 (h_1.size) [.bool false, .slice none (D.digs 0).length 0] := by rw [D.digs_zero]; exact bx_2
  have o_2 : h0.size ≤ h_1.size := k0.le
  have oh_2 : h.size ≤ h_1.size := kh.le
  have lt_2 := bx_2.lt
  have m_2 := k_2.tame
  have bx_1 := bx_1.keep k_2
  have k0 := k0.trans k_2
  have kh := kh.trans k_2
  refine ldA bx_1 (base_add _ _) rfl ?_
  refine gBool_intro rfl ?_
  refine ldA bx_1 (base_add _ _) rfl ?_
  refine gSlice_intro rfl ?_
  refine hc_intro (gnomonref04_Mk.hs (r0_1.tame (m_1.trans m_2)) rfl) fun v h_3 ⟨k_3, s⟩ => ?_
  obtain ⟨p_3, hp_3⟩ : ∃ p, p = dz (sg (!b0_0) X0_1) := ⟨_, rfl⟩
  rw [← hp_3] at s
  replace g := lift_let2 hp_3 g
  have w_3 := bzMk (!b0_0) X0_1
  rw [← hp_3] at w_3
  obtain ⟨a_3, c_3, rfl, r_3⟩ := s
  refine gAgg_intro rfl (uncons_intro (gBool_intro rfl (uncons_intro (gSlice_intro rfl (unnil_intro (?_))))))
  have r_3 := r_3.from k0.le
  have m_3 := k_3.tame
  have bx_1 := bx_1.keep k_3
  have bx_2 := bx_2.keep k_3
  have k0 := k0.trans k_3
  have kh := kh.trans k_3
  refine stA bx_2 (base_add _ _) rfl fun h_4 bx_2 k_4 m_4 => ?_
  have bx_1 := bx_1.keepB d_1q_2 k_4
  have k0 := KeepB.keep k0 k_4 o_2
  have kh := KeepB.keep kh k_4 oh_2
  refine stA bx_2 (base_add _ _) rfl fun h_5 bx_2 k_5 m_5 => ?_
  have bx_1 := bx_1.keepB d_1q_2 k_5
  have k0 := KeepB.keep k0 k_5 o_2
  have kh := KeepB.keep kh k_5 oh_2
  refine ldA bx_2 (base_add _ _) rfl ?_
  refine gBool_intro rfl ?_
  refine ldA bx_2 (base_add _ _) rfl ?_
  refine gSlice_intro rfl ?_
  exact g _ _ k0 ⟨_, _, rfl, (r_3.tame (m_4.trans m_5))⟩
def v (b0_0 : Bool) (X0_1 : Nat) : (Bool × Nat) := D1.v b0_0 X0_1
theorem hv {h : Hp} {b0_0 : Bool} {a0_1 : Option Addr} {c0_1 l0_1 : Nat} {X0_1 : Nat} (r0_1 : RdE eU32 h a0_1 c0_1 (D.digs X0_1)) (e0_1 : l0_1 = (D.digs X0_1).length) : HC id #[.agg #[.bool b0_0, .slice a0_1 l0_1 c0_1]] h fun v_ h_ => Keep h h_ ∧ sZD h h_ v_ (v b0_0 X0_1) :=
  ok (D1.hv (Keep.refl _) r0_1 e0_1 fun v h' k s => ⟨k, s⟩)
end gnomonref04_Flip

namespace gnomonref04_Add
def D1.v (b0_0 : Bool) (X0_1 : Nat) (b1_0 : Bool) (X1_1 : Nat) : (Bool × Nat) :=
  bif (b0_0 == b1_0) then
    letV (X0_1 + X1_1) fun p_5 =>
    letV (dz (sg b0_0 p_5)) fun p_6 =>
    (p_6.1, p_6.2)
  else
    bif (decide ((cmpI X0_1 X1_1) ≥ (0 : Int))) then
      letV (X0_1 - X1_1) fun p_9 =>
      letV (dz (sg b0_0 p_9)) fun p_10 =>
      (p_10.1, p_10.2)
    else
      letV (X1_1 - X0_1) fun p_11 =>
      letV (dz (sg b1_0 p_11)) fun p_12 =>
      (p_12.1, p_12.2)
theorem D1.hv {R : Rt} {h0 h : Hp} (k0 : Keep h0 h) {b0_0 : Bool} {a0_1 : Option Addr} {c0_1 l0_1 : Nat} {X0_1 : Nat} (r0_1 : RdE eU32 h a0_1 c0_1 (D.digs X0_1)) (e0_1 : l0_1 = (D.digs X0_1).length) (w0_1 : (D.digs X0_1).length ≤ 1000000) {b1_0 : Bool} {a1_1 : Option Addr} {c1_1 l1_1 : Nat} {X1_1 : Nat} (r1_1 : RdE eU32 h a1_1 c1_1 (D.digs X1_1)) (e1_1 : l1_1 = (D.digs X1_1).length) (w1_1 : (D.digs X1_1).length ≤ 1000000) (g : Post sZD h0 R (D1.v b0_0 X0_1 b1_0 X1_1)) : D1.t R b0_0 a0_1 l0_1 c0_1 b1_0 a1_1 l1_1 c1_1 h := by
  subst e0_1 e1_1
  have kh := Keep.refl h
  have w_z : (D.digs 0).length = 0 := by simp [D.digs_zero]
  unfold D1.v at g
  unfold D1.t
  refine boxV fun h_1 bx_1 k_1 => ?_
  have o_1 : h0.size ≤ h.size := k0.le
  have oh_1 : h.size ≤ h.size := kh.le
  have lt_1 := bx_1.lt
  have m_1 := k_1.tame
  have k0 := k0.trans k_1
  have kh := kh.trans k_1
  refine boxV fun h_2 bx_2 k_2 => ?_
  have d_1q_2 : h.size ≠ h_1.size := Nat.ne_of_lt bx_1.lt
  have o_2 : h0.size ≤ h_1.size := k0.le
  have oh_2 : h.size ≤ h_1.size := kh.le
  have lt_2 := bx_2.lt
  have m_2 := k_2.tame
  have bx_1 := bx_1.keep k_2
  have k0 := k0.trans k_2
  have kh := kh.trans k_2
  refine boxV fun h_3 bx_3 k_3 => ?_
  have d_1q_3 : h.size ≠ h_2.size := Nat.ne_of_lt bx_1.lt
  have d_2q_3 : h_1.size ≠ h_2.size := Nat.ne_of_lt bx_2.lt
  have bx_3 : BlkV h_3 (h_2.size) [.bool false, .slice none (D.digs 0).length 0] := by rw [D.digs_zero]; exact bx_3
  have o_3 : h0.size ≤ h_2.size := k0.le
  have oh_3 : h.size ≤ h_2.size := kh.le
  have lt_3 := bx_3.lt
  have m_3 := k_3.tame
  have bx_1 := bx_1.keep k_3
  have bx_2 := bx_2.keep k_3
  have k0 := k0.trans k_3
  have kh := kh.trans k_3
  refine ldA bx_1 (base_add _ _) rfl ?_
  refine gBool_intro rfl ?_
  refine ldA bx_2 (base_add _ _) rfl ?_
  refine gBool_intro rfl ?_
  refine lift_bool g (fun q_4 g => ?_) (fun q_4 g => ?_)
  · refine ⟨blkLt (base_add _ _) ((m_2.trans m_3).lt lt_1), ?_⟩
    refine ldA bx_1 (base_add _ _) rfl ?_
    refine gBool_intro rfl ?_
    refine ⟨blkLt (base_add _ _) ((m_2.trans m_3).lt lt_1), ?_⟩
    refine ldA bx_1 (base_add _ _) rfl ?_
    refine gSlice_intro rfl ?_
    refine ⟨blkLt (base_add _ _) ((m_3).lt lt_2), ?_⟩
    refine ldA bx_2 (base_add _ _) rfl ?_
    refine gSlice_intro rfl ?_
    refine hc_intro (gnomonref01_Add.hv (r0_1.tame (m_1.trans (m_2.trans m_3))) rfl (r1_1.tame (m_1.trans (m_2.trans m_3))) rfl (by first | assumption | decide | omega) (by first | assumption | decide | omega)) fun v h_4 ⟨k_4, s⟩ => ?_
    obtain ⟨p_5, hp_5⟩ : ∃ p, p = X0_1 + X1_1 := ⟨_, rfl⟩
    rw [← hp_5] at s
    replace g := lift_let2 hp_5 g
    have w_5 := bdAdd X0_1 X1_1
    rw [← hp_5] at w_5
    obtain ⟨a_5, c_5, rfl, r_5⟩ := s
    refine gSlice_intro rfl (?_)
    have r_5 := r_5.from k0.le
    have m_4 := k_4.tame
    have bx_1 := bx_1.keep k_4
    have bx_2 := bx_2.keep k_4
    have bx_3 := bx_3.keep k_4
    have k0 := k0.trans k_4
    have kh := kh.trans k_4
    refine ⟨k_4.preLe (Nat.le_refl _), ?_⟩
    refine hc_intro (gnomonref04_Mk.hs r_5.rd rfl) fun v h_5 ⟨k_5, s⟩ => ?_
    obtain ⟨p_6, hp_6⟩ : ∃ p, p = dz (sg b0_0 p_5) := ⟨_, rfl⟩
    rw [← hp_6] at s
    replace g := lift_let2 hp_6 g
    have w_6 := bzMk b0_0 p_5
    rw [← hp_6] at w_6
    obtain ⟨a_6, c_6, rfl, r_6⟩ := s
    refine gAgg_intro rfl (uncons_intro (gBool_intro rfl (uncons_intro (gSlice_intro rfl (unnil_intro (?_))))))
    have r_6 := r_6.from k0.le
    have m_5 := k_5.tame
    have bx_1 := bx_1.keep k_5
    have bx_2 := bx_2.keep k_5
    have bx_3 := bx_3.keep k_5
    have k0 := k0.trans k_5
    have kh := kh.trans k_5
    refine ⟨k_5.preLe (m_4).le, ?_⟩
    refine stA bx_3 (base_add _ _) rfl fun h_6 bx_3 k_6 m_6 => ?_
    have bx_1 := bx_1.keepB d_1q_3 k_6
    have bx_2 := bx_2.keepB d_2q_3 k_6
    have k0 := KeepB.keep k0 k_6 o_3
    have kh := KeepB.keep kh k_6 oh_3
    refine stA bx_3 (base_add _ _) rfl fun h_7 bx_3 k_7 m_7 => ?_
    have bx_1 := bx_1.keepB d_1q_3 k_7
    have bx_2 := bx_2.keepB d_2q_3 k_7
    have k0 := KeepB.keep k0 k_7 o_3
    have kh := KeepB.keep kh k_7 oh_3
    refine ldA bx_3 (base_add _ _) rfl ?_
    refine gBool_intro rfl ?_
    refine ldA bx_3 (base_add _ _) rfl ?_
    refine gSlice_intro rfl ?_
    exact g _ _ k0 ⟨_, _, rfl, (r_6.tame (m_6.trans m_7))⟩
  · refine ldA bx_1 (base_add _ _) rfl ?_
    refine gSlice_intro rfl ?_
    refine ldA bx_2 (base_add _ _) rfl ?_
    refine gSlice_intro rfl ?_
    refine hc_intro (gnomonref01_Cmp.hv (r0_1.tame (m_1.trans (m_2.trans m_3))) rfl (r1_1.tame (m_1.trans (m_2.trans m_3))) rfl) fun v h_4 ⟨k_4, s⟩ => ?_
    obtain ⟨rfl, i_7⟩ := s
    refine gInt_intro rfl (?_)
    have m_4 := k_4.tame
    have bx_1 := bx_1.keep k_4
    have bx_2 := bx_2.keep k_4
    have bx_3 := bx_3.keep k_4
    have k0 := k0.trans k_4
    have kh := kh.trans k_4
    refine lift_dec g (fun q_8 g => ?_) (fun q_8 g => ?_)
    · refine ⟨blkLt (base_add _ _) ((m_2.trans (m_3.trans m_4)).lt lt_1), ?_⟩
      refine ldA bx_1 (base_add _ _) rfl ?_
      refine gBool_intro rfl ?_
      refine ⟨blkLt (base_add _ _) ((m_2.trans (m_3.trans m_4)).lt lt_1), ?_⟩
      refine ldA bx_1 (base_add _ _) rfl ?_
      refine gSlice_intro rfl ?_
      refine ⟨blkLt (base_add _ _) ((m_3.trans m_4).lt lt_2), ?_⟩
      refine ldA bx_2 (base_add _ _) rfl ?_
      refine gSlice_intro rfl ?_
      refine hc_intro (gnomonref01_Sub.hv (r0_1.tame (m_1.trans (m_2.trans (m_3.trans m_4)))) rfl (r1_1.tame (m_1.trans (m_2.trans (m_3.trans m_4)))) rfl) fun v h_5 ⟨k_5, s⟩ => ?_
      obtain ⟨p_9, hp_9⟩ : ∃ p, p = X0_1 - X1_1 := ⟨_, rfl⟩
      rw [← hp_9] at s
      replace g := lift_let2 hp_9 g
      have w_9 := bdLe (Nat.sub_le X0_1 X1_1)
      rw [← hp_9] at w_9
      obtain ⟨a_9, c_9, rfl, r_9⟩ := s
      refine gSlice_intro rfl (?_)
      have r_9 := r_9.from k0.le
      have m_5 := k_5.tame
      have bx_1 := bx_1.keep k_5
      have bx_2 := bx_2.keep k_5
      have bx_3 := bx_3.keep k_5
      have k0 := k0.trans k_5
      have kh := kh.trans k_5
      refine ⟨k_5.preLe (Nat.le_refl _), ?_⟩
      refine hc_intro (gnomonref04_Mk.hs r_9.rd rfl) fun v h_6 ⟨k_6, s⟩ => ?_
      obtain ⟨p_10, hp_10⟩ : ∃ p, p = dz (sg b0_0 p_9) := ⟨_, rfl⟩
      rw [← hp_10] at s
      replace g := lift_let2 hp_10 g
      have w_10 := bzMk b0_0 p_9
      rw [← hp_10] at w_10
      obtain ⟨a_10, c_10, rfl, r_10⟩ := s
      refine gAgg_intro rfl (uncons_intro (gBool_intro rfl (uncons_intro (gSlice_intro rfl (unnil_intro (?_))))))
      have r_10 := r_10.from k0.le
      have m_6 := k_6.tame
      have bx_1 := bx_1.keep k_6
      have bx_2 := bx_2.keep k_6
      have bx_3 := bx_3.keep k_6
      have k0 := k0.trans k_6
      have kh := kh.trans k_6
      refine ⟨k_6.preLe (m_5).le, ?_⟩
      refine stA bx_3 (base_add _ _) rfl fun h_7 bx_3 k_7 m_7 => ?_
      have bx_1 := bx_1.keepB d_1q_3 k_7
      have bx_2 := bx_2.keepB d_2q_3 k_7
      have k0 := KeepB.keep k0 k_7 o_3
      have kh := KeepB.keep kh k_7 oh_3
      refine stA bx_3 (base_add _ _) rfl fun h_8 bx_3 k_8 m_8 => ?_
      have bx_1 := bx_1.keepB d_1q_3 k_8
      have bx_2 := bx_2.keepB d_2q_3 k_8
      have k0 := KeepB.keep k0 k_8 o_3
      have kh := KeepB.keep kh k_8 oh_3
      refine ldA bx_3 (base_add _ _) rfl ?_
      refine gBool_intro rfl ?_
      refine ldA bx_3 (base_add _ _) rfl ?_
      refine gSlice_intro rfl ?_
      exact g _ _ k0 ⟨_, _, rfl, (r_10.tame (m_7.trans m_8))⟩
    · refine ⟨blkLt (base_add _ _) ((m_3.trans m_4).lt lt_2), ?_⟩
      refine ldA bx_2 (base_add _ _) rfl ?_
      refine gBool_intro rfl ?_
      refine ⟨blkLt (base_add _ _) ((m_3.trans m_4).lt lt_2), ?_⟩
      refine ldA bx_2 (base_add _ _) rfl ?_
      refine gSlice_intro rfl ?_
      refine ⟨blkLt (base_add _ _) ((m_2.trans (m_3.trans m_4)).lt lt_1), ?_⟩
      refine ldA bx_1 (base_add _ _) rfl ?_
      refine gSlice_intro rfl ?_
      refine hc_intro (gnomonref01_Sub.hv (r1_1.tame (m_1.trans (m_2.trans (m_3.trans m_4)))) rfl (r0_1.tame (m_1.trans (m_2.trans (m_3.trans m_4)))) rfl) fun v h_5 ⟨k_5, s⟩ => ?_
      obtain ⟨p_11, hp_11⟩ : ∃ p, p = X1_1 - X0_1 := ⟨_, rfl⟩
      rw [← hp_11] at s
      replace g := lift_let2 hp_11 g
      have w_11 := bdLe (Nat.sub_le X1_1 X0_1)
      rw [← hp_11] at w_11
      obtain ⟨a_11, c_11, rfl, r_11⟩ := s
      refine gSlice_intro rfl (?_)
      have r_11 := r_11.from k0.le
      have m_5 := k_5.tame
      have bx_1 := bx_1.keep k_5
      have bx_2 := bx_2.keep k_5
      have bx_3 := bx_3.keep k_5
      have k0 := k0.trans k_5
      have kh := kh.trans k_5
      refine ⟨k_5.preLe (Nat.le_refl _), ?_⟩
      refine hc_intro (gnomonref04_Mk.hs r_11.rd rfl) fun v h_6 ⟨k_6, s⟩ => ?_
      obtain ⟨p_12, hp_12⟩ : ∃ p, p = dz (sg b1_0 p_11) := ⟨_, rfl⟩
      rw [← hp_12] at s
      replace g := lift_let2 hp_12 g
      have w_12 := bzMk b1_0 p_11
      rw [← hp_12] at w_12
      obtain ⟨a_12, c_12, rfl, r_12⟩ := s
      refine gAgg_intro rfl (uncons_intro (gBool_intro rfl (uncons_intro (gSlice_intro rfl (unnil_intro (?_))))))
      have r_12 := r_12.from k0.le
      have m_6 := k_6.tame
      have bx_1 := bx_1.keep k_6
      have bx_2 := bx_2.keep k_6
      have bx_3 := bx_3.keep k_6
      have k0 := k0.trans k_6
      have kh := kh.trans k_6
      refine ⟨k_6.preLe (m_5).le, ?_⟩
      refine stA bx_3 (base_add _ _) rfl fun h_7 bx_3 k_7 m_7 => ?_
      have bx_1 := bx_1.keepB d_1q_3 k_7
      have bx_2 := bx_2.keepB d_2q_3 k_7
      have k0 := KeepB.keep k0 k_7 o_3
      have kh := KeepB.keep kh k_7 oh_3
      refine stA bx_3 (base_add _ _) rfl fun h_8 bx_3 k_8 m_8 => ?_
      have bx_1 := bx_1.keepB d_1q_3 k_8
      have bx_2 := bx_2.keepB d_2q_3 k_8
      have k0 := KeepB.keep k0 k_8 o_3
      have kh := KeepB.keep kh k_8 oh_3
      refine ldA bx_3 (base_add _ _) rfl ?_
      refine gBool_intro rfl ?_
      refine ldA bx_3 (base_add _ _) rfl ?_
      refine gSlice_intro rfl ?_
      exact g _ _ k0 ⟨_, _, rfl, (r_12.tame (m_7.trans m_8))⟩
def v (b0_0 : Bool) (X0_1 : Nat) (b1_0 : Bool) (X1_1 : Nat) : (Bool × Nat) := D1.v b0_0 X0_1 b1_0 X1_1
theorem hv {h : Hp} {b0_0 : Bool} {a0_1 : Option Addr} {c0_1 l0_1 : Nat} {X0_1 : Nat} (r0_1 : RdE eU32 h a0_1 c0_1 (D.digs X0_1)) (e0_1 : l0_1 = (D.digs X0_1).length) (w0_1 : (D.digs X0_1).length ≤ 1000000) {b1_0 : Bool} {a1_1 : Option Addr} {c1_1 l1_1 : Nat} {X1_1 : Nat} (r1_1 : RdE eU32 h a1_1 c1_1 (D.digs X1_1)) (e1_1 : l1_1 = (D.digs X1_1).length) (w1_1 : (D.digs X1_1).length ≤ 1000000) : HC id #[.agg #[.bool b0_0, .slice a0_1 l0_1 c0_1], .agg #[.bool b1_0, .slice a1_1 l1_1 c1_1]] h fun v_ h_ => Keep h h_ ∧ sZD h h_ v_ (v b0_0 X0_1 b1_0 X1_1) :=
  ok (D1.hv (Keep.refl _) r0_1 e0_1 w0_1 r1_1 e1_1 w1_1 fun v h' k s => ⟨k, s⟩)
end gnomonref04_Add

namespace gnomonref04_Mul
def D1.v (b0_0 : Bool) (X0_1 : Nat) (b1_0 : Bool) (X1_1 : Nat) : (Bool × Nat) :=
  letV (X0_1 * X1_1) fun p_4 =>
  letV (dz (sg ((!(b0_0 == b1_0))) p_4)) fun p_5 =>
  (p_5.1, p_5.2)
theorem D1.hv {R : Rt} {h0 h : Hp} (k0 : Keep h0 h) {b0_0 : Bool} {a0_1 : Option Addr} {c0_1 l0_1 : Nat} {X0_1 : Nat} (r0_1 : RdE eU32 h a0_1 c0_1 (D.digs X0_1)) (e0_1 : l0_1 = (D.digs X0_1).length) (w0_1 : (D.digs X0_1).length ≤ 1000000) {b1_0 : Bool} {a1_1 : Option Addr} {c1_1 l1_1 : Nat} {X1_1 : Nat} (r1_1 : RdE eU32 h a1_1 c1_1 (D.digs X1_1)) (e1_1 : l1_1 = (D.digs X1_1).length) (w1_1 : (D.digs X1_1).length ≤ 1000000) (g : Post sZD h0 R (D1.v b0_0 X0_1 b1_0 X1_1)) : D1.t R b0_0 a0_1 l0_1 c0_1 b1_0 a1_1 l1_1 c1_1 h := by
  subst e0_1 e1_1
  have kh := Keep.refl h
  have w_z : (D.digs 0).length = 0 := by simp [D.digs_zero]
  unfold D1.v at g
  unfold D1.t
  refine boxV fun h_1 bx_1 k_1 => ?_
  have o_1 : h0.size ≤ h.size := k0.le
  have oh_1 : h.size ≤ h.size := kh.le
  have lt_1 := bx_1.lt
  have m_1 := k_1.tame
  have k0 := k0.trans k_1
  have kh := kh.trans k_1
  refine boxV fun h_2 bx_2 k_2 => ?_
  have d_1q_2 : h.size ≠ h_1.size := Nat.ne_of_lt bx_1.lt
  have o_2 : h0.size ≤ h_1.size := k0.le
  have oh_2 : h.size ≤ h_1.size := kh.le
  have lt_2 := bx_2.lt
  have m_2 := k_2.tame
  have bx_1 := bx_1.keep k_2
  have k0 := k0.trans k_2
  have kh := kh.trans k_2
  refine boxV fun h_3 bx_3 k_3 => ?_
  have d_1q_3 : h.size ≠ h_2.size := Nat.ne_of_lt bx_1.lt
  have d_2q_3 : h_1.size ≠ h_2.size := Nat.ne_of_lt bx_2.lt
  have bx_3 : BlkV h_3 (h_2.size) [.bool false, .slice none (D.digs 0).length 0] := by rw [D.digs_zero]; exact bx_3
  have o_3 : h0.size ≤ h_2.size := k0.le
  have oh_3 : h.size ≤ h_2.size := kh.le
  have lt_3 := bx_3.lt
  have m_3 := k_3.tame
  have bx_1 := bx_1.keep k_3
  have bx_2 := bx_2.keep k_3
  have k0 := k0.trans k_3
  have kh := kh.trans k_3
  refine ⟨blkLt (base_add _ _) ((m_2.trans m_3).lt lt_1), ?_⟩
  refine ldA bx_1 (base_add _ _) rfl ?_
  refine gBool_intro rfl ?_
  refine ⟨blkLt (base_add _ _) ((m_3).lt lt_2), ?_⟩
  refine ldA bx_2 (base_add _ _) rfl ?_
  refine gBool_intro rfl ?_
  refine ⟨blkLt (base_add _ _) ((m_2.trans m_3).lt lt_1), ?_⟩
  refine ldA bx_1 (base_add _ _) rfl ?_
  refine gSlice_intro rfl ?_
  refine ⟨blkLt (base_add _ _) ((m_3).lt lt_2), ?_⟩
  refine ldA bx_2 (base_add _ _) rfl ?_
  refine gSlice_intro rfl ?_
  refine hc_intro (gnomonref01_Mul.hv (r0_1.tame (m_1.trans (m_2.trans m_3))) rfl (r1_1.tame (m_1.trans (m_2.trans m_3))) rfl (by first | assumption | decide | omega) (by first | assumption | decide | omega)) fun v h_4 ⟨k_4, s⟩ => ?_
  obtain ⟨p_4, hp_4⟩ : ∃ p, p = X0_1 * X1_1 := ⟨_, rfl⟩
  rw [← hp_4] at s
  replace g := lift_let2 hp_4 g
  have w_4 := bdMul X0_1 X1_1
  rw [← hp_4] at w_4
  obtain ⟨a_4, c_4, rfl, r_4⟩ := s
  refine gSlice_intro rfl (?_)
  have r_4 := r_4.from k0.le
  have m_4 := k_4.tame
  have bx_1 := bx_1.keep k_4
  have bx_2 := bx_2.keep k_4
  have bx_3 := bx_3.keep k_4
  have k0 := k0.trans k_4
  have kh := kh.trans k_4
  refine ⟨k_4.preLe (Nat.le_refl _), ?_⟩
  refine hc_intro (gnomonref04_Mk.hs r_4.rd rfl) fun v h_5 ⟨k_5, s⟩ => ?_
  obtain ⟨p_5, hp_5⟩ : ∃ p, p = dz (sg ((!(b0_0 == b1_0))) p_4) := ⟨_, rfl⟩
  rw [← hp_5] at s
  replace g := lift_let2 hp_5 g
  have w_5 := bzMk ((!(b0_0 == b1_0))) p_4
  rw [← hp_5] at w_5
  obtain ⟨a_5, c_5, rfl, r_5⟩ := s
  refine gAgg_intro rfl (uncons_intro (gBool_intro rfl (uncons_intro (gSlice_intro rfl (unnil_intro (?_))))))
  have r_5 := r_5.from k0.le
  have m_5 := k_5.tame
  have bx_1 := bx_1.keep k_5
  have bx_2 := bx_2.keep k_5
  have bx_3 := bx_3.keep k_5
  have k0 := k0.trans k_5
  have kh := kh.trans k_5
  refine ⟨k_5.preLe (m_4).le, ?_⟩
  refine stA bx_3 (base_add _ _) rfl fun h_6 bx_3 k_6 m_6 => ?_
  have bx_1 := bx_1.keepB d_1q_3 k_6
  have bx_2 := bx_2.keepB d_2q_3 k_6
  have k0 := KeepB.keep k0 k_6 o_3
  have kh := KeepB.keep kh k_6 oh_3
  refine stA bx_3 (base_add _ _) rfl fun h_7 bx_3 k_7 m_7 => ?_
  have bx_1 := bx_1.keepB d_1q_3 k_7
  have bx_2 := bx_2.keepB d_2q_3 k_7
  have k0 := KeepB.keep k0 k_7 o_3
  have kh := KeepB.keep kh k_7 oh_3
  refine ldA bx_3 (base_add _ _) rfl ?_
  refine gBool_intro rfl ?_
  refine ldA bx_3 (base_add _ _) rfl ?_
  refine gSlice_intro rfl ?_
  exact g _ _ k0 ⟨_, _, rfl, (r_5.tame (m_6.trans m_7))⟩
def v (b0_0 : Bool) (X0_1 : Nat) (b1_0 : Bool) (X1_1 : Nat) : (Bool × Nat) := D1.v b0_0 X0_1 b1_0 X1_1
theorem hv {h : Hp} {b0_0 : Bool} {a0_1 : Option Addr} {c0_1 l0_1 : Nat} {X0_1 : Nat} (r0_1 : RdE eU32 h a0_1 c0_1 (D.digs X0_1)) (e0_1 : l0_1 = (D.digs X0_1).length) (w0_1 : (D.digs X0_1).length ≤ 1000000) {b1_0 : Bool} {a1_1 : Option Addr} {c1_1 l1_1 : Nat} {X1_1 : Nat} (r1_1 : RdE eU32 h a1_1 c1_1 (D.digs X1_1)) (e1_1 : l1_1 = (D.digs X1_1).length) (w1_1 : (D.digs X1_1).length ≤ 1000000) : HC id #[.agg #[.bool b0_0, .slice a0_1 l0_1 c0_1], .agg #[.bool b1_0, .slice a1_1 l1_1 c1_1]] h fun v_ h_ => Keep h h_ ∧ sZD h h_ v_ (v b0_0 X0_1 b1_0 X1_1) :=
  ok (D1.hv (Keep.refl _) r0_1 e0_1 w0_1 r1_1 e1_1 w1_1 fun v h' k s => ⟨k, s⟩)
end gnomonref04_Mul





namespace gnomonref04_DocForm
def D1.v (b0_0 : Bool) (xs0_1 : List Nat) : Bool :=
  bif (decide (Frm xs0_1)) then
    bif b0_0 then
      (!((((xs0_1.length : Nat) : Int)) == (0 : Int)))
    else
      (!false)
  else
    false
theorem D1.hv {R : Rt} {h0 h : Hp} (k0 : Keep h0 h) {b0_0 : Bool} {a0_1 : Option Addr} {c0_1 l0_1 : Nat} {xs0_1 : List Nat} (r0_1 : Rd h a0_1 c0_1 xs0_1) (e0_1 : l0_1 = xs0_1.length) (g : Post sBool h0 R (D1.v b0_0 xs0_1)) : D1.t R b0_0 a0_1 l0_1 c0_1 h := by
  subst e0_1
  have kh := Keep.refl h
  unfold D1.v at g
  unfold D1.t
  refine boxV fun h_1 bx_1 k_1 => ?_
  have o_1 : h0.size ≤ h.size := k0.le
  have oh_1 : h.size ≤ h.size := kh.le
  have lt_1 := bx_1.lt
  have m_1 := k_1.tame
  have k0 := k0.trans k_1
  have kh := kh.trans k_1
  refine ldA bx_1 (base_add _ _) rfl ?_
  refine gSlice_intro rfl ?_
  refine hc_intro (gnomonref01_DocForm.hv (r0_1.tame (m_1)) rfl) fun v h_2 ⟨k_2, s⟩ => ?_
  obtain rfl := s
  refine gBool_intro rfl (?_)
  have m_2 := k_2.tame
  have bx_1 := bx_1.keep k_2
  have k0 := k0.trans k_2
  have kh := kh.trans k_2
  refine lift_dec g (fun q_3 g => ?_) (fun q_3 g => ?_)
  · refine ldA bx_1 (base_add _ _) rfl ?_
    refine gBool_intro rfl ?_
    refine lift_bool g (fun q_4 g => ?_) (fun q_4 g => ?_)
    · refine ldA bx_1 (base_add _ _) rfl ?_
      refine gSlice_intro rfl ?_
      exact g _ _ k0 rfl
    · exact g _ _ k0 rfl
  · exact g _ _ k0 rfl
def v (b0_0 : Bool) (xs0_1 : List Nat) : Bool := D1.v b0_0 xs0_1
theorem hv {h : Hp} {b0_0 : Bool} {a0_1 : Option Addr} {c0_1 l0_1 : Nat} {xs0_1 : List Nat} (r0_1 : Rd h a0_1 c0_1 xs0_1) (e0_1 : l0_1 = xs0_1.length) : HC id #[.agg #[.bool b0_0, .slice a0_1 l0_1 c0_1]] h fun v_ h_ => Keep h h_ ∧ sBool h h_ v_ (v b0_0 xs0_1) :=
  ok (D1.hv (Keep.refl _) r0_1 e0_1 fun v h' k s => ⟨k, s⟩)
end gnomonref04_DocForm

namespace gnomonref04_Told
def D1.v (b0_0 : Bool) (X0_1 : Nat) : ((Bool × List Nat) × Int) :=
  bif (decide (((((D.digs X0_1).length : Nat) : Int)) > (16384 : Int))) then
    ((false, ([] : List Nat)), (5 : Int))
  else
    letV (zz (di (b0_0, X0_1))) fun p_4 =>
    ((p_4.1, p_4.2), (0 : Int))
theorem D1.hv {R : Rt} {h0 h : Hp} (k0 : Keep h0 h) {b0_0 : Bool} {a0_1 : Option Addr} {c0_1 l0_1 : Nat} {X0_1 : Nat} (r0_1 : RdE eU32 h a0_1 c0_1 (D.digs X0_1)) (e0_1 : l0_1 = (D.digs X0_1).length) (g : Post (s2 sZW (sI .i64)) h0 R (D1.v b0_0 X0_1)) : D1.t R b0_0 a0_1 l0_1 c0_1 h := by
  subst e0_1
  have kh := Keep.refl h
  unfold D1.v at g
  unfold D1.t
  refine boxV fun h_1 bx_1 k_1 => ?_
  have o_1 : h0.size ≤ h.size := k0.le
  have oh_1 : h.size ≤ h.size := kh.le
  have lt_1 := bx_1.lt
  have m_1 := k_1.tame
  have k0 := k0.trans k_1
  have kh := kh.trans k_1
  refine boxV fun h_2 bx_2 k_2 => ?_
  have d_1q_2 : h.size ≠ h_1.size := Nat.ne_of_lt bx_1.lt
  have o_2 : h0.size ≤ h_1.size := k0.le
  have oh_2 : h.size ≤ h_1.size := kh.le
  have lt_2 := bx_2.lt
  have m_2 := k_2.tame
  have bx_1 := bx_1.keep k_2
  have k0 := k0.trans k_2
  have kh := kh.trans k_2
  refine ldA bx_1 (base_add _ _) rfl ?_
  refine gSlice_intro rfl ?_
  refine lift_dec g (fun q_3 g => ?_) (fun q_3 g => ?_)
  · refine stA bx_2 (base_add _ _) rfl fun h_3 bx_2 k_3 m_3 => ?_
    have bx_1 := bx_1.keepB d_1q_2 k_3
    have k0 := KeepB.keep k0 k_3 o_2
    have kh := KeepB.keep kh k_3 oh_2
    refine stA bx_2 (base_add _ _) rfl fun h_4 bx_2 k_4 m_4 => ?_
    have bx_1 := bx_1.keepB d_1q_2 k_4
    have k0 := KeepB.keep k0 k_4 o_2
    have kh := KeepB.keep kh k_4 oh_2
    refine ldA bx_2 (base_add _ _) rfl ?_
    refine gBool_intro rfl ?_
    refine ldA bx_2 (base_add _ _) rfl ?_
    refine gSlice_intro rfl ?_
    exact g _ _ k0 ⟨_, _, rfl, ⟨_, _, rfl, (GotE.nil _ _)⟩, ⟨rfl, (show In .i64 (5 : Int) by decide)⟩⟩
  · refine ldA bx_1 (base_add _ _) rfl ?_
    refine gBool_intro rfl ?_
    refine ldA bx_1 (base_add _ _) rfl ?_
    refine gSlice_intro rfl ?_
    refine hc_intro (gnomonref04_To.hs (r0_1.tame (m_1.trans m_2)) rfl) fun v h_3 ⟨k_3, s⟩ => ?_
    obtain ⟨p_4, hp_4⟩ : ∃ p, p = zz (di (b0_0, X0_1)) := ⟨_, rfl⟩
    rw [← hp_4] at s
    replace g := lift_let2 hp_4 g
    obtain ⟨a_4, c_4, rfl, r_4⟩ := s
    refine gAgg_intro rfl (uncons_intro (gBool_intro rfl (uncons_intro (gSlice_intro rfl (unnil_intro (?_))))))
    have r_4 := r_4.from k0.le
    have m_3 := k_3.tame
    have bx_1 := bx_1.keep k_3
    have bx_2 := bx_2.keep k_3
    have k0 := k0.trans k_3
    have kh := kh.trans k_3
    refine stA bx_2 (base_add _ _) rfl fun h_4 bx_2 k_4 m_4 => ?_
    have bx_1 := bx_1.keepB d_1q_2 k_4
    have k0 := KeepB.keep k0 k_4 o_2
    have kh := KeepB.keep kh k_4 oh_2
    refine stA bx_2 (base_add _ _) rfl fun h_5 bx_2 k_5 m_5 => ?_
    have bx_1 := bx_1.keepB d_1q_2 k_5
    have k0 := KeepB.keep k0 k_5 o_2
    have kh := KeepB.keep kh k_5 oh_2
    refine ldA bx_2 (base_add _ _) rfl ?_
    refine gBool_intro rfl ?_
    refine ldA bx_2 (base_add _ _) rfl ?_
    refine gSlice_intro rfl ?_
    exact g _ _ k0 ⟨_, _, rfl, ⟨_, _, rfl, (r_4.tame (m_4.trans m_5))⟩, ⟨rfl, (show In .i64 (0 : Int) by decide)⟩⟩
def v (b0_0 : Bool) (X0_1 : Nat) : ((Bool × List Nat) × Int) := D1.v b0_0 X0_1
theorem hv {h : Hp} {b0_0 : Bool} {a0_1 : Option Addr} {c0_1 l0_1 : Nat} {X0_1 : Nat} (r0_1 : RdE eU32 h a0_1 c0_1 (D.digs X0_1)) (e0_1 : l0_1 = (D.digs X0_1).length) : HC id #[.agg #[.bool b0_0, .slice a0_1 l0_1 c0_1]] h fun v_ h_ => Keep h h_ ∧ (s2 sZW (sI .i64)) h h_ v_ (v b0_0 X0_1) :=
  ok (D1.hv (Keep.refl _) r0_1 e0_1 fun v h' k s => ⟨k, s⟩)
end gnomonref04_Told

end Go.Proofs.YtanlcacaihdceaaGreatDoor.G

/- The reference's whole numbers: what the first calls answer. -/
namespace Go.Proofs.YtanlcacaihdceaaGreatDoor.G
open Go.Gv
set_option linter.unusedVariables false
set_option maxRecDepth 100000
theorem di_sg (b : Bool) (X : Nat) : di (b, X) = sg b X := rfl
theorem rSign_v (b : Bool) (X : Nat) : gnomonref04_Sign.v b X = cmpZ (di (b, X)) 0 := by
  unfold gnomonref04_Sign.v gnomonref04_Sign.D1.v
  rw [di_sg]
  by_cases h : X = 0
  · have e : (((D.digs X).length : Int) == 0) = true := by have := (dlenZ X).mpr h; rw [this]; rfl
    rw [e, h, sg_zero]; rfl
  · have e : (((D.digs X).length : Int) == 0) = false := by
      have := mt (dlenZ X).mp h
      simp only [beq_eq_false_iff_ne, ne_eq]; omega
    rw [e]
    cases b
    · have : ¬ sg false X < 0 := by unfold sg; simp
      have h2 : sg false X ≠ 0 := fun e => h (sg_eq_zero.mp e)
      simp [cmpZ, this, h2]
    · have : sg true X < 0 := by unfold sg; simp; omega
      simp [cmpZ, this]
theorem rFlip_v (b : Bool) (X : Nat) : gnomonref04_Flip.v b X = dz (-di (b, X)) := by
  rw [di_sg, neg_sg]; rfl
theorem cmpI_ge {m n : Nat} : decide (cmpI m n ≥ 0) = decide (n ≤ m) := by
  unfold cmpI
  by_cases h : m < n
  · simp [h]
  · rw [if_neg h]; split <;> simp <;> omega
theorem rAdd_v (b c : Bool) (X Y : Nat) : gnomonref04_Add.v b X c Y = dz (di (b, X) + di (c, Y)) := by
  rw [di_sg, di_sg]
  unfold gnomonref04_Add.v gnomonref04_Add.D1.v
  by_cases h : b = c
  · subst h
    rw [add_sg_same]; simp only [beq_self_eq_true, cond_true]; rfl
  · have e : (b == c) = false := by simp [h]
    rw [e, cond_false, cmpI_ge]
    by_cases hl : Y ≤ X
    · rw [add_sg_diff h hl]; simp only [hl, decide_true, cond_true]; rfl
    · rw [Int.add_comm, add_sg_diff (fun e => h e.symm) (by omega)]; simp only [hl, decide_false, cond_false]; rfl
theorem rMul_v (b c : Bool) (X Y : Nat) : gnomonref04_Mul.v b X c Y = dz (di (b, X) * di (c, Y)) := by
  rw [di_sg, di_sg, mul_sg]
  have : xor b c = (!(b == c)) := by cases b <;> cases c <;> rfl
  rw [this]; rfl
theorem rDocForm_v (b : Bool) (xs : List Nat) : gnomonref04_DocForm.v b xs = decide (FrmZ (b, xs)) := Form_v b xs
theorem rTold_v (b : Bool) (X : Nat) : gnomonref04_Told.v b X = zlim (di (b, X)) := by
  unfold gnomonref04_Told.v gnomonref04_Told.D1.v
  rw [di_sg]
  have hd := dlen_lim X
  by_cases h : (digs X).length ≤ 8192
  · have : decide (((D.digs X).length : Int) > 16384) = false := decide_eq_false (by have := hd.mpr h; omega)
    rw [this, cond_false, zlim_ok (by unfold SmZ; rw [sg_abs]; exact h)]; rfl
  · have : decide (((D.digs X).length : Int) > 16384) = true := decide_eq_true (by have := mt hd.mp h; omega)
    rw [this, cond_true, zlim_no (by unfold SmZ; rw [sg_abs]; exact h)]; rfl
section
variable {a b : Option Addr} {c d l m X Y : Nat} {xs ys : List Nat} {h : Hp} {x y : Int} {p q : Bool}
theorem gnomonref04_Sign.hs (r : RdE eU32 h a c (D.digs X)) (e : l = (D.digs X).length) : HC gnomonref04_Sign.id #[.agg #[.bool p, .slice a l c]] h fun v h' => Keep h h' ∧ sI .i64 h h' v (cmpZ (di (p, X)) 0) := by rw [← rSign_v]; exact gnomonref04_Sign.hv r e
theorem gnomonref04_Flip.hs (r : RdE eU32 h a c (D.digs X)) (e : l = (D.digs X).length) : HC gnomonref04_Flip.id #[.agg #[.bool p, .slice a l c]] h fun v h' => Keep h h' ∧ sZD h h' v (dz (-di (p, X))) := by rw [← rFlip_v]; exact gnomonref04_Flip.hv r e
theorem gnomonref04_Add.hs (r : RdE eU32 h a c (D.digs X)) (e : l = (D.digs X).length) (s : RdE eU32 h b d (D.digs Y)) (f : m = (D.digs Y).length) (w1 : (D.digs X).length ≤ 1000000) (w2 : (D.digs Y).length ≤ 1000000) : HC gnomonref04_Add.id #[.agg #[.bool p, .slice a l c], .agg #[.bool q, .slice b m d]] h fun v h' => Keep h h' ∧ sZD h h' v (dz (di (p, X) + di (q, Y))) := by rw [← rAdd_v]; exact gnomonref04_Add.hv r e w1 s f w2
theorem gnomonref04_Mul.hs (r : RdE eU32 h a c (D.digs X)) (e : l = (D.digs X).length) (s : RdE eU32 h b d (D.digs Y)) (f : m = (D.digs Y).length) (w1 : (D.digs X).length ≤ 1000000) (w2 : (D.digs Y).length ≤ 1000000) : HC gnomonref04_Mul.id #[.agg #[.bool p, .slice a l c], .agg #[.bool q, .slice b m d]] h fun v h' => Keep h h' ∧ sZD h h' v (dz (di (p, X) * di (q, Y))) := by rw [← rMul_v]; exact gnomonref04_Mul.hv r e w1 s f w2
theorem gnomonref04_DocForm.hs (r : Rd h a c xs) (e : l = xs.length) : HC gnomonref04_DocForm.id #[.agg #[.bool p, .slice a l c]] h fun v h' => Keep h h' ∧ sBool h h' v (decide (FrmZ (p, xs))) := by rw [← rDocForm_v]; exact gnomonref04_DocForm.hv r e
theorem gnomonref04_Told.hs (r : RdE eU32 h a c (D.digs X)) (e : l = (D.digs X).length) : HC gnomonref04_Told.id #[.agg #[.bool p, .slice a l c]] h fun v h' => Keep h h' ∧ s2 sZW (sI .i64) h h' v (zlim (di (p, X))) := by rw [← rTold_v]; exact gnomonref04_Told.hv r e
end
end Go.Proofs.YtanlcacaihdceaaGreatDoor.G

/- Functions without loops as functions of values. Written by a program of this work. -/
namespace Go.Proofs.YtanlcacaihdceaaGreatDoor.G
open Go.Gv
set_option linter.unusedVariables false
set_option maxRecDepth 100000
namespace gnomonref04_Sub
def D1.v (b0_0 : Bool) (X0_1 : Nat) (b1_0 : Bool) (X1_1 : Nat) : (Bool × Nat) :=
  letV (dz (-di (b1_0, X1_1))) fun p_4 =>
  letV (dz (di (b0_0, X0_1) + di (p_4.1, p_4.2))) fun p_5 =>
  (p_5.1, p_5.2)
theorem D1.hv {R : Rt} {h0 h : Hp} (k0 : Keep h0 h) {b0_0 : Bool} {a0_1 : Option Addr} {c0_1 l0_1 : Nat} {X0_1 : Nat} (r0_1 : RdE eU32 h a0_1 c0_1 (D.digs X0_1)) (e0_1 : l0_1 = (D.digs X0_1).length) (w0_1 : (D.digs X0_1).length ≤ 1000000) {b1_0 : Bool} {a1_1 : Option Addr} {c1_1 l1_1 : Nat} {X1_1 : Nat} (r1_1 : RdE eU32 h a1_1 c1_1 (D.digs X1_1)) (e1_1 : l1_1 = (D.digs X1_1).length) (w1_1 : (D.digs X1_1).length ≤ 1000000) (g : Post sZD h0 R (D1.v b0_0 X0_1 b1_0 X1_1)) : D1.t R b0_0 a0_1 l0_1 c0_1 b1_0 a1_1 l1_1 c1_1 h := by
  subst e0_1 e1_1
  have kh := Keep.refl h
  have w_z : (D.digs 0).length = 0 := by simp [D.digs_zero]
  unfold D1.v at g
  unfold D1.t
  refine boxV fun h_1 bx_1 k_1 => ?_
  have o_1 : h0.size ≤ h.size := k0.le
  have oh_1 : h.size ≤ h.size := kh.le
  have lt_1 := bx_1.lt
  have m_1 := k_1.tame
  have k0 := k0.trans k_1
  have kh := kh.trans k_1
  refine boxV fun h_2 bx_2 k_2 => ?_
  have d_1q_2 : h.size ≠ h_1.size := Nat.ne_of_lt bx_1.lt
  have o_2 : h0.size ≤ h_1.size := k0.le
  have oh_2 : h.size ≤ h_1.size := kh.le
  have lt_2 := bx_2.lt
  have m_2 := k_2.tame
  have bx_1 := bx_1.keep k_2
  have k0 := k0.trans k_2
  have kh := kh.trans k_2
  refine boxV fun h_3 bx_3 k_3 => ?_
  have d_1q_3 : h.size ≠ h_2.size := Nat.ne_of_lt bx_1.lt
  have d_2q_3 : h_1.size ≠ h_2.size := Nat.ne_of_lt bx_2.lt
  have bx_3 : BlkV h_3 (h_2.size) [.bool false, .slice none (D.digs 0).length 0] := by rw [D.digs_zero]; exact bx_3
  have o_3 : h0.size ≤ h_2.size := k0.le
  have oh_3 : h.size ≤ h_2.size := kh.le
  have lt_3 := bx_3.lt
  have m_3 := k_3.tame
  have bx_1 := bx_1.keep k_3
  have bx_2 := bx_2.keep k_3
  have k0 := k0.trans k_3
  have kh := kh.trans k_3
  refine ⟨blkLt rfl ((m_2.trans m_3).lt lt_1), ?_⟩
  refine ldA bx_1 (base_add _ _) rfl ?_
  refine gBool_intro rfl ?_
  refine ldA bx_1 (base_add _ _) rfl ?_
  refine gSlice_intro rfl ?_
  refine ⟨blkLt rfl ((m_3).lt lt_2), ?_⟩
  refine ldA bx_2 (base_add _ _) rfl ?_
  refine gBool_intro rfl ?_
  refine ldA bx_2 (base_add _ _) rfl ?_
  refine gSlice_intro rfl ?_
  refine hc_intro (gnomonref04_Flip.hs (r1_1.tame (m_1.trans (m_2.trans m_3))) rfl) fun v h_4 ⟨k_4, s⟩ => ?_
  obtain ⟨p_4, hp_4⟩ : ∃ p, p = dz (-di (b1_0, X1_1)) := ⟨_, rfl⟩
  rw [← hp_4] at s
  replace g := lift_let2 hp_4 g
  have w_4 := bzNeg b1_0 X1_1
  rw [← hp_4] at w_4
  obtain ⟨a_4, c_4, rfl, r_4⟩ := s
  refine gAgg_intro rfl (uncons_intro (gBool_intro rfl (uncons_intro (gSlice_intro rfl (unnil_intro (?_))))))
  have r_4 := r_4.from k0.le
  have m_4 := k_4.tame
  have bx_1 := bx_1.keep k_4
  have bx_2 := bx_2.keep k_4
  have bx_3 := bx_3.keep k_4
  have k0 := k0.trans k_4
  have kh := kh.trans k_4
  refine ⟨k_4.preLe (Nat.le_refl _), ?_⟩
  refine hc_intro (gnomonref04_Add.hs (r0_1.tame (m_1.trans (m_2.trans (m_3.trans m_4)))) rfl r_4.rd rfl (by first | assumption | decide | omega) (by first | assumption | decide | omega)) fun v h_5 ⟨k_5, s⟩ => ?_
  obtain ⟨p_5, hp_5⟩ : ∃ p, p = dz (di (b0_0, X0_1) + di (p_4.1, p_4.2)) := ⟨_, rfl⟩
  rw [← hp_5] at s
  replace g := lift_let2 hp_5 g
  have w_5 := bzAdd b0_0 X0_1 p_4.1 p_4.2
  rw [← hp_5] at w_5
  obtain ⟨a_5, c_5, rfl, r_5⟩ := s
  refine gAgg_intro rfl (uncons_intro (gBool_intro rfl (uncons_intro (gSlice_intro rfl (unnil_intro (?_))))))
  have r_5 := r_5.from k0.le
  have m_5 := k_5.tame
  have bx_1 := bx_1.keep k_5
  have bx_2 := bx_2.keep k_5
  have bx_3 := bx_3.keep k_5
  have k0 := k0.trans k_5
  have kh := kh.trans k_5
  refine ⟨k_5.preLe (m_4).le, ?_⟩
  refine stA bx_3 (base_add _ _) rfl fun h_6 bx_3 k_6 m_6 => ?_
  have bx_1 := bx_1.keepB d_1q_3 k_6
  have bx_2 := bx_2.keepB d_2q_3 k_6
  have k0 := KeepB.keep k0 k_6 o_3
  have kh := KeepB.keep kh k_6 oh_3
  refine stA bx_3 (base_add _ _) rfl fun h_7 bx_3 k_7 m_7 => ?_
  have bx_1 := bx_1.keepB d_1q_3 k_7
  have bx_2 := bx_2.keepB d_2q_3 k_7
  have k0 := KeepB.keep k0 k_7 o_3
  have kh := KeepB.keep kh k_7 oh_3
  refine ldA bx_3 (base_add _ _) rfl ?_
  refine gBool_intro rfl ?_
  refine ldA bx_3 (base_add _ _) rfl ?_
  refine gSlice_intro rfl ?_
  exact g _ _ k0 ⟨_, _, rfl, (r_5.tame (m_6.trans m_7))⟩
def v (b0_0 : Bool) (X0_1 : Nat) (b1_0 : Bool) (X1_1 : Nat) : (Bool × Nat) := D1.v b0_0 X0_1 b1_0 X1_1
theorem hv {h : Hp} {b0_0 : Bool} {a0_1 : Option Addr} {c0_1 l0_1 : Nat} {X0_1 : Nat} (r0_1 : RdE eU32 h a0_1 c0_1 (D.digs X0_1)) (e0_1 : l0_1 = (D.digs X0_1).length) (w0_1 : (D.digs X0_1).length ≤ 1000000) {b1_0 : Bool} {a1_1 : Option Addr} {c1_1 l1_1 : Nat} {X1_1 : Nat} (r1_1 : RdE eU32 h a1_1 c1_1 (D.digs X1_1)) (e1_1 : l1_1 = (D.digs X1_1).length) (w1_1 : (D.digs X1_1).length ≤ 1000000) : HC id #[.agg #[.bool b0_0, .slice a0_1 l0_1 c0_1], .agg #[.bool b1_0, .slice a1_1 l1_1 c1_1]] h fun v_ h_ => Keep h h_ ∧ sZD h h_ v_ (v b0_0 X0_1 b1_0 X1_1) :=
  ok (D1.hv (Keep.refl _) r0_1 e0_1 w0_1 r1_1 e1_1 w1_1 fun v h' k s => ⟨k, s⟩)
end gnomonref04_Sub


end Go.Proofs.YtanlcacaihdceaaGreatDoor.G

/- The reference's whole numbers: differences, quotients rounded down. -/
namespace Go.Proofs.YtanlcacaihdceaaGreatDoor.G
open Go.Gv
set_option linter.unusedVariables false
theorem rSub_v (b c : Bool) (X Y : Nat) : gnomonref04_Sub.v b X c Y = dz (di (b, X) - di (c, Y)) := by
  unfold gnomonref04_Sub.v gnomonref04_Sub.D1.v
  simp only [letV]
  have e : di ((dz (-di (c, Y))).1, (dz (-di (c, Y))).2) = -di (c, Y) := di_dz _
  rw [e, ← Int.sub_eq_add_neg]
section
variable {a b : Option Addr} {c d l m X Y : Nat} {xs ys : List Nat} {h : Hp} {x y : Int} {p q : Bool}
theorem gnomonref04_Sub.hs (r : RdE eU32 h a c (D.digs X)) (e : l = (D.digs X).length) (s : RdE eU32 h b d (D.digs Y)) (f : m = (D.digs Y).length) (w1 : (D.digs X).length ≤ 1000000) (w2 : (D.digs Y).length ≤ 1000000) : HC gnomonref04_Sub.id #[.agg #[.bool p, .slice a l c], .agg #[.bool q, .slice b m d]] h fun v h' => Keep h h' ∧ sZD h h' v (dz (di (p, X) - di (q, Y))) := by rw [← rSub_v]; exact gnomonref04_Sub.hv r e w1 s f w2
end
end Go.Proofs.YtanlcacaihdceaaGreatDoor.G

/- Functions without loops as functions of values. Written by a program of this work. -/
namespace Go.Proofs.YtanlcacaihdceaaGreatDoor.G
open Go.Gv
set_option linter.unusedVariables false
set_option maxRecDepth 100000
namespace gnomonref04_Cmp
def D1.v (b0_0 : Bool) (X0_1 : Nat) (b1_0 : Bool) (X1_1 : Nat) : Int :=
  letV (dz (di (b0_0, X0_1) - di (b1_0, X1_1))) fun p_3 =>
  (cmpZ (di (p_3.1, p_3.2)) 0)
theorem D1.hv {R : Rt} {h0 h : Hp} (k0 : Keep h0 h) {b0_0 : Bool} {a0_1 : Option Addr} {c0_1 l0_1 : Nat} {X0_1 : Nat} (r0_1 : RdE eU32 h a0_1 c0_1 (D.digs X0_1)) (e0_1 : l0_1 = (D.digs X0_1).length) (w0_1 : (D.digs X0_1).length ≤ 700000) {b1_0 : Bool} {a1_1 : Option Addr} {c1_1 l1_1 : Nat} {X1_1 : Nat} (r1_1 : RdE eU32 h a1_1 c1_1 (D.digs X1_1)) (e1_1 : l1_1 = (D.digs X1_1).length) (w1_1 : (D.digs X1_1).length ≤ 700000) (g : Post (sI .i64) h0 R (D1.v b0_0 X0_1 b1_0 X1_1)) : D1.t R b0_0 a0_1 l0_1 c0_1 b1_0 a1_1 l1_1 c1_1 h := by
  subst e0_1 e1_1
  have kh := Keep.refl h
  have w_z : (D.digs 0).length = 0 := by simp [D.digs_zero]
  unfold D1.v at g
  unfold D1.t
  refine boxV fun h_1 bx_1 k_1 => ?_
  have o_1 : h0.size ≤ h.size := k0.le
  have oh_1 : h.size ≤ h.size := kh.le
  have lt_1 := bx_1.lt
  have m_1 := k_1.tame
  have k0 := k0.trans k_1
  have kh := kh.trans k_1
  refine boxV fun h_2 bx_2 k_2 => ?_
  have d_1q_2 : h.size ≠ h_1.size := Nat.ne_of_lt bx_1.lt
  have o_2 : h0.size ≤ h_1.size := k0.le
  have oh_2 : h.size ≤ h_1.size := kh.le
  have lt_2 := bx_2.lt
  have m_2 := k_2.tame
  have bx_1 := bx_1.keep k_2
  have k0 := k0.trans k_2
  have kh := kh.trans k_2
  refine ldA bx_1 (base_add _ _) rfl ?_
  refine gBool_intro rfl ?_
  refine ldA bx_1 (base_add _ _) rfl ?_
  refine gSlice_intro rfl ?_
  refine ldA bx_2 (base_add _ _) rfl ?_
  refine gBool_intro rfl ?_
  refine ldA bx_2 (base_add _ _) rfl ?_
  refine gSlice_intro rfl ?_
  refine hc_intro (gnomonref04_Sub.hs (r0_1.tame (m_1.trans m_2)) rfl (r1_1.tame (m_1.trans m_2)) rfl (by first | assumption | decide | omega) (by first | assumption | decide | omega)) fun v h_3 ⟨k_3, s⟩ => ?_
  obtain ⟨p_3, hp_3⟩ : ∃ p, p = dz (di (b0_0, X0_1) - di (b1_0, X1_1)) := ⟨_, rfl⟩
  rw [← hp_3] at s
  replace g := lift_let2 hp_3 g
  have w_3 := bzSub b0_0 X0_1 b1_0 X1_1
  rw [← hp_3] at w_3
  obtain ⟨a_3, c_3, rfl, r_3⟩ := s
  refine gAgg_intro rfl (uncons_intro (gBool_intro rfl (uncons_intro (gSlice_intro rfl (unnil_intro (?_))))))
  have r_3 := r_3.from k0.le
  have m_3 := k_3.tame
  have bx_1 := bx_1.keep k_3
  have bx_2 := bx_2.keep k_3
  have k0 := k0.trans k_3
  have kh := kh.trans k_3
  refine hc_intro (gnomonref04_Sign.hs r_3.rd rfl) fun v h_4 ⟨k_4, s⟩ => ?_
  obtain ⟨rfl, i_4⟩ := s
  refine gInt_intro rfl (?_)
  have m_4 := k_4.tame
  have bx_1 := bx_1.keep k_4
  have bx_2 := bx_2.keep k_4
  have k0 := k0.trans k_4
  have kh := kh.trans k_4
  exact g _ _ k0 ⟨rfl, i_4⟩
def v (b0_0 : Bool) (X0_1 : Nat) (b1_0 : Bool) (X1_1 : Nat) : Int := D1.v b0_0 X0_1 b1_0 X1_1
theorem hv {h : Hp} {b0_0 : Bool} {a0_1 : Option Addr} {c0_1 l0_1 : Nat} {X0_1 : Nat} (r0_1 : RdE eU32 h a0_1 c0_1 (D.digs X0_1)) (e0_1 : l0_1 = (D.digs X0_1).length) (w0_1 : (D.digs X0_1).length ≤ 700000) {b1_0 : Bool} {a1_1 : Option Addr} {c1_1 l1_1 : Nat} {X1_1 : Nat} (r1_1 : RdE eU32 h a1_1 c1_1 (D.digs X1_1)) (e1_1 : l1_1 = (D.digs X1_1).length) (w1_1 : (D.digs X1_1).length ≤ 700000) : HC id #[.agg #[.bool b0_0, .slice a0_1 l0_1 c0_1], .agg #[.bool b1_0, .slice a1_1 l1_1 c1_1]] h fun v_ h_ => Keep h h_ ∧ (sI .i64) h h_ v_ (v b0_0 X0_1 b1_0 X1_1) :=
  ok (D1.hv (Keep.refl _) r0_1 e0_1 w0_1 r1_1 e1_1 w1_1 fun v h' k s => ⟨k, s⟩)
end gnomonref04_Cmp




end Go.Proofs.YtanlcacaihdceaaGreatDoor.G

/- The reference's whole numbers: comparing, rounding up, the rest, shifting down. -/
namespace Go.Proofs.YtanlcacaihdceaaGreatDoor.G
open Go.Gv
set_option linter.unusedVariables false
theorem cmp_sub (i j : Int) : cmpZ (i - j) 0 = cmpZ i j := by
  unfold cmpZ
  rcases Int.lt_trichotomy i j with h | h | h
  · rw [if_pos (by omega), if_pos h]
  · rw [if_neg (by omega), if_pos (by omega), if_neg (by omega), if_pos h]
  · rw [if_neg (by omega), if_neg (by omega), if_neg (by omega), if_neg (by omega)]
theorem rCmp_v (b c : Bool) (X Y : Nat) : gnomonref04_Cmp.v b X c Y = cmpZ (di (b, X)) (di (c, Y)) := by
  unfold gnomonref04_Cmp.v gnomonref04_Cmp.D1.v
  simp only [letV]
  rw [show di ((dz (di (b, X) - di (c, Y))).1, (dz (di (b, X) - di (c, Y))).2) = di (b, X) - di (c, Y) from di_dz _, cmp_sub]
section
variable {a b : Option Addr} {c d l m X Y : Nat} {xs ys : List Nat} {h : Hp} {x y : Int} {p q : Bool}
theorem gnomonref04_Cmp.hs (r : RdE eU32 h a c (D.digs X)) (e : l = (D.digs X).length) (s : RdE eU32 h b d (D.digs Y)) (f : m = (D.digs Y).length) (w1 : (D.digs X).length ≤ 700000) (w2 : (D.digs Y).length ≤ 700000) : HC gnomonref04_Cmp.id #[.agg #[.bool p, .slice a l c], .agg #[.bool q, .slice b m d]] h fun v h' => Keep h h' ∧ sI .i64 h h' v (cmpZ (di (p, X)) (di (q, Y))) := by rw [← rCmp_v]; exact gnomonref04_Cmp.hv r e w1 s f w2
end
end Go.Proofs.YtanlcacaihdceaaGreatDoor.G

/- Functions without loops as functions of values. Written by a program of this work. -/
namespace Go.Proofs.YtanlcacaihdceaaGreatDoor.G
open Go.Gv
set_option linter.unusedVariables false
set_option maxRecDepth 100000


end Go.Proofs.YtanlcacaihdceaaGreatDoor.G

/- The reference's whole numbers: to the nearest. -/
namespace Go.Proofs.YtanlcacaihdceaaGreatDoor.G
open Go.Gv
set_option linter.unusedVariables false
theorem di_dz' (i : Int) : di ((dz i).1, (dz i).2) = i := di_dz i
section
variable {a b : Option Addr} {c d l m X Y : Nat} {xs ys : List Nat} {h : Hp} {x y : Int} {p q : Bool}
end
end Go.Proofs.YtanlcacaihdceaaGreatDoor.G

/- Functions without loops as functions of values. Written by a program of this work. -/
namespace Go.Proofs.YtanlcacaihdceaaGreatDoor.G
open Go.Gv
set_option linter.unusedVariables false
set_option maxRecDepth 100000


namespace gnomonref04_DocNeg
def D1.v (b0_0 : Bool) (xs0_1 : List Nat) : ((Bool × List Nat) × Int) :=
  letV (decide (FrmZ (b0_0, xs0_1))) fun p_3 =>
  bif (!p_3) then
    ((false, ([] : List Nat)), (2 : Int))
  else
    letV (dz (zi (b0_0, xs0_1))) fun p_5 =>
    letV (dz (-di (p_5.1, p_5.2))) fun p_6 =>
    letV (zlim (di (p_6.1, p_6.2))) fun p_7 =>
    ((p_7.1.1, p_7.1.2), p_7.2)
theorem D1.hv {R : Rt} {h0 h : Hp} (k0 : Keep h0 h) {b0_0 : Bool} {a0_1 : Option Addr} {c0_1 l0_1 : Nat} {xs0_1 : List Nat} (r0_1 : Rd h a0_1 c0_1 xs0_1) (e0_1 : l0_1 = xs0_1.length) (g : Post (s2 sZW (sI .i64)) h0 R (D1.v b0_0 xs0_1)) : D1.t R b0_0 a0_1 l0_1 c0_1 h := by
  subst e0_1
  have kh := Keep.refl h
  have w_z : (D.digs 0).length = 0 := by simp [D.digs_zero]
  unfold D1.v at g
  unfold D1.t
  refine boxV fun h_1 bx_1 k_1 => ?_
  have o_1 : h0.size ≤ h.size := k0.le
  have oh_1 : h.size ≤ h.size := kh.le
  have lt_1 := bx_1.lt
  have m_1 := k_1.tame
  have k0 := k0.trans k_1
  have kh := kh.trans k_1
  refine boxV fun h_2 bx_2 k_2 => ?_
  have d_1q_2 : h.size ≠ h_1.size := Nat.ne_of_lt bx_1.lt
  have o_2 : h0.size ≤ h_1.size := k0.le
  have oh_2 : h.size ≤ h_1.size := kh.le
  have lt_2 := bx_2.lt
  have m_2 := k_2.tame
  have bx_1 := bx_1.keep k_2
  have k0 := k0.trans k_2
  have kh := kh.trans k_2
  refine ldA bx_1 (base_add _ _) rfl ?_
  refine gBool_intro rfl ?_
  refine ldA bx_1 (base_add _ _) rfl ?_
  refine gSlice_intro rfl ?_
  refine hc_intro (gnomonref04_DocForm.hs (r0_1.tame (m_1.trans m_2)) rfl) fun v h_3 ⟨k_3, s⟩ => ?_
  obtain ⟨p_3, hp_3⟩ : ∃ p, p = decide (FrmZ (b0_0, xs0_1)) := ⟨_, rfl⟩
  rw [← hp_3] at s
  replace g := lift_let2 hp_3 g
  have u_3 := frmZ_len b0_0 xs0_1
  rw [← hp_3] at u_3
  obtain rfl := s
  refine gBool_intro rfl (?_)
  have m_3 := k_3.tame
  have bx_1 := bx_1.keep k_3
  have bx_2 := bx_2.keep k_3
  have k0 := k0.trans k_3
  have kh := kh.trans k_3
  refine lift_not g (fun q_4 g => ?_) (fun q_4 g => ?_)
  · refine stA bx_2 (base_add _ _) rfl fun h_4 bx_2 k_4 m_4 => ?_
    have bx_1 := bx_1.keepB d_1q_2 k_4
    have k0 := KeepB.keep k0 k_4 o_2
    have kh := KeepB.keep kh k_4 oh_2
    refine stA bx_2 (base_add _ _) rfl fun h_5 bx_2 k_5 m_5 => ?_
    have bx_1 := bx_1.keepB d_1q_2 k_5
    have k0 := KeepB.keep k0 k_5 o_2
    have kh := KeepB.keep kh k_5 oh_2
    refine ldA bx_2 (base_add _ _) rfl ?_
    refine gBool_intro rfl ?_
    refine ldA bx_2 (base_add _ _) rfl ?_
    refine gSlice_intro rfl ?_
    exact g _ _ k0 ⟨_, _, rfl, ⟨_, _, rfl, (GotE.nil _ _)⟩, ⟨rfl, (show In .i64 (2 : Int) by decide)⟩⟩
  · have zu_3 := u_3 q_4
    refine ldA bx_1 (base_add _ _) rfl ?_
    refine gBool_intro rfl ?_
    refine ldA bx_1 (base_add _ _) rfl ?_
    refine gSlice_intro rfl ?_
    refine hc_intro (gnomonref04_From.hs (r0_1.tame (m_1.trans (m_2.trans m_3))) rfl) fun v h_4 ⟨k_4, s⟩ => ?_
    obtain ⟨p_5, hp_5⟩ : ∃ p, p = dz (zi (b0_0, xs0_1)) := ⟨_, rfl⟩
    rw [← hp_5] at s
    replace g := lift_let2 hp_5 g
    have w_5 := bzFrom b0_0 ((r0_1.tame (m_1.trans (m_2.trans m_3)))).words
    rw [← hp_5] at w_5
    obtain ⟨a_5, c_5, rfl, r_5⟩ := s
    refine gAgg_intro rfl (uncons_intro (gBool_intro rfl (uncons_intro (gSlice_intro rfl (unnil_intro (?_))))))
    have r_5 := r_5.from k0.le
    have m_4 := k_4.tame
    have bx_1 := bx_1.keep k_4
    have bx_2 := bx_2.keep k_4
    have k0 := k0.trans k_4
    have kh := kh.trans k_4
    refine hc_intro (gnomonref04_Flip.hs r_5.rd rfl) fun v h_5 ⟨k_5, s⟩ => ?_
    obtain ⟨p_6, hp_6⟩ : ∃ p, p = dz (-di (p_5.1, p_5.2)) := ⟨_, rfl⟩
    rw [← hp_6] at s
    replace g := lift_let2 hp_6 g
    have w_6 := bzNeg p_5.1 p_5.2
    rw [← hp_6] at w_6
    obtain ⟨a_6, c_6, rfl, r_6⟩ := s
    refine gAgg_intro rfl (uncons_intro (gBool_intro rfl (uncons_intro (gSlice_intro rfl (unnil_intro (?_))))))
    have r_6 := r_6.from k0.le
    have m_5 := k_5.tame
    have bx_1 := bx_1.keep k_5
    have bx_2 := bx_2.keep k_5
    have k0 := k0.trans k_5
    have kh := kh.trans k_5
    refine hc_intro (gnomonref04_Told.hs r_6.rd rfl) fun v h_6 ⟨k_6, s⟩ => ?_
    obtain ⟨p_7, hp_7⟩ : ∃ p, p = zlim (di (p_6.1, p_6.2)) := ⟨_, rfl⟩
    rw [← hp_7] at s
    replace g := lift_let2 hp_7 g
    obtain ⟨_, _, rfl, ⟨a_7_0, c_7_0, rfl, r_7_0⟩, ⟨rfl, i_7_1⟩⟩ := s
    refine gTup_intro rfl (uncons_intro (gAgg_intro rfl (uncons_intro (gBool_intro rfl (uncons_intro (gSlice_intro rfl (unnil_intro (uncons_intro (gInt_intro rfl (unnil_intro (?_)))))))))))
    have r_7_0 := r_7_0.from k0.le
    have m_6 := k_6.tame
    have bx_1 := bx_1.keep k_6
    have bx_2 := bx_2.keep k_6
    have k0 := k0.trans k_6
    have kh := kh.trans k_6
    refine stA bx_2 (base_add _ _) rfl fun h_7 bx_2 k_7 m_7 => ?_
    have bx_1 := bx_1.keepB d_1q_2 k_7
    have k0 := KeepB.keep k0 k_7 o_2
    have kh := KeepB.keep kh k_7 oh_2
    refine stA bx_2 (base_add _ _) rfl fun h_8 bx_2 k_8 m_8 => ?_
    have bx_1 := bx_1.keepB d_1q_2 k_8
    have k0 := KeepB.keep k0 k_8 o_2
    have kh := KeepB.keep kh k_8 oh_2
    refine ldA bx_2 (base_add _ _) rfl ?_
    refine gBool_intro rfl ?_
    refine ldA bx_2 (base_add _ _) rfl ?_
    refine gSlice_intro rfl ?_
    exact g _ _ k0 ⟨_, _, rfl, ⟨_, _, rfl, (r_7_0.tame (m_7.trans m_8))⟩, ⟨rfl, i_7_1⟩⟩
def v (b0_0 : Bool) (xs0_1 : List Nat) : ((Bool × List Nat) × Int) := D1.v b0_0 xs0_1
theorem hv {h : Hp} {b0_0 : Bool} {a0_1 : Option Addr} {c0_1 l0_1 : Nat} {xs0_1 : List Nat} (r0_1 : Rd h a0_1 c0_1 xs0_1) (e0_1 : l0_1 = xs0_1.length) : HC id #[.agg #[.bool b0_0, .slice a0_1 l0_1 c0_1]] h fun v_ h_ => Keep h h_ ∧ (s2 sZW (sI .i64)) h h_ v_ (v b0_0 xs0_1) :=
  ok (D1.hv (Keep.refl _) r0_1 e0_1 fun v h' k s => ⟨k, s⟩)
end gnomonref04_DocNeg

namespace gnomonref04_DocCmp
def D2.v (b2_0 : Bool) (xs2_1 : List Nat) (b3_0 : Bool) (xs3_1 : List Nat) : (Int × Int) :=
  letV (dz (zi (b2_0, xs2_1))) fun p_7 =>
  letV (dz (zi (b3_0, xs3_1))) fun p_8 =>
  ((cmpZ (di (p_7.1, p_7.2)) (di (p_8.1, p_8.2))), (0 : Int))
theorem D2.hv {R : Rt} {h0 h : Hp} (k0 : Keep h0 h) {b2_0 : Bool} {a2_1 : Option Addr} {c2_1 : Nat} {xs2_1 : List Nat} (r2_1 : Rd h a2_1 c2_1 xs2_1) {B2 : Nat} (bx2 : BlkV h B2 [.bool b2_0, .slice a2_1 xs2_1.length c2_1]) (o2 : h0.size ≤ B2) {b3_0 : Bool} {a3_1 : Option Addr} {c3_1 : Nat} {xs3_1 : List Nat} (r3_1 : Rd h a3_1 c3_1 xs3_1) {B3 : Nat} (bx3 : BlkV h B3 [.bool b3_0, .slice a3_1 xs3_1.length c3_1]) (o3 : h0.size ≤ B3) (d2q3 : B2 ≠ B3) (v2 : xs2_1.length ≤ 8192) (v3 : xs3_1.length ≤ 8192) (g : Post (s2 (sI .i64) (sI .i64)) h0 R (D2.v b2_0 xs2_1 b3_0 xs3_1)) : D2.t R (⟨B2, 0, none⟩ : Addr) (⟨B3, 0, none⟩ : Addr) h := by
  have kh := Keep.refl h
  have lt2 := bx2.lt
  have lt3 := bx3.lt
  have w_z : (D.digs 0).length = 0 := by simp [D.digs_zero]
  unfold D2.v at g
  unfold D2.t
  refine ⟨blkLt rfl (lt2), ?_⟩
  refine ldA bx2 (base_add _ _) rfl ?_
  refine gBool_intro rfl ?_
  refine ldA bx2 (base_add _ _) rfl ?_
  refine gSlice_intro rfl ?_
  refine hc_intro (gnomonref04_From.hs r2_1 rfl) fun v h_1 ⟨k_1, s⟩ => ?_
  obtain ⟨p_7, hp_7⟩ : ∃ p, p = dz (zi (b2_0, xs2_1)) := ⟨_, rfl⟩
  rw [← hp_7] at s
  replace g := lift_let2 hp_7 g
  have w_7 := bzFrom b2_0 (r2_1).words
  rw [← hp_7] at w_7
  obtain ⟨a_7, c_7, rfl, r_7⟩ := s
  refine gAgg_intro rfl (uncons_intro (gBool_intro rfl (uncons_intro (gSlice_intro rfl (unnil_intro (?_))))))
  have r_7 := r_7.from k0.le
  have m_1 := k_1.tame
  have bx2 := bx2.keep k_1
  have bx3 := bx3.keep k_1
  have k0 := k0.trans k_1
  have kh := kh.trans k_1
  refine ⟨k_1.preLe (Nat.le_refl _), ?_⟩
  refine ⟨blkLt rfl (lt3), ?_⟩
  refine ldA bx3 (base_add _ _) rfl ?_
  refine gBool_intro rfl ?_
  refine ldA bx3 (base_add _ _) rfl ?_
  refine gSlice_intro rfl ?_
  refine hc_intro (gnomonref04_From.hs (r3_1.tame (m_1)) rfl) fun v h_2 ⟨k_2, s⟩ => ?_
  obtain ⟨p_8, hp_8⟩ : ∃ p, p = dz (zi (b3_0, xs3_1)) := ⟨_, rfl⟩
  rw [← hp_8] at s
  replace g := lift_let2 hp_8 g
  have w_8 := bzFrom b3_0 ((r3_1.tame (m_1))).words
  rw [← hp_8] at w_8
  obtain ⟨a_8, c_8, rfl, r_8⟩ := s
  refine gAgg_intro rfl (uncons_intro (gBool_intro rfl (uncons_intro (gSlice_intro rfl (unnil_intro (?_))))))
  have r_8 := r_8.from k0.le
  have m_2 := k_2.tame
  have bx2 := bx2.keep k_2
  have bx3 := bx3.keep k_2
  have k0 := k0.trans k_2
  have kh := kh.trans k_2
  refine ⟨k_2.preLe (m_1).le, ?_⟩
  refine hc_intro (gnomonref04_Cmp.hs (r_7.tame (m_2)).rd rfl r_8.rd rfl (by first | assumption | decide | omega) (by first | assumption | decide | omega)) fun v h_3 ⟨k_3, s⟩ => ?_
  obtain ⟨rfl, i_9⟩ := s
  refine gInt_intro rfl (?_)
  have m_3 := k_3.tame
  have bx2 := bx2.keep k_3
  have bx3 := bx3.keep k_3
  have k0 := k0.trans k_3
  have kh := kh.trans k_3
  refine ⟨k_3.preLe (m_1.trans m_2).le, ?_⟩
  exact g _ _ k0 ⟨_, _, rfl, ⟨rfl, i_9⟩, ⟨rfl, (show In .i64 (0 : Int) by decide)⟩⟩
def D1.v (b0_0 : Bool) (xs0_1 : List Nat) (b1_0 : Bool) (xs1_1 : List Nat) : (Int × Int) :=
  letV (decide (FrmZ (b0_0, xs0_1))) fun p_3 =>
  bif (!p_3) then
    ((0 : Int), (2 : Int))
  else
    letV (decide (FrmZ (b1_0, xs1_1))) fun p_5 =>
    bif (!p_5) then
      ((0 : Int), (2 : Int))
    else
      D2.v b0_0 xs0_1 b1_0 xs1_1
theorem D1.hv {R : Rt} {h0 h : Hp} (k0 : Keep h0 h) {b0_0 : Bool} {a0_1 : Option Addr} {c0_1 l0_1 : Nat} {xs0_1 : List Nat} (r0_1 : Rd h a0_1 c0_1 xs0_1) (e0_1 : l0_1 = xs0_1.length) {b1_0 : Bool} {a1_1 : Option Addr} {c1_1 l1_1 : Nat} {xs1_1 : List Nat} (r1_1 : Rd h a1_1 c1_1 xs1_1) (e1_1 : l1_1 = xs1_1.length) (g : Post (s2 (sI .i64) (sI .i64)) h0 R (D1.v b0_0 xs0_1 b1_0 xs1_1)) : D1.t R b0_0 a0_1 l0_1 c0_1 b1_0 a1_1 l1_1 c1_1 h := by
  subst e0_1 e1_1
  have kh := Keep.refl h
  have w_z : (D.digs 0).length = 0 := by simp [D.digs_zero]
  unfold D1.v at g
  unfold D1.t
  refine boxV fun h_1 bx_1 k_1 => ?_
  have o_1 : h0.size ≤ h.size := k0.le
  have oh_1 : h.size ≤ h.size := kh.le
  have lt_1 := bx_1.lt
  have m_1 := k_1.tame
  have k0 := k0.trans k_1
  have kh := kh.trans k_1
  refine boxV fun h_2 bx_2 k_2 => ?_
  have d_1q_2 : h.size ≠ h_1.size := Nat.ne_of_lt bx_1.lt
  have o_2 : h0.size ≤ h_1.size := k0.le
  have oh_2 : h.size ≤ h_1.size := kh.le
  have lt_2 := bx_2.lt
  have m_2 := k_2.tame
  have bx_1 := bx_1.keep k_2
  have k0 := k0.trans k_2
  have kh := kh.trans k_2
  refine ldA bx_1 (base_add _ _) rfl ?_
  refine gBool_intro rfl ?_
  refine ldA bx_1 (base_add _ _) rfl ?_
  refine gSlice_intro rfl ?_
  refine hc_intro (gnomonref04_DocForm.hs (r0_1.tame (m_1.trans m_2)) rfl) fun v h_3 ⟨k_3, s⟩ => ?_
  obtain ⟨p_3, hp_3⟩ : ∃ p, p = decide (FrmZ (b0_0, xs0_1)) := ⟨_, rfl⟩
  rw [← hp_3] at s
  replace g := lift_let2 hp_3 g
  have u_3 := frmZ_len b0_0 xs0_1
  rw [← hp_3] at u_3
  obtain rfl := s
  refine gBool_intro rfl (?_)
  have m_3 := k_3.tame
  have bx_1 := bx_1.keep k_3
  have bx_2 := bx_2.keep k_3
  have k0 := k0.trans k_3
  have kh := kh.trans k_3
  refine lift_not g (fun q_4 g => ?_) (fun q_4 g => ?_)
  · exact g _ _ k0 ⟨_, _, rfl, ⟨rfl, (show In .i64 (0 : Int) by decide)⟩, ⟨rfl, (show In .i64 (2 : Int) by decide)⟩⟩
  · have zu_3 := u_3 q_4
    refine ldA bx_2 (base_add _ _) rfl ?_
    refine gBool_intro rfl ?_
    refine ldA bx_2 (base_add _ _) rfl ?_
    refine gSlice_intro rfl ?_
    refine hc_intro (gnomonref04_DocForm.hs (r1_1.tame (m_1.trans (m_2.trans m_3))) rfl) fun v h_4 ⟨k_4, s⟩ => ?_
    obtain ⟨p_5, hp_5⟩ : ∃ p, p = decide (FrmZ (b1_0, xs1_1)) := ⟨_, rfl⟩
    rw [← hp_5] at s
    replace g := lift_let2 hp_5 g
    have u_5 := frmZ_len b1_0 xs1_1
    rw [← hp_5] at u_5
    obtain rfl := s
    refine gBool_intro rfl (?_)
    have m_4 := k_4.tame
    have bx_1 := bx_1.keep k_4
    have bx_2 := bx_2.keep k_4
    have k0 := k0.trans k_4
    have kh := kh.trans k_4
    refine lift_not g (fun q_6 g => ?_) (fun q_6 g => ?_)
    · exact g _ _ k0 ⟨_, _, rfl, ⟨rfl, (show In .i64 (0 : Int) by decide)⟩, ⟨rfl, (show In .i64 (2 : Int) by decide)⟩⟩
    · have zu_5 := u_5 q_6
      exact D2.hv k0 (r0_1.tame (m_1.trans (m_2.trans (m_3.trans m_4)))) bx_1 o_1 (r1_1.tame (m_1.trans (m_2.trans (m_3.trans m_4)))) bx_2 o_2 d_1q_2 (by first | assumption | decide | omega) (by first | assumption | decide | omega) g
def v (b0_0 : Bool) (xs0_1 : List Nat) (b1_0 : Bool) (xs1_1 : List Nat) : (Int × Int) := D1.v b0_0 xs0_1 b1_0 xs1_1
theorem hv {h : Hp} {b0_0 : Bool} {a0_1 : Option Addr} {c0_1 l0_1 : Nat} {xs0_1 : List Nat} (r0_1 : Rd h a0_1 c0_1 xs0_1) (e0_1 : l0_1 = xs0_1.length) {b1_0 : Bool} {a1_1 : Option Addr} {c1_1 l1_1 : Nat} {xs1_1 : List Nat} (r1_1 : Rd h a1_1 c1_1 xs1_1) (e1_1 : l1_1 = xs1_1.length) : HC id #[.agg #[.bool b0_0, .slice a0_1 l0_1 c0_1], .agg #[.bool b1_0, .slice a1_1 l1_1 c1_1]] h fun v_ h_ => Keep h h_ ∧ (s2 (sI .i64) (sI .i64)) h h_ v_ (v b0_0 xs0_1 b1_0 xs1_1) :=
  ok (D1.hv (Keep.refl _) r0_1 e0_1 r1_1 e1_1 fun v h' k s => ⟨k, s⟩)
end gnomonref04_DocCmp



end Go.Proofs.YtanlcacaihdceaaGreatDoor.G

/- The document's calls of one number, and the rest of the quotients. -/
namespace Go.Proofs.YtanlcacaihdceaaGreatDoor.G
open Go.Gv
set_option linter.unusedVariables false
theorem rDocNeg_v (b : Bool) (xs : List Nat) : gnomonref04_DocNeg.v b xs = negZ (b, xs) := by
  unfold gnomonref04_DocNeg.v gnomonref04_DocNeg.D1.v negZ
  simp only [letV, di_dz']
  by_cases f : FrmZ (b, xs)
  · simp only [f, decide_true, Bool.not_true, cond_false, if_true]
  · simp only [f, decide_false, Bool.not_false, cond_true, if_false]; rfl
theorem rDocCmp_v (b c : Bool) (xs ys : List Nat) : gnomonref04_DocCmp.v b xs c ys = cmpS (b, xs) (c, ys) := by
  unfold gnomonref04_DocCmp.v gnomonref04_DocCmp.D1.v gnomonref04_DocCmp.D2.v cmpS
  simp only [letV, di_dz']
  by_cases f : FrmZ (b, xs)
  · by_cases f2 : FrmZ (c, ys)
    · simp only [f, f2, decide_true, Bool.not_true, cond_false, and_self, if_true]
    · simp only [f, f2, decide_true, decide_false, Bool.not_true, Bool.not_false, cond_false, cond_true, and_false, if_false]
  · simp only [f, decide_false, Bool.not_false, cond_true, false_and, if_false]
section
variable {a b : Option Addr} {c d l m X Y : Nat} {xs ys : List Nat} {h : Hp} {x y : Int} {p q : Bool}
theorem gnomonref04_DocNeg.hs (r : Rd h a c xs) (e : l = xs.length) : HC gnomonref04_DocNeg.id #[.agg #[.bool p, .slice a l c]] h fun v h' => Keep h h' ∧ s2 sZW (sI .i64) h h' v (negZ (p, xs)) := by rw [← rDocNeg_v]; exact gnomonref04_DocNeg.hv r e
theorem gnomonref04_DocCmp.hs (r : Rd h a c xs) (e : l = xs.length) (s : Rd h b d ys) (f : m = ys.length) : HC gnomonref04_DocCmp.id #[.agg #[.bool p, .slice a l c], .agg #[.bool q, .slice b m d]] h fun v h' => Keep h h' ∧ s2 (sI .i64) (sI .i64) h h' v (cmpS (p, xs) (q, ys)) := by rw [← rDocCmp_v]; exact gnomonref04_DocCmp.hv r e s f
end
end Go.Proofs.YtanlcacaihdceaaGreatDoor.G

/- Functions without loops as functions of values. Written by a program of this work. -/
namespace Go.Proofs.YtanlcacaihdceaaGreatDoor.G
open Go.Gv
set_option linter.unusedVariables false
set_option maxRecDepth 100000
namespace gnomonlaw04_twin
def D1.v (b0_0 : Bool) (xs0_1 : List Nat) : (Bool × List Nat) :=
  (b0_0, (xs0_1))
theorem D1.hv {R : Rt} {h0 h : Hp} (k0 : Keep h0 h) {b0_0 : Bool} {a0_1 : Option Addr} {c0_1 l0_1 : Nat} {xs0_1 : List Nat} (r0_1 : Rd h a0_1 c0_1 xs0_1) (e0_1 : l0_1 = xs0_1.length) (g : Post sZW h0 R (D1.v b0_0 xs0_1)) : D1.t R b0_0 a0_1 l0_1 c0_1 h := by
  subst e0_1
  unfold D1.v at g
  unfold D1.t
  refine boxV fun h_1 bx_1 k_1 => ?_
  have o_1 := k0.le
  have lt_1 := bx_1.lt
  have m_1 := k_1.tame
  refine boxV fun h_2 bx_2 k_2 => ?_
  have o_2 := (k0.trans k_1).le
  have lt_2 := bx_2.lt
  have m_2 := k_2.tame
  have bx_1 := (bx_1.keep k_2)
  refine ⟨blkLt (base_add _ _) ((m_2).lt lt_1), ?_⟩
  refine ldA bx_1 (base_add _ _) rfl (gBool_intro rfl ?_)
  refine ⟨blkLt (base_add _ _) ((m_2).lt lt_1), ?_⟩
  refine ldA bx_1 (base_add _ _) rfl (gSlice_intro rfl ?_)
  refine hc_intro (gnomonref01_Twin.hv (r0_1.tame (m_1.trans m_2)) rfl) fun v h_3 ⟨k_3, s⟩ => ?_
  obtain ⟨a_3, c_3, rfl, r_3⟩ := s
  refine gSlice_intro rfl (?_)
  have m_3 := k_3.tame
  refine ⟨k_3.preLe (Nat.le_refl _), ?_⟩
  have bx_2 := (bx_2.keep k_3)
  refine stA bx_2 (base_add _ _) rfl fun h_4 bx_2 k_4 m_4 => ?_
  refine stA bx_2 (base_add _ _) rfl fun h_5 bx_2 k_5 m_5 => ?_
  refine ldA bx_2 (base_add _ _) rfl (gBool_intro rfl ?_)
  refine ldA bx_2 (base_add _ _) rfl (gSlice_intro rfl ?_)
  exact g _ _ (KeepB.keep (KeepB.keep (((k0.trans k_1).trans k_2).trans k_3) k_4 o_2) k_5 o_2) ⟨_, _, rfl, ((r_3.tame (m_4.trans m_5)).from ((k0.trans k_1).trans k_2).le)⟩
def v (b0_0 : Bool) (xs0_1 : List Nat) : (Bool × List Nat) := D1.v b0_0 xs0_1
theorem hv {h : Hp} {b0_0 : Bool} {a0_1 : Option Addr} {c0_1 l0_1 : Nat} {xs0_1 : List Nat} (r0_1 : Rd h a0_1 c0_1 xs0_1) (e0_1 : l0_1 = xs0_1.length) : HC id #[.agg #[.bool b0_0, .slice a0_1 l0_1 c0_1]] h fun v_ h_ => Keep h h_ ∧ sZW h h_ v_ (v b0_0 xs0_1) :=
  ok (D1.hv (Keep.refl _) r0_1 e0_1 fun v h' k s => ⟨k, s⟩)
end gnomonlaw04_twin

namespace gnomonlaw04_told
def D1.v (b0_0 : Bool) (xs0_1 : List Nat) (x1 : Int) (b2_0 : Bool) (xs2_1 : List Nat) (x3 : Int) : Bool :=
  bif (decide ((b0_0, xs0_1) = (b2_0, xs2_1))) then
    (x1 == x3)
  else
    false
theorem D1.hv {R : Rt} {h0 h : Hp} (k0 : Keep h0 h) {b0_0 : Bool} {a0_1 : Option Addr} {c0_1 l0_1 : Nat} {xs0_1 : List Nat} (r0_1 : Rd h a0_1 c0_1 xs0_1) (e0_1 : l0_1 = xs0_1.length) {x1 : Int} (i1 : In .i64 x1) {b2_0 : Bool} {a2_1 : Option Addr} {c2_1 l2_1 : Nat} {xs2_1 : List Nat} (r2_1 : Rd h a2_1 c2_1 xs2_1) (e2_1 : l2_1 = xs2_1.length) {x3 : Int} (i3 : In .i64 x3) (g : Post sBool h0 R (D1.v b0_0 xs0_1 x1 b2_0 xs2_1 x3)) : D1.t R b0_0 a0_1 l0_1 c0_1 x1 b2_0 a2_1 l2_1 c2_1 x3 h := by
  subst e0_1 e2_1
  unfold D1.v at g
  unfold D1.t
  refine boxV fun h_1 bx_1 k_1 => ?_
  have o_1 := k0.le
  have lt_1 := bx_1.lt
  have m_1 := k_1.tame
  refine boxV fun h_2 bx_2 k_2 => ?_
  have o_2 := (k0.trans k_1).le
  have lt_2 := bx_2.lt
  have m_2 := k_2.tame
  have bx_1 := (bx_1.keep k_2)
  refine ldA bx_1 (base_add _ _) rfl (gBool_intro rfl ?_)
  refine ldA bx_1 (base_add _ _) rfl (gSlice_intro rfl ?_)
  refine ldA bx_2 (base_add _ _) rfl (gBool_intro rfl ?_)
  refine ldA bx_2 (base_add _ _) rfl (gSlice_intro rfl ?_)
  refine hc_intro (gnomonlaw04_same.hs (r0_1.tame (m_1.trans m_2)) rfl (r2_1.tame (m_1.trans m_2)) rfl) fun v h_3 ⟨k_3, s⟩ => ?_
  obtain rfl := s
  refine gBool_intro rfl (?_)
  have m_3 := k_3.tame
  refine lift_dec g (fun q_4 g => ?_) (fun q_4 g => ?_)
  · exact g _ _ (((k0.trans k_1).trans k_2).trans k_3) rfl
  exact g _ _ (((k0.trans k_1).trans k_2).trans k_3) rfl
def v (b0_0 : Bool) (xs0_1 : List Nat) (x1 : Int) (b2_0 : Bool) (xs2_1 : List Nat) (x3 : Int) : Bool := D1.v b0_0 xs0_1 x1 b2_0 xs2_1 x3
theorem hv {h : Hp} {b0_0 : Bool} {a0_1 : Option Addr} {c0_1 l0_1 : Nat} {xs0_1 : List Nat} (r0_1 : Rd h a0_1 c0_1 xs0_1) (e0_1 : l0_1 = xs0_1.length) {x1 : Int} (i1 : In .i64 x1) {b2_0 : Bool} {a2_1 : Option Addr} {c2_1 l2_1 : Nat} {xs2_1 : List Nat} (r2_1 : Rd h a2_1 c2_1 xs2_1) (e2_1 : l2_1 = xs2_1.length) {x3 : Int} (i3 : In .i64 x3) : HC id #[.agg #[.bool b0_0, .slice a0_1 l0_1 c0_1], .int .i64 x1, .agg #[.bool b2_0, .slice a2_1 l2_1 c2_1], .int .i64 x3] h fun v_ h_ => Keep h h_ ∧ sBool h h_ v_ (v b0_0 xs0_1 x1 b2_0 xs2_1 x3) :=
  ok (D1.hv (Keep.refl _) r0_1 e0_1 i1 r2_1 e2_1 i3 fun v h' k s => ⟨k, s⟩)
end gnomonlaw04_told

end Go.Proofs.YtanlcacaihdceaaGreatDoor.G

/- Copies of numbers; what the document answers. -/
namespace Go.Proofs.YtanlcacaihdceaaGreatDoor.G
open Go.Gv
set_option linter.unusedVariables false
set_option maxRecDepth 100000
def opZ (k : Int) : Int → Int → Int := if k = 0 then addI else if k = 1 then subI else if k = 2 then mulI else if k = 3 then flo else if k = 4 then cei else if k = 5 then nea else mo
def docTwoS (k : Int) (x y : Zw) : Zw × Int := if FrmZ x ∧ FrmZ y then (if 3 ≤ k ∧ zi y = 0 then (nz, 4) else zlim (opZ k (zi x) (zi y))) else (nz, 2)
section
variable {a : Option Addr} {c l : Nat} {xs : List Nat} {h : Hp} {p : Bool}
theorem gnomonlaw04_twin.hs (r : Rd h a c xs) (e : l = xs.length) : HC gnomonlaw04_twin.id #[.agg #[.bool p, .slice a l c]] h fun v h' => Keep h h' ∧ sZW h h' v (p, xs) := gnomonlaw04_twin.hv r e
end
theorem two_doc (k : Int) (x y : Zw) (f : Int → Int → Int) (h : k < 3) (e : opZ k = f) : docTwoS k x y = twoZ f x y := by
  unfold docTwoS twoZ
  subst e
  by_cases g : FrmZ x ∧ FrmZ y
  · rw [if_pos g, if_pos g, if_neg (by omega)]
  · rw [if_neg g, if_neg g]
theorem told4_same (x : Zw) (e : Int) : gnomonlaw04_told.v x.1 x.2 e x.1 x.2 e = true := by
  unfold gnomonlaw04_told.v gnomonlaw04_told.D1.v; simp
end Go.Proofs.YtanlcacaihdceaaGreatDoor.G

/- Functions without loops as functions of values. Written by a program of this work. -/
namespace Go.Proofs.YtanlcacaihdceaaGreatDoor.G
open Go.Gv
set_option linter.unusedVariables false
set_option maxRecDepth 100000
namespace gnomonref04_DocTwo
def D4.v (x0 : Int) (b6_0 : Bool) (xs6_1 : List Nat) (b8_0 : Bool) (X8_1 : Nat) (b9_0 : Bool) (X9_1 : Nat) : ((Bool × List Nat) × Int) :=
  bif (x0 == (0 : Int)) then
    letV (dz (di (b8_0, X8_1) + di (b9_0, X9_1))) fun p_13 =>
    letV (zlim (di (p_13.1, p_13.2))) fun p_14 =>
    ((p_14.1.1, p_14.1.2), p_14.2)
  else
    bif (x0 == (1 : Int)) then
      letV (dz (di (b8_0, X8_1) - di (b9_0, X9_1))) fun p_16 =>
      letV (zlim (di (p_16.1, p_16.2))) fun p_17 =>
      ((p_17.1.1, p_17.1.2), p_17.2)
    else
      letV (dz (di (b8_0, X8_1) * di (b9_0, X9_1))) fun p_18 =>
      letV (zlim (di (p_18.1, p_18.2))) fun p_19 =>
      ((p_19.1.1, p_19.1.2), p_19.2)
theorem D4.hv {R : Rt} {h0 h : Hp} (k0 : Keep h0 h) {x0 : Int} (i0 : In .i64 x0) (rl0 : 0 ≤ x0) (rh0 : x0 ≤ 2) {b6_0 : Bool} {a6_1 : Option Addr} {c6_1 : Nat} {xs6_1 : List Nat} (r6_1 : GotE eU64 h0 h a6_1 c6_1 xs6_1) {B6 : Nat} (bx6 : BlkV h B6 [.bool b6_0, .slice a6_1 xs6_1.length c6_1]) (o6 : h0.size ≤ B6) {b8_0 : Bool} {a8_1 : Option Addr} {c8_1 : Nat} {X8_1 : Nat} (r8_1 : GotE eU32 h0 h a8_1 c8_1 (D.digs X8_1)) (w8_1 : (D.digs X8_1).length ≤ 20000) {B8 : Nat} (bx8 : BlkV h B8 [.bool b8_0, .slice a8_1 (D.digs X8_1).length c8_1]) (o8 : h0.size ≤ B8) {b9_0 : Bool} {a9_1 : Option Addr} {c9_1 : Nat} {X9_1 : Nat} (r9_1 : GotE eU32 h0 h a9_1 c9_1 (D.digs X9_1)) (w9_1 : (D.digs X9_1).length ≤ 20000) {B9 : Nat} (bx9 : BlkV h B9 [.bool b9_0, .slice a9_1 (D.digs X9_1).length c9_1]) (o9 : h0.size ≤ B9) (d6q8 : B6 ≠ B8) (d6q9 : B6 ≠ B9) (d8q9 : B8 ≠ B9) (g : Post (s2 sZW (sI .i64)) h0 R (D4.v x0 b6_0 xs6_1 b8_0 X8_1 b9_0 X9_1)) : D4.t R x0 (⟨B6, 0, none⟩ : Addr) (⟨B8, 0, none⟩ : Addr) (⟨B9, 0, none⟩ : Addr) h := by
  have lt6 := bx6.lt
  have lt8 := bx8.lt
  have lt9 := bx9.lt
  have w_z : (D.digs 0).length = 0 := by simp [D.digs_zero]
  unfold D4.v at g
  unfold D4.t
  refine lift_eq g (fun q_12 g => ?_) (fun q_12 g => ?_)
  · have gq := g
    subst q_12
    have g := gq
    clear gq
    refine ldA bx8 (base_add _ _) rfl (gBool_intro rfl ?_)
    refine ldA bx8 (base_add _ _) rfl (gSlice_intro rfl ?_)
    refine ldA bx9 (base_add _ _) rfl (gBool_intro rfl ?_)
    refine ldA bx9 (base_add _ _) rfl (gSlice_intro rfl ?_)
    refine hc_intro (gnomonref04_Add.hs r8_1.rd rfl r9_1.rd rfl (by first | assumption | decide | omega) (by first | assumption | decide | omega)) fun v h_1 ⟨k_1, s⟩ => ?_
    obtain ⟨p_13, hp_13⟩ : ∃ p, p = dz (di (b8_0, X8_1) + di (b9_0, X9_1)) := ⟨_, rfl⟩
    rw [← hp_13] at s
    replace g := lift_let2 hp_13 g
    have w_13 := bzAdd b8_0 X8_1 b9_0 X9_1
    rw [← hp_13] at w_13
    obtain ⟨a_13, c_13, rfl, r_13⟩ := s
    refine gAgg_intro rfl (uncons_intro (gBool_intro rfl (uncons_intro (gSlice_intro rfl (unnil_intro (?_))))))
    have m_1 := k_1.tame
    refine hc_intro (gnomonref04_Told.hs r_13.rd rfl) fun v h_2 ⟨k_2, s⟩ => ?_
    obtain ⟨p_14, hp_14⟩ : ∃ p, p = zlim (di (p_13.1, p_13.2)) := ⟨_, rfl⟩
    rw [← hp_14] at s
    replace g := lift_let2 hp_14 g
    obtain ⟨_, _, rfl, ⟨a_14_0, c_14_0, rfl, r_14_0⟩, ⟨rfl, i_14_1⟩⟩ := s
    refine gTup_intro rfl (uncons_intro (gAgg_intro rfl (uncons_intro (gBool_intro rfl (uncons_intro (gSlice_intro rfl (unnil_intro (uncons_intro (gInt_intro rfl (unnil_intro (?_)))))))))))
    have m_2 := k_2.tame
    have bx6 := ((bx6.keep k_1).keep k_2)
    refine stA bx6 (base_add _ _) rfl fun h_3 bx6 k_3 m_3 => ?_
    refine stA bx6 (base_add _ _) rfl fun h_4 bx6 k_4 m_4 => ?_
    refine ldA bx6 (base_add _ _) rfl (gBool_intro rfl ?_)
    refine ldA bx6 (base_add _ _) rfl (gSlice_intro rfl ?_)
    exact g _ _ (KeepB.keep (KeepB.keep ((k0.trans k_1).trans k_2) k_3 o6) k_4 o6) ⟨_, _, rfl, ⟨_, _, rfl, ((r_14_0.tame (m_3.trans m_4)).from (k0.trans k_1).le)⟩, ⟨rfl, i_14_1⟩⟩
  refine lift_eq g (fun q_15 g => ?_) (fun q_15 g => ?_)
  · have gq := g
    subst q_15
    have g := gq
    clear gq
    refine ldA bx8 (base_add _ _) rfl (gBool_intro rfl ?_)
    refine ldA bx8 (base_add _ _) rfl (gSlice_intro rfl ?_)
    refine ldA bx9 (base_add _ _) rfl (gBool_intro rfl ?_)
    refine ldA bx9 (base_add _ _) rfl (gSlice_intro rfl ?_)
    refine hc_intro (gnomonref04_Sub.hs r8_1.rd rfl r9_1.rd rfl (by first | assumption | decide | omega) (by first | assumption | decide | omega)) fun v h_1 ⟨k_1, s⟩ => ?_
    obtain ⟨p_16, hp_16⟩ : ∃ p, p = dz (di (b8_0, X8_1) - di (b9_0, X9_1)) := ⟨_, rfl⟩
    rw [← hp_16] at s
    replace g := lift_let2 hp_16 g
    have w_16 := bzSub b8_0 X8_1 b9_0 X9_1
    rw [← hp_16] at w_16
    obtain ⟨a_16, c_16, rfl, r_16⟩ := s
    refine gAgg_intro rfl (uncons_intro (gBool_intro rfl (uncons_intro (gSlice_intro rfl (unnil_intro (?_))))))
    have m_1 := k_1.tame
    refine hc_intro (gnomonref04_Told.hs r_16.rd rfl) fun v h_2 ⟨k_2, s⟩ => ?_
    obtain ⟨p_17, hp_17⟩ : ∃ p, p = zlim (di (p_16.1, p_16.2)) := ⟨_, rfl⟩
    rw [← hp_17] at s
    replace g := lift_let2 hp_17 g
    obtain ⟨_, _, rfl, ⟨a_17_0, c_17_0, rfl, r_17_0⟩, ⟨rfl, i_17_1⟩⟩ := s
    refine gTup_intro rfl (uncons_intro (gAgg_intro rfl (uncons_intro (gBool_intro rfl (uncons_intro (gSlice_intro rfl (unnil_intro (uncons_intro (gInt_intro rfl (unnil_intro (?_)))))))))))
    have m_2 := k_2.tame
    have bx6 := ((bx6.keep k_1).keep k_2)
    refine stA bx6 (base_add _ _) rfl fun h_3 bx6 k_3 m_3 => ?_
    refine stA bx6 (base_add _ _) rfl fun h_4 bx6 k_4 m_4 => ?_
    refine ldA bx6 (base_add _ _) rfl (gBool_intro rfl ?_)
    refine ldA bx6 (base_add _ _) rfl (gSlice_intro rfl ?_)
    exact g _ _ (KeepB.keep (KeepB.keep ((k0.trans k_1).trans k_2) k_3 o6) k_4 o6) ⟨_, _, rfl, ⟨_, _, rfl, ((r_17_0.tame (m_3.trans m_4)).from (k0.trans k_1).le)⟩, ⟨rfl, i_17_1⟩⟩
  refine c_eq (fun _ => ?_) fun q => absurd (by omega) q
  have qk : x0 = 2 := by omega
  have gq := g
  subst qk
  have g := gq
  clear gq
  refine ldA bx8 (base_add _ _) rfl (gBool_intro rfl ?_)
  refine ldA bx8 (base_add _ _) rfl (gSlice_intro rfl ?_)
  refine ldA bx9 (base_add _ _) rfl (gBool_intro rfl ?_)
  refine ldA bx9 (base_add _ _) rfl (gSlice_intro rfl ?_)
  refine hc_intro (gnomonref04_Mul.hs r8_1.rd rfl r9_1.rd rfl (by first | assumption | decide | omega) (by first | assumption | decide | omega)) fun v h_1 ⟨k_1, s⟩ => ?_
  obtain ⟨p_18, hp_18⟩ : ∃ p, p = dz (di (b8_0, X8_1) * di (b9_0, X9_1)) := ⟨_, rfl⟩
  rw [← hp_18] at s
  replace g := lift_let2 hp_18 g
  have w_18 := bzMul b8_0 X8_1 b9_0 X9_1
  rw [← hp_18] at w_18
  obtain ⟨a_18, c_18, rfl, r_18⟩ := s
  refine gAgg_intro rfl (uncons_intro (gBool_intro rfl (uncons_intro (gSlice_intro rfl (unnil_intro (?_))))))
  have m_1 := k_1.tame
  refine hc_intro (gnomonref04_Told.hs r_18.rd rfl) fun v h_2 ⟨k_2, s⟩ => ?_
  obtain ⟨p_19, hp_19⟩ : ∃ p, p = zlim (di (p_18.1, p_18.2)) := ⟨_, rfl⟩
  rw [← hp_19] at s
  replace g := lift_let2 hp_19 g
  obtain ⟨_, _, rfl, ⟨a_19_0, c_19_0, rfl, r_19_0⟩, ⟨rfl, i_19_1⟩⟩ := s
  refine gTup_intro rfl (uncons_intro (gAgg_intro rfl (uncons_intro (gBool_intro rfl (uncons_intro (gSlice_intro rfl (unnil_intro (uncons_intro (gInt_intro rfl (unnil_intro (?_)))))))))))
  have m_2 := k_2.tame
  have bx6 := ((bx6.keep k_1).keep k_2)
  refine stA bx6 (base_add _ _) rfl fun h_3 bx6 k_3 m_3 => ?_
  refine stA bx6 (base_add _ _) rfl fun h_4 bx6 k_4 m_4 => ?_
  refine ldA bx6 (base_add _ _) rfl (gBool_intro rfl ?_)
  refine ldA bx6 (base_add _ _) rfl (gSlice_intro rfl ?_)
  exact g _ _ (KeepB.keep (KeepB.keep ((k0.trans k_1).trans k_2) k_3 o6) k_4 o6) ⟨_, _, rfl, ⟨_, _, rfl, ((r_19_0.tame (m_3.trans m_4)).from (k0.trans k_1).le)⟩, ⟨rfl, i_19_1⟩⟩
def D3.v (x0 : Int) (b6_0 : Bool) (xs6_1 : List Nat) (b8_0 : Bool) (X8_1 : Nat) (b9_0 : Bool) (X9_1 : Nat) : ((Bool × List Nat) × Int) :=
  D4.v x0 b6_0 xs6_1 b8_0 X8_1 b9_0 X9_1
theorem D3.hv {R : Rt} {h0 h : Hp} (k0 : Keep h0 h) {x0 : Int} (i0 : In .i64 x0) (rl0 : 0 ≤ x0) (rh0 : x0 ≤ 2) {b6_0 : Bool} {a6_1 : Option Addr} {c6_1 : Nat} {xs6_1 : List Nat} (r6_1 : GotE eU64 h0 h a6_1 c6_1 xs6_1) {B6 : Nat} (bx6 : BlkV h B6 [.bool b6_0, .slice a6_1 xs6_1.length c6_1]) (o6 : h0.size ≤ B6) {b8_0 : Bool} {a8_1 : Option Addr} {c8_1 : Nat} {X8_1 : Nat} (r8_1 : GotE eU32 h0 h a8_1 c8_1 (D.digs X8_1)) (w8_1 : (D.digs X8_1).length ≤ 20000) {B8 : Nat} (bx8 : BlkV h B8 [.bool b8_0, .slice a8_1 (D.digs X8_1).length c8_1]) (o8 : h0.size ≤ B8) {b9_0 : Bool} {a9_1 : Option Addr} {c9_1 : Nat} {X9_1 : Nat} (r9_1 : GotE eU32 h0 h a9_1 c9_1 (D.digs X9_1)) (w9_1 : (D.digs X9_1).length ≤ 20000) {B9 : Nat} (bx9 : BlkV h B9 [.bool b9_0, .slice a9_1 (D.digs X9_1).length c9_1]) (o9 : h0.size ≤ B9) (d6q8 : B6 ≠ B8) (d6q9 : B6 ≠ B9) (d8q9 : B8 ≠ B9) (g : Post (s2 sZW (sI .i64)) h0 R (D3.v x0 b6_0 xs6_1 b8_0 X8_1 b9_0 X9_1)) : D3.t R x0 (⟨B6, 0, none⟩ : Addr) (⟨B8, 0, none⟩ : Addr) (⟨B9, 0, none⟩ : Addr) h := by
  have lt6 := bx6.lt
  have lt8 := bx8.lt
  have lt9 := bx9.lt
  have w_z : (D.digs 0).length = 0 := by simp [D.digs_zero]
  unfold D3.v at g
  unfold D3.t
  refine c_dec (fun q => absurd q (by omega)) fun _ => ?_
  exact D4.hv k0 i0 (by first | assumption | decide | omega) (by first | assumption | decide | omega) r6_1 bx6 o6 r8_1 (by first | assumption | decide | omega) bx8 o8 r9_1 (by first | assumption | decide | omega) bx9 o9 d6q8 d6q9 d8q9 g
def D2.v (x0 : Int) (b4_0 : Bool) (xs4_1 : List Nat) (b5_0 : Bool) (xs5_1 : List Nat) (b6_0 : Bool) (xs6_1 : List Nat) : ((Bool × List Nat) × Int) :=
  letV (dz (zi (b4_0, xs4_1))) fun p_8 =>
  letV (dz (zi (b5_0, xs5_1))) fun p_9 =>
  D3.v x0 b6_0 xs6_1 p_8.1 p_8.2 p_9.1 p_9.2
theorem D2.hv {R : Rt} {h0 h : Hp} (k0 : Keep h0 h) {x0 : Int} (i0 : In .i64 x0) (rl0 : 0 ≤ x0) (rh0 : x0 ≤ 2) {b4_0 : Bool} {a4_1 : Option Addr} {c4_1 : Nat} {xs4_1 : List Nat} (r4_1 : Rd h a4_1 c4_1 xs4_1) {B4 : Nat} (bx4 : BlkV h B4 [.bool b4_0, .slice a4_1 xs4_1.length c4_1]) (o4 : h0.size ≤ B4) {b5_0 : Bool} {a5_1 : Option Addr} {c5_1 : Nat} {xs5_1 : List Nat} (r5_1 : Rd h a5_1 c5_1 xs5_1) {B5 : Nat} (bx5 : BlkV h B5 [.bool b5_0, .slice a5_1 xs5_1.length c5_1]) (o5 : h0.size ≤ B5) {b6_0 : Bool} {a6_1 : Option Addr} {c6_1 : Nat} {xs6_1 : List Nat} (r6_1 : GotE eU64 h0 h a6_1 c6_1 xs6_1) {B6 : Nat} (bx6 : BlkV h B6 [.bool b6_0, .slice a6_1 xs6_1.length c6_1]) (o6 : h0.size ≤ B6) (d4q5 : B4 ≠ B5) (d4q6 : B4 ≠ B6) (d5q6 : B5 ≠ B6) (v4 : xs4_1.length ≤ 8192) (v5 : xs5_1.length ≤ 8192) (g : Post (s2 sZW (sI .i64)) h0 R (D2.v x0 b4_0 xs4_1 b5_0 xs5_1 b6_0 xs6_1)) : D2.t R x0 (⟨B4, 0, none⟩ : Addr) (⟨B5, 0, none⟩ : Addr) (⟨B6, 0, none⟩ : Addr) h := by
  have lt4 := bx4.lt
  have lt5 := bx5.lt
  have lt6 := bx6.lt
  have w_z : (D.digs 0).length = 0 := by simp [D.digs_zero]
  unfold D2.v at g
  unfold D2.t
  refine ⟨blkLt rfl (lt4), ?_⟩
  refine ldA bx4 (base_add _ _) rfl (gBool_intro rfl ?_)
  refine ldA bx4 (base_add _ _) rfl (gSlice_intro rfl ?_)
  refine ⟨blkLt rfl (lt5), ?_⟩
  refine ldA bx5 (base_add _ _) rfl (gBool_intro rfl ?_)
  refine ldA bx5 (base_add _ _) rfl (gSlice_intro rfl ?_)
  refine ⟨?_, ?_, ?_⟩
  · refine hc_intro (gnomonref04_From.hs r4_1 rfl) fun v h_1 ⟨k_1, s⟩ => ?_
    obtain ⟨p_8, hp_8⟩ : ∃ p, p = dz (zi (b4_0, xs4_1)) := ⟨_, rfl⟩
    rw [← hp_8] at s
    replace g := lift_let2 hp_8 g
    have w_8 := bzFrom b4_0 (r4_1).words
    rw [← hp_8] at w_8
    obtain ⟨a_8, c_8, rfl, r_8⟩ := s
    refine gAgg_intro rfl (uncons_intro (gBool_intro rfl (uncons_intro (gSlice_intro rfl (unnil_intro (?_))))))
    have m_1 := k_1.tame
    refine ⟨k_1.preLe (Nat.le_refl _), ?_⟩
    refine ⟨?_, ?_, ?_⟩
    · refine hc_intro (gnomonref04_From.hs (r5_1.tame (m_1)) rfl) fun v h_2 ⟨k_2, s⟩ => ?_
      obtain ⟨p_9, hp_9⟩ : ∃ p, p = dz (zi (b5_0, xs5_1)) := ⟨_, rfl⟩
      rw [← hp_9] at s
      replace g := lift_let2 hp_9 g
      have w_9 := bzFrom b5_0 ((r5_1.tame (m_1))).words
      rw [← hp_9] at w_9
      obtain ⟨a_9, c_9, rfl, r_9⟩ := s
      refine gAgg_intro rfl (uncons_intro (gBool_intro rfl (uncons_intro (gSlice_intro rfl (unnil_intro (?_))))))
      have m_2 := k_2.tame
      refine ⟨k_2.preLe (m_1).le, ?_⟩
      refine ⟨?_, ?_⟩
      · refine boxV fun h_3 bx_10 k_3 => ?_
        have bx_10 : BlkV h_3 (h_2.size) [.bool false, .slice none (D.digs 0).length 0] := by rw [D.digs_zero]; exact bx_10
        have o_10 := ((k0.trans k_1).trans k_2).le
        have lt_10 := bx_10.lt
        have m_3 := k_3.tame
        refine ⟨k_3.preLe (m_1.trans m_2).le, ?_⟩
        refine boxV fun h_4 bx_11 k_4 => ?_
        have bx_11 : BlkV h_4 (h_3.size) [.bool false, .slice none (D.digs 0).length 0] := by rw [D.digs_zero]; exact bx_11
        have o_11 := (((k0.trans k_1).trans k_2).trans k_3).le
        have lt_11 := bx_11.lt
        have m_4 := k_4.tame
        refine ⟨k_4.preLe (m_1.trans (m_2.trans m_3)).le, ?_⟩
        have bx_10 := (bx_10.keep k_4)
        refine stA bx_10 (base_add _ _) rfl fun h_5 bx_10 k_5 m_5 => ?_
        refine stA bx_10 (base_add _ _) rfl fun h_6 bx_10 k_6 m_6 => ?_
        have bx_11 := ((bx_11.keepB (Ne.symm (Nat.ne_of_lt lt_10)) k_5).keepB (Ne.symm (Nat.ne_of_lt lt_10)) k_6)
        refine stA bx_11 (base_add _ _) rfl fun h_7 bx_11 k_7 m_7 => ?_
        refine stA bx_11 (base_add _ _) rfl fun h_8 bx_11 k_8 m_8 => ?_
        have bx6 := ((((((((bx6.keep k_1).keep k_2).keep k_3).keep k_4).keepB (Nat.ne_of_lt ((m_1.trans m_2).lt lt6)) k_5).keepB (Nat.ne_of_lt ((m_1.trans m_2).lt lt6)) k_6).keepB (Nat.ne_of_lt ((m_1.trans (m_2.trans m_3)).lt lt6)) k_7).keepB (Nat.ne_of_lt ((m_1.trans (m_2.trans m_3)).lt lt6)) k_8)
        have bx_10 := ((bx_10.keepB (Nat.ne_of_lt lt_10) k_7).keepB (Nat.ne_of_lt lt_10) k_8)
        exact D3.hv (KeepB.keep (KeepB.keep (KeepB.keep (KeepB.keep ((((k0.trans k_1).trans k_2).trans k_3).trans k_4) k_5 o_10) k_6 o_10) k_7 o_11) k_8 o_11) i0 (by first | assumption | decide | omega) (by first | assumption | decide | omega) (r6_1.tame (m_1.trans (m_2.trans (m_3.trans (m_4.trans (m_5.trans (m_6.trans (m_7.trans m_8)))))))) bx6 o6 ((r_8.tame (m_2.trans (m_3.trans (m_4.trans (m_5.trans (m_6.trans (m_7.trans m_8))))))).from k0.le) (by first | assumption | decide | omega) bx_10 o_10 ((r_9.tame (m_3.trans (m_4.trans (m_5.trans (m_6.trans (m_7.trans m_8)))))).from (k0.trans k_1).le) (by first | assumption | decide | omega) bx_11 o_11 (Nat.ne_of_lt ((m_1.trans m_2).lt lt6)) (Nat.ne_of_lt ((m_1.trans (m_2.trans m_3)).lt lt6)) (Nat.ne_of_lt lt_10) g
      refine boxV fun h_3 bx_20 k_3 => ?_
      have bx_20 : BlkV h_3 (h_2.size) [.bool false, .slice none (D.digs 0).length 0] := by rw [D.digs_zero]; exact bx_20
      have o_20 := ((k0.trans k_1).trans k_2).le
      have lt_20 := bx_20.lt
      have m_3 := k_3.tame
      refine ⟨k_3.preLe (m_1.trans m_2).le, ?_⟩
      refine boxV fun h_4 bx_21 k_4 => ?_
      have bx_21 : BlkV h_4 (h_3.size) [.bool false, .slice none (D.digs 0).length 0] := by rw [D.digs_zero]; exact bx_21
      have o_21 := (((k0.trans k_1).trans k_2).trans k_3).le
      have lt_21 := bx_21.lt
      have m_4 := k_4.tame
      refine ⟨k_4.preLe (m_1.trans (m_2.trans m_3)).le, ?_⟩
      refine stA bx_21 (base_add _ _) rfl fun h_5 bx_21 k_5 m_5 => ?_
      refine stA bx_21 (base_add _ _) rfl fun h_6 bx_21 k_6 m_6 => ?_
      have bx_20 := (((bx_20.keep k_4).keepB (Nat.ne_of_lt lt_20) k_5).keepB (Nat.ne_of_lt lt_20) k_6)
      refine stA bx_20 (base_add _ _) rfl fun h_7 bx_20 k_7 m_7 => ?_
      refine stA bx_20 (base_add _ _) rfl fun h_8 bx_20 k_8 m_8 => ?_
      have bx6 := ((((((((bx6.keep k_1).keep k_2).keep k_3).keep k_4).keepB (Nat.ne_of_lt ((m_1.trans (m_2.trans m_3)).lt lt6)) k_5).keepB (Nat.ne_of_lt ((m_1.trans (m_2.trans m_3)).lt lt6)) k_6).keepB (Nat.ne_of_lt ((m_1.trans m_2).lt lt6)) k_7).keepB (Nat.ne_of_lt ((m_1.trans m_2).lt lt6)) k_8)
      have bx_21 := ((bx_21.keepB (Ne.symm (Nat.ne_of_lt lt_20)) k_7).keepB (Ne.symm (Nat.ne_of_lt lt_20)) k_8)
      exact D3.hv (KeepB.keep (KeepB.keep (KeepB.keep (KeepB.keep ((((k0.trans k_1).trans k_2).trans k_3).trans k_4) k_5 o_21) k_6 o_21) k_7 o_20) k_8 o_20) i0 (by first | assumption | decide | omega) (by first | assumption | decide | omega) (r6_1.tame (m_1.trans (m_2.trans (m_3.trans (m_4.trans (m_5.trans (m_6.trans (m_7.trans m_8)))))))) bx6 o6 ((r_8.tame (m_2.trans (m_3.trans (m_4.trans (m_5.trans (m_6.trans (m_7.trans m_8))))))).from k0.le) (by first | assumption | decide | omega) bx_21 o_21 ((r_9.tame (m_3.trans (m_4.trans (m_5.trans (m_6.trans (m_7.trans m_8)))))).from (k0.trans k_1).le) (by first | assumption | decide | omega) bx_20 o_20 (Nat.ne_of_lt ((m_1.trans (m_2.trans m_3)).lt lt6)) (Nat.ne_of_lt ((m_1.trans m_2).lt lt6)) (Ne.symm (Nat.ne_of_lt lt_20)) g
    · refine boxV fun h_2 bx_22 k_2 => ?_
      have bx_22 : BlkV h_2 (h_1.size) [.bool false, .slice none (D.digs 0).length 0] := by rw [D.digs_zero]; exact bx_22
      have o_22 := (k0.trans k_1).le
      have lt_22 := bx_22.lt
      have m_2 := k_2.tame
      refine ⟨k_2.preLe (m_1).le, ?_⟩
      refine ⟨?_, ?_⟩
      · refine hc_intro (gnomonref04_From.hs (r5_1.tame (m_1.trans m_2)) rfl) fun v h_3 ⟨k_3, s⟩ => ?_
        obtain ⟨p_23, hp_23⟩ : ∃ p, p = dz (zi (b5_0, xs5_1)) := ⟨_, rfl⟩
        rw [← hp_23] at s
        replace g := lift_let2 hp_23 g
        have w_23 := bzFrom b5_0 ((r5_1.tame (m_1.trans m_2))).words
        rw [← hp_23] at w_23
        obtain ⟨a_23, c_23, rfl, r_23⟩ := s
        refine gAgg_intro rfl (uncons_intro (gBool_intro rfl (uncons_intro (gSlice_intro rfl (unnil_intro (?_))))))
        have m_3 := k_3.tame
        refine ⟨k_3.preLe (m_1.trans m_2).le, ?_⟩
        refine boxV fun h_4 bx_24 k_4 => ?_
        have bx_24 : BlkV h_4 (h_3.size) [.bool false, .slice none (D.digs 0).length 0] := by rw [D.digs_zero]; exact bx_24
        have o_24 := (((k0.trans k_1).trans k_2).trans k_3).le
        have lt_24 := bx_24.lt
        have m_4 := k_4.tame
        refine ⟨k_4.preLe (m_1.trans (m_2.trans m_3)).le, ?_⟩
        have bx_22 := ((bx_22.keep k_3).keep k_4)
        refine stA bx_22 (base_add _ _) rfl fun h_5 bx_22 k_5 m_5 => ?_
        refine stA bx_22 (base_add _ _) rfl fun h_6 bx_22 k_6 m_6 => ?_
        have bx_24 := ((bx_24.keepB (Ne.symm (Nat.ne_of_lt ((m_3).lt lt_22))) k_5).keepB (Ne.symm (Nat.ne_of_lt ((m_3).lt lt_22))) k_6)
        refine stA bx_24 (base_add _ _) rfl fun h_7 bx_24 k_7 m_7 => ?_
        refine stA bx_24 (base_add _ _) rfl fun h_8 bx_24 k_8 m_8 => ?_
        have bx6 := ((((((((bx6.keep k_1).keep k_2).keep k_3).keep k_4).keepB (Nat.ne_of_lt ((m_1).lt lt6)) k_5).keepB (Nat.ne_of_lt ((m_1).lt lt6)) k_6).keepB (Nat.ne_of_lt ((m_1.trans (m_2.trans m_3)).lt lt6)) k_7).keepB (Nat.ne_of_lt ((m_1.trans (m_2.trans m_3)).lt lt6)) k_8)
        have bx_22 := ((bx_22.keepB (Nat.ne_of_lt ((m_3).lt lt_22)) k_7).keepB (Nat.ne_of_lt ((m_3).lt lt_22)) k_8)
        exact D3.hv (KeepB.keep (KeepB.keep (KeepB.keep (KeepB.keep ((((k0.trans k_1).trans k_2).trans k_3).trans k_4) k_5 o_22) k_6 o_22) k_7 o_24) k_8 o_24) i0 (by first | assumption | decide | omega) (by first | assumption | decide | omega) (r6_1.tame (m_1.trans (m_2.trans (m_3.trans (m_4.trans (m_5.trans (m_6.trans (m_7.trans m_8)))))))) bx6 o6 ((r_8.tame (m_2.trans (m_3.trans (m_4.trans (m_5.trans (m_6.trans (m_7.trans m_8))))))).from k0.le) (by first | assumption | decide | omega) bx_22 o_22 ((r_23.tame (m_4.trans (m_5.trans (m_6.trans (m_7.trans m_8))))).from ((k0.trans k_1).trans k_2).le) (by first | assumption | decide | omega) bx_24 o_24 (Nat.ne_of_lt ((m_1).lt lt6)) (Nat.ne_of_lt ((m_1.trans (m_2.trans m_3)).lt lt6)) (Nat.ne_of_lt ((m_3).lt lt_22)) g
      refine boxV fun h_3 bx_25 k_3 => ?_
      have bx_25 : BlkV h_3 (h_2.size) [.bool false, .slice none (D.digs 0).length 0] := by rw [D.digs_zero]; exact bx_25
      have o_25 := ((k0.trans k_1).trans k_2).le
      have lt_25 := bx_25.lt
      have m_3 := k_3.tame
      refine ⟨k_3.preLe (m_1.trans m_2).le, ?_⟩
      refine hc_intro (gnomonref04_From.hs (r5_1.tame (m_1.trans (m_2.trans m_3))) rfl) fun v h_4 ⟨k_4, s⟩ => ?_
      obtain ⟨p_26, hp_26⟩ : ∃ p, p = dz (zi (b5_0, xs5_1)) := ⟨_, rfl⟩
      rw [← hp_26] at s
      replace g := lift_let2 hp_26 g
      have w_26 := bzFrom b5_0 ((r5_1.tame (m_1.trans (m_2.trans m_3)))).words
      rw [← hp_26] at w_26
      obtain ⟨a_26, c_26, rfl, r_26⟩ := s
      refine gAgg_intro rfl (uncons_intro (gBool_intro rfl (uncons_intro (gSlice_intro rfl (unnil_intro (?_))))))
      have m_4 := k_4.tame
      refine ⟨k_4.preLe (m_1.trans (m_2.trans m_3)).le, ?_⟩
      have bx_22 := ((bx_22.keep k_3).keep k_4)
      refine stA bx_22 (base_add _ _) rfl fun h_5 bx_22 k_5 m_5 => ?_
      refine stA bx_22 (base_add _ _) rfl fun h_6 bx_22 k_6 m_6 => ?_
      have bx_25 := (((bx_25.keep k_4).keepB (Ne.symm (Nat.ne_of_lt lt_22)) k_5).keepB (Ne.symm (Nat.ne_of_lt lt_22)) k_6)
      refine stA bx_25 (base_add _ _) rfl fun h_7 bx_25 k_7 m_7 => ?_
      refine stA bx_25 (base_add _ _) rfl fun h_8 bx_25 k_8 m_8 => ?_
      have bx6 := ((((((((bx6.keep k_1).keep k_2).keep k_3).keep k_4).keepB (Nat.ne_of_lt ((m_1).lt lt6)) k_5).keepB (Nat.ne_of_lt ((m_1).lt lt6)) k_6).keepB (Nat.ne_of_lt ((m_1.trans m_2).lt lt6)) k_7).keepB (Nat.ne_of_lt ((m_1.trans m_2).lt lt6)) k_8)
      have bx_22 := ((bx_22.keepB (Nat.ne_of_lt lt_22) k_7).keepB (Nat.ne_of_lt lt_22) k_8)
      exact D3.hv (KeepB.keep (KeepB.keep (KeepB.keep (KeepB.keep ((((k0.trans k_1).trans k_2).trans k_3).trans k_4) k_5 o_22) k_6 o_22) k_7 o_25) k_8 o_25) i0 (by first | assumption | decide | omega) (by first | assumption | decide | omega) (r6_1.tame (m_1.trans (m_2.trans (m_3.trans (m_4.trans (m_5.trans (m_6.trans (m_7.trans m_8)))))))) bx6 o6 ((r_8.tame (m_2.trans (m_3.trans (m_4.trans (m_5.trans (m_6.trans (m_7.trans m_8))))))).from k0.le) (by first | assumption | decide | omega) bx_22 o_22 ((r_26.tame (m_5.trans (m_6.trans (m_7.trans m_8)))).from (((k0.trans k_1).trans k_2).trans k_3).le) (by first | assumption | decide | omega) bx_25 o_25 (Nat.ne_of_lt ((m_1).lt lt6)) (Nat.ne_of_lt ((m_1.trans m_2).lt lt6)) (Nat.ne_of_lt lt_22) g
    refine boxV fun h_2 bx_27 k_2 => ?_
    have bx_27 : BlkV h_2 (h_1.size) [.bool false, .slice none (D.digs 0).length 0] := by rw [D.digs_zero]; exact bx_27
    have o_27 := (k0.trans k_1).le
    have lt_27 := bx_27.lt
    have m_2 := k_2.tame
    refine ⟨k_2.preLe (m_1).le, ?_⟩
    refine ⟨?_, ?_⟩
    · refine hc_intro (gnomonref04_From.hs (r5_1.tame (m_1.trans m_2)) rfl) fun v h_3 ⟨k_3, s⟩ => ?_
      obtain ⟨p_28, hp_28⟩ : ∃ p, p = dz (zi (b5_0, xs5_1)) := ⟨_, rfl⟩
      rw [← hp_28] at s
      replace g := lift_let2 hp_28 g
      have w_28 := bzFrom b5_0 ((r5_1.tame (m_1.trans m_2))).words
      rw [← hp_28] at w_28
      obtain ⟨a_28, c_28, rfl, r_28⟩ := s
      refine gAgg_intro rfl (uncons_intro (gBool_intro rfl (uncons_intro (gSlice_intro rfl (unnil_intro (?_))))))
      have m_3 := k_3.tame
      refine ⟨k_3.preLe (m_1.trans m_2).le, ?_⟩
      refine boxV fun h_4 bx_29 k_4 => ?_
      have bx_29 : BlkV h_4 (h_3.size) [.bool false, .slice none (D.digs 0).length 0] := by rw [D.digs_zero]; exact bx_29
      have o_29 := (((k0.trans k_1).trans k_2).trans k_3).le
      have lt_29 := bx_29.lt
      have m_4 := k_4.tame
      refine ⟨k_4.preLe (m_1.trans (m_2.trans m_3)).le, ?_⟩
      refine stA bx_29 (base_add _ _) rfl fun h_5 bx_29 k_5 m_5 => ?_
      refine stA bx_29 (base_add _ _) rfl fun h_6 bx_29 k_6 m_6 => ?_
      have bx_27 := ((((bx_27.keep k_3).keep k_4).keepB (Nat.ne_of_lt ((m_3).lt lt_27)) k_5).keepB (Nat.ne_of_lt ((m_3).lt lt_27)) k_6)
      refine stA bx_27 (base_add _ _) rfl fun h_7 bx_27 k_7 m_7 => ?_
      refine stA bx_27 (base_add _ _) rfl fun h_8 bx_27 k_8 m_8 => ?_
      have bx6 := ((((((((bx6.keep k_1).keep k_2).keep k_3).keep k_4).keepB (Nat.ne_of_lt ((m_1.trans (m_2.trans m_3)).lt lt6)) k_5).keepB (Nat.ne_of_lt ((m_1.trans (m_2.trans m_3)).lt lt6)) k_6).keepB (Nat.ne_of_lt ((m_1).lt lt6)) k_7).keepB (Nat.ne_of_lt ((m_1).lt lt6)) k_8)
      have bx_29 := ((bx_29.keepB (Ne.symm (Nat.ne_of_lt ((m_3).lt lt_27))) k_7).keepB (Ne.symm (Nat.ne_of_lt ((m_3).lt lt_27))) k_8)
      exact D3.hv (KeepB.keep (KeepB.keep (KeepB.keep (KeepB.keep ((((k0.trans k_1).trans k_2).trans k_3).trans k_4) k_5 o_29) k_6 o_29) k_7 o_27) k_8 o_27) i0 (by first | assumption | decide | omega) (by first | assumption | decide | omega) (r6_1.tame (m_1.trans (m_2.trans (m_3.trans (m_4.trans (m_5.trans (m_6.trans (m_7.trans m_8)))))))) bx6 o6 ((r_8.tame (m_2.trans (m_3.trans (m_4.trans (m_5.trans (m_6.trans (m_7.trans m_8))))))).from k0.le) (by first | assumption | decide | omega) bx_29 o_29 ((r_28.tame (m_4.trans (m_5.trans (m_6.trans (m_7.trans m_8))))).from ((k0.trans k_1).trans k_2).le) (by first | assumption | decide | omega) bx_27 o_27 (Nat.ne_of_lt ((m_1.trans (m_2.trans m_3)).lt lt6)) (Nat.ne_of_lt ((m_1).lt lt6)) (Ne.symm (Nat.ne_of_lt ((m_3).lt lt_27))) g
    refine boxV fun h_3 bx_30 k_3 => ?_
    have bx_30 : BlkV h_3 (h_2.size) [.bool false, .slice none (D.digs 0).length 0] := by rw [D.digs_zero]; exact bx_30
    have o_30 := ((k0.trans k_1).trans k_2).le
    have lt_30 := bx_30.lt
    have m_3 := k_3.tame
    refine ⟨k_3.preLe (m_1.trans m_2).le, ?_⟩
    refine hc_intro (gnomonref04_From.hs (r5_1.tame (m_1.trans (m_2.trans m_3))) rfl) fun v h_4 ⟨k_4, s⟩ => ?_
    obtain ⟨p_31, hp_31⟩ : ∃ p, p = dz (zi (b5_0, xs5_1)) := ⟨_, rfl⟩
    rw [← hp_31] at s
    replace g := lift_let2 hp_31 g
    have w_31 := bzFrom b5_0 ((r5_1.tame (m_1.trans (m_2.trans m_3)))).words
    rw [← hp_31] at w_31
    obtain ⟨a_31, c_31, rfl, r_31⟩ := s
    refine gAgg_intro rfl (uncons_intro (gBool_intro rfl (uncons_intro (gSlice_intro rfl (unnil_intro (?_))))))
    have m_4 := k_4.tame
    refine ⟨k_4.preLe (m_1.trans (m_2.trans m_3)).le, ?_⟩
    have bx_30 := (bx_30.keep k_4)
    refine stA bx_30 (base_add _ _) rfl fun h_5 bx_30 k_5 m_5 => ?_
    refine stA bx_30 (base_add _ _) rfl fun h_6 bx_30 k_6 m_6 => ?_
    have bx_27 := ((((bx_27.keep k_3).keep k_4).keepB (Nat.ne_of_lt lt_27) k_5).keepB (Nat.ne_of_lt lt_27) k_6)
    refine stA bx_27 (base_add _ _) rfl fun h_7 bx_27 k_7 m_7 => ?_
    refine stA bx_27 (base_add _ _) rfl fun h_8 bx_27 k_8 m_8 => ?_
    have bx6 := ((((((((bx6.keep k_1).keep k_2).keep k_3).keep k_4).keepB (Nat.ne_of_lt ((m_1.trans m_2).lt lt6)) k_5).keepB (Nat.ne_of_lt ((m_1.trans m_2).lt lt6)) k_6).keepB (Nat.ne_of_lt ((m_1).lt lt6)) k_7).keepB (Nat.ne_of_lt ((m_1).lt lt6)) k_8)
    have bx_30 := ((bx_30.keepB (Ne.symm (Nat.ne_of_lt lt_27)) k_7).keepB (Ne.symm (Nat.ne_of_lt lt_27)) k_8)
    exact D3.hv (KeepB.keep (KeepB.keep (KeepB.keep (KeepB.keep ((((k0.trans k_1).trans k_2).trans k_3).trans k_4) k_5 o_30) k_6 o_30) k_7 o_27) k_8 o_27) i0 (by first | assumption | decide | omega) (by first | assumption | decide | omega) (r6_1.tame (m_1.trans (m_2.trans (m_3.trans (m_4.trans (m_5.trans (m_6.trans (m_7.trans m_8)))))))) bx6 o6 ((r_8.tame (m_2.trans (m_3.trans (m_4.trans (m_5.trans (m_6.trans (m_7.trans m_8))))))).from k0.le) (by first | assumption | decide | omega) bx_30 o_30 ((r_31.tame (m_5.trans (m_6.trans (m_7.trans m_8)))).from (((k0.trans k_1).trans k_2).trans k_3).le) (by first | assumption | decide | omega) bx_27 o_27 (Nat.ne_of_lt ((m_1.trans m_2).lt lt6)) (Nat.ne_of_lt ((m_1).lt lt6)) (Ne.symm (Nat.ne_of_lt lt_27)) g
  · refine boxV fun h_1 bx_32 k_1 => ?_
    have bx_32 : BlkV h_1 (h.size) [.bool false, .slice none (D.digs 0).length 0] := by rw [D.digs_zero]; exact bx_32
    have o_32 := k0.le
    have lt_32 := bx_32.lt
    have m_1 := k_1.tame
    refine ⟨k_1.preLe (Nat.le_refl _), ?_⟩
    refine ⟨?_, ?_⟩
    · refine hc_intro (gnomonref04_From.hs (r4_1.tame (m_1)) rfl) fun v h_2 ⟨k_2, s⟩ => ?_
      obtain ⟨p_33, hp_33⟩ : ∃ p, p = dz (zi (b4_0, xs4_1)) := ⟨_, rfl⟩
      rw [← hp_33] at s
      replace g := lift_let2 hp_33 g
      have w_33 := bzFrom b4_0 ((r4_1.tame (m_1))).words
      rw [← hp_33] at w_33
      obtain ⟨a_33, c_33, rfl, r_33⟩ := s
      refine gAgg_intro rfl (uncons_intro (gBool_intro rfl (uncons_intro (gSlice_intro rfl (unnil_intro (?_))))))
      have m_2 := k_2.tame
      refine ⟨k_2.preLe (m_1).le, ?_⟩
      refine ⟨?_, ?_⟩
      · refine hc_intro (gnomonref04_From.hs (r5_1.tame (m_1.trans m_2)) rfl) fun v h_3 ⟨k_3, s⟩ => ?_
        obtain ⟨p_34, hp_34⟩ : ∃ p, p = dz (zi (b5_0, xs5_1)) := ⟨_, rfl⟩
        rw [← hp_34] at s
        replace g := lift_let2 hp_34 g
        have w_34 := bzFrom b5_0 ((r5_1.tame (m_1.trans m_2))).words
        rw [← hp_34] at w_34
        obtain ⟨a_34, c_34, rfl, r_34⟩ := s
        refine gAgg_intro rfl (uncons_intro (gBool_intro rfl (uncons_intro (gSlice_intro rfl (unnil_intro (?_))))))
        have m_3 := k_3.tame
        refine ⟨k_3.preLe (m_1.trans m_2).le, ?_⟩
        refine boxV fun h_4 bx_35 k_4 => ?_
        have bx_35 : BlkV h_4 (h_3.size) [.bool false, .slice none (D.digs 0).length 0] := by rw [D.digs_zero]; exact bx_35
        have o_35 := (((k0.trans k_1).trans k_2).trans k_3).le
        have lt_35 := bx_35.lt
        have m_4 := k_4.tame
        refine ⟨k_4.preLe (m_1.trans (m_2.trans m_3)).le, ?_⟩
        have bx_32 := (((bx_32.keep k_2).keep k_3).keep k_4)
        refine stA bx_32 (base_add _ _) rfl fun h_5 bx_32 k_5 m_5 => ?_
        refine stA bx_32 (base_add _ _) rfl fun h_6 bx_32 k_6 m_6 => ?_
        have bx_35 := ((bx_35.keepB (Ne.symm (Nat.ne_of_lt ((m_2.trans m_3).lt lt_32))) k_5).keepB (Ne.symm (Nat.ne_of_lt ((m_2.trans m_3).lt lt_32))) k_6)
        refine stA bx_35 (base_add _ _) rfl fun h_7 bx_35 k_7 m_7 => ?_
        refine stA bx_35 (base_add _ _) rfl fun h_8 bx_35 k_8 m_8 => ?_
        have bx6 := ((((((((bx6.keep k_1).keep k_2).keep k_3).keep k_4).keepB (Nat.ne_of_lt lt6) k_5).keepB (Nat.ne_of_lt lt6) k_6).keepB (Nat.ne_of_lt ((m_1.trans (m_2.trans m_3)).lt lt6)) k_7).keepB (Nat.ne_of_lt ((m_1.trans (m_2.trans m_3)).lt lt6)) k_8)
        have bx_32 := ((bx_32.keepB (Nat.ne_of_lt ((m_2.trans m_3).lt lt_32)) k_7).keepB (Nat.ne_of_lt ((m_2.trans m_3).lt lt_32)) k_8)
        exact D3.hv (KeepB.keep (KeepB.keep (KeepB.keep (KeepB.keep ((((k0.trans k_1).trans k_2).trans k_3).trans k_4) k_5 o_32) k_6 o_32) k_7 o_35) k_8 o_35) i0 (by first | assumption | decide | omega) (by first | assumption | decide | omega) (r6_1.tame (m_1.trans (m_2.trans (m_3.trans (m_4.trans (m_5.trans (m_6.trans (m_7.trans m_8)))))))) bx6 o6 ((r_33.tame (m_3.trans (m_4.trans (m_5.trans (m_6.trans (m_7.trans m_8)))))).from (k0.trans k_1).le) (by first | assumption | decide | omega) bx_32 o_32 ((r_34.tame (m_4.trans (m_5.trans (m_6.trans (m_7.trans m_8))))).from ((k0.trans k_1).trans k_2).le) (by first | assumption | decide | omega) bx_35 o_35 (Nat.ne_of_lt lt6) (Nat.ne_of_lt ((m_1.trans (m_2.trans m_3)).lt lt6)) (Nat.ne_of_lt ((m_2.trans m_3).lt lt_32)) g
      refine boxV fun h_3 bx_36 k_3 => ?_
      have bx_36 : BlkV h_3 (h_2.size) [.bool false, .slice none (D.digs 0).length 0] := by rw [D.digs_zero]; exact bx_36
      have o_36 := ((k0.trans k_1).trans k_2).le
      have lt_36 := bx_36.lt
      have m_3 := k_3.tame
      refine ⟨k_3.preLe (m_1.trans m_2).le, ?_⟩
      refine hc_intro (gnomonref04_From.hs (r5_1.tame (m_1.trans (m_2.trans m_3))) rfl) fun v h_4 ⟨k_4, s⟩ => ?_
      obtain ⟨p_37, hp_37⟩ : ∃ p, p = dz (zi (b5_0, xs5_1)) := ⟨_, rfl⟩
      rw [← hp_37] at s
      replace g := lift_let2 hp_37 g
      have w_37 := bzFrom b5_0 ((r5_1.tame (m_1.trans (m_2.trans m_3)))).words
      rw [← hp_37] at w_37
      obtain ⟨a_37, c_37, rfl, r_37⟩ := s
      refine gAgg_intro rfl (uncons_intro (gBool_intro rfl (uncons_intro (gSlice_intro rfl (unnil_intro (?_))))))
      have m_4 := k_4.tame
      refine ⟨k_4.preLe (m_1.trans (m_2.trans m_3)).le, ?_⟩
      have bx_32 := (((bx_32.keep k_2).keep k_3).keep k_4)
      refine stA bx_32 (base_add _ _) rfl fun h_5 bx_32 k_5 m_5 => ?_
      refine stA bx_32 (base_add _ _) rfl fun h_6 bx_32 k_6 m_6 => ?_
      have bx_36 := (((bx_36.keep k_4).keepB (Ne.symm (Nat.ne_of_lt ((m_2).lt lt_32))) k_5).keepB (Ne.symm (Nat.ne_of_lt ((m_2).lt lt_32))) k_6)
      refine stA bx_36 (base_add _ _) rfl fun h_7 bx_36 k_7 m_7 => ?_
      refine stA bx_36 (base_add _ _) rfl fun h_8 bx_36 k_8 m_8 => ?_
      have bx6 := ((((((((bx6.keep k_1).keep k_2).keep k_3).keep k_4).keepB (Nat.ne_of_lt lt6) k_5).keepB (Nat.ne_of_lt lt6) k_6).keepB (Nat.ne_of_lt ((m_1.trans m_2).lt lt6)) k_7).keepB (Nat.ne_of_lt ((m_1.trans m_2).lt lt6)) k_8)
      have bx_32 := ((bx_32.keepB (Nat.ne_of_lt ((m_2).lt lt_32)) k_7).keepB (Nat.ne_of_lt ((m_2).lt lt_32)) k_8)
      exact D3.hv (KeepB.keep (KeepB.keep (KeepB.keep (KeepB.keep ((((k0.trans k_1).trans k_2).trans k_3).trans k_4) k_5 o_32) k_6 o_32) k_7 o_36) k_8 o_36) i0 (by first | assumption | decide | omega) (by first | assumption | decide | omega) (r6_1.tame (m_1.trans (m_2.trans (m_3.trans (m_4.trans (m_5.trans (m_6.trans (m_7.trans m_8)))))))) bx6 o6 ((r_33.tame (m_3.trans (m_4.trans (m_5.trans (m_6.trans (m_7.trans m_8)))))).from (k0.trans k_1).le) (by first | assumption | decide | omega) bx_32 o_32 ((r_37.tame (m_5.trans (m_6.trans (m_7.trans m_8)))).from (((k0.trans k_1).trans k_2).trans k_3).le) (by first | assumption | decide | omega) bx_36 o_36 (Nat.ne_of_lt lt6) (Nat.ne_of_lt ((m_1.trans m_2).lt lt6)) (Nat.ne_of_lt ((m_2).lt lt_32)) g
    refine boxV fun h_2 bx_38 k_2 => ?_
    have bx_38 : BlkV h_2 (h_1.size) [.bool false, .slice none (D.digs 0).length 0] := by rw [D.digs_zero]; exact bx_38
    have o_38 := (k0.trans k_1).le
    have lt_38 := bx_38.lt
    have m_2 := k_2.tame
    refine ⟨k_2.preLe (m_1).le, ?_⟩
    refine hc_intro (gnomonref04_From.hs (r4_1.tame (m_1.trans m_2)) rfl) fun v h_3 ⟨k_3, s⟩ => ?_
    obtain ⟨p_39, hp_39⟩ : ∃ p, p = dz (zi (b4_0, xs4_1)) := ⟨_, rfl⟩
    rw [← hp_39] at s
    replace g := lift_let2 hp_39 g
    have w_39 := bzFrom b4_0 ((r4_1.tame (m_1.trans m_2))).words
    rw [← hp_39] at w_39
    obtain ⟨a_39, c_39, rfl, r_39⟩ := s
    refine gAgg_intro rfl (uncons_intro (gBool_intro rfl (uncons_intro (gSlice_intro rfl (unnil_intro (?_))))))
    have m_3 := k_3.tame
    refine ⟨k_3.preLe (m_1.trans m_2).le, ?_⟩
    refine hc_intro (gnomonref04_From.hs (r5_1.tame (m_1.trans (m_2.trans m_3))) rfl) fun v h_4 ⟨k_4, s⟩ => ?_
    obtain ⟨p_40, hp_40⟩ : ∃ p, p = dz (zi (b5_0, xs5_1)) := ⟨_, rfl⟩
    rw [← hp_40] at s
    replace g := lift_let2 hp_40 g
    have w_40 := bzFrom b5_0 ((r5_1.tame (m_1.trans (m_2.trans m_3)))).words
    rw [← hp_40] at w_40
    obtain ⟨a_40, c_40, rfl, r_40⟩ := s
    refine gAgg_intro rfl (uncons_intro (gBool_intro rfl (uncons_intro (gSlice_intro rfl (unnil_intro (?_))))))
    have m_4 := k_4.tame
    refine ⟨k_4.preLe (m_1.trans (m_2.trans m_3)).le, ?_⟩
    have bx_32 := (((bx_32.keep k_2).keep k_3).keep k_4)
    refine stA bx_32 (base_add _ _) rfl fun h_5 bx_32 k_5 m_5 => ?_
    refine stA bx_32 (base_add _ _) rfl fun h_6 bx_32 k_6 m_6 => ?_
    have bx_38 := ((((bx_38.keep k_3).keep k_4).keepB (Ne.symm (Nat.ne_of_lt lt_32)) k_5).keepB (Ne.symm (Nat.ne_of_lt lt_32)) k_6)
    refine stA bx_38 (base_add _ _) rfl fun h_7 bx_38 k_7 m_7 => ?_
    refine stA bx_38 (base_add _ _) rfl fun h_8 bx_38 k_8 m_8 => ?_
    have bx6 := ((((((((bx6.keep k_1).keep k_2).keep k_3).keep k_4).keepB (Nat.ne_of_lt lt6) k_5).keepB (Nat.ne_of_lt lt6) k_6).keepB (Nat.ne_of_lt ((m_1).lt lt6)) k_7).keepB (Nat.ne_of_lt ((m_1).lt lt6)) k_8)
    have bx_32 := ((bx_32.keepB (Nat.ne_of_lt lt_32) k_7).keepB (Nat.ne_of_lt lt_32) k_8)
    exact D3.hv (KeepB.keep (KeepB.keep (KeepB.keep (KeepB.keep ((((k0.trans k_1).trans k_2).trans k_3).trans k_4) k_5 o_32) k_6 o_32) k_7 o_38) k_8 o_38) i0 (by first | assumption | decide | omega) (by first | assumption | decide | omega) (r6_1.tame (m_1.trans (m_2.trans (m_3.trans (m_4.trans (m_5.trans (m_6.trans (m_7.trans m_8)))))))) bx6 o6 ((r_39.tame (m_4.trans (m_5.trans (m_6.trans (m_7.trans m_8))))).from ((k0.trans k_1).trans k_2).le) (by first | assumption | decide | omega) bx_32 o_32 ((r_40.tame (m_5.trans (m_6.trans (m_7.trans m_8)))).from (((k0.trans k_1).trans k_2).trans k_3).le) (by first | assumption | decide | omega) bx_38 o_38 (Nat.ne_of_lt lt6) (Nat.ne_of_lt ((m_1).lt lt6)) (Nat.ne_of_lt lt_32) g
  refine boxV fun h_1 bx_41 k_1 => ?_
  have bx_41 : BlkV h_1 (h.size) [.bool false, .slice none (D.digs 0).length 0] := by rw [D.digs_zero]; exact bx_41
  have o_41 := k0.le
  have lt_41 := bx_41.lt
  have m_1 := k_1.tame
  refine ⟨k_1.preLe (Nat.le_refl _), ?_⟩
  refine ⟨?_, ?_⟩
  · refine hc_intro (gnomonref04_From.hs (r4_1.tame (m_1)) rfl) fun v h_2 ⟨k_2, s⟩ => ?_
    obtain ⟨p_42, hp_42⟩ : ∃ p, p = dz (zi (b4_0, xs4_1)) := ⟨_, rfl⟩
    rw [← hp_42] at s
    replace g := lift_let2 hp_42 g
    have w_42 := bzFrom b4_0 ((r4_1.tame (m_1))).words
    rw [← hp_42] at w_42
    obtain ⟨a_42, c_42, rfl, r_42⟩ := s
    refine gAgg_intro rfl (uncons_intro (gBool_intro rfl (uncons_intro (gSlice_intro rfl (unnil_intro (?_))))))
    have m_2 := k_2.tame
    refine ⟨k_2.preLe (m_1).le, ?_⟩
    refine ⟨?_, ?_⟩
    · refine hc_intro (gnomonref04_From.hs (r5_1.tame (m_1.trans m_2)) rfl) fun v h_3 ⟨k_3, s⟩ => ?_
      obtain ⟨p_43, hp_43⟩ : ∃ p, p = dz (zi (b5_0, xs5_1)) := ⟨_, rfl⟩
      rw [← hp_43] at s
      replace g := lift_let2 hp_43 g
      have w_43 := bzFrom b5_0 ((r5_1.tame (m_1.trans m_2))).words
      rw [← hp_43] at w_43
      obtain ⟨a_43, c_43, rfl, r_43⟩ := s
      refine gAgg_intro rfl (uncons_intro (gBool_intro rfl (uncons_intro (gSlice_intro rfl (unnil_intro (?_))))))
      have m_3 := k_3.tame
      refine ⟨k_3.preLe (m_1.trans m_2).le, ?_⟩
      refine boxV fun h_4 bx_44 k_4 => ?_
      have bx_44 : BlkV h_4 (h_3.size) [.bool false, .slice none (D.digs 0).length 0] := by rw [D.digs_zero]; exact bx_44
      have o_44 := (((k0.trans k_1).trans k_2).trans k_3).le
      have lt_44 := bx_44.lt
      have m_4 := k_4.tame
      refine ⟨k_4.preLe (m_1.trans (m_2.trans m_3)).le, ?_⟩
      refine stA bx_44 (base_add _ _) rfl fun h_5 bx_44 k_5 m_5 => ?_
      refine stA bx_44 (base_add _ _) rfl fun h_6 bx_44 k_6 m_6 => ?_
      have bx_41 := (((((bx_41.keep k_2).keep k_3).keep k_4).keepB (Nat.ne_of_lt ((m_2.trans m_3).lt lt_41)) k_5).keepB (Nat.ne_of_lt ((m_2.trans m_3).lt lt_41)) k_6)
      refine stA bx_41 (base_add _ _) rfl fun h_7 bx_41 k_7 m_7 => ?_
      refine stA bx_41 (base_add _ _) rfl fun h_8 bx_41 k_8 m_8 => ?_
      have bx6 := ((((((((bx6.keep k_1).keep k_2).keep k_3).keep k_4).keepB (Nat.ne_of_lt ((m_1.trans (m_2.trans m_3)).lt lt6)) k_5).keepB (Nat.ne_of_lt ((m_1.trans (m_2.trans m_3)).lt lt6)) k_6).keepB (Nat.ne_of_lt lt6) k_7).keepB (Nat.ne_of_lt lt6) k_8)
      have bx_44 := ((bx_44.keepB (Ne.symm (Nat.ne_of_lt ((m_2.trans m_3).lt lt_41))) k_7).keepB (Ne.symm (Nat.ne_of_lt ((m_2.trans m_3).lt lt_41))) k_8)
      exact D3.hv (KeepB.keep (KeepB.keep (KeepB.keep (KeepB.keep ((((k0.trans k_1).trans k_2).trans k_3).trans k_4) k_5 o_44) k_6 o_44) k_7 o_41) k_8 o_41) i0 (by first | assumption | decide | omega) (by first | assumption | decide | omega) (r6_1.tame (m_1.trans (m_2.trans (m_3.trans (m_4.trans (m_5.trans (m_6.trans (m_7.trans m_8)))))))) bx6 o6 ((r_42.tame (m_3.trans (m_4.trans (m_5.trans (m_6.trans (m_7.trans m_8)))))).from (k0.trans k_1).le) (by first | assumption | decide | omega) bx_44 o_44 ((r_43.tame (m_4.trans (m_5.trans (m_6.trans (m_7.trans m_8))))).from ((k0.trans k_1).trans k_2).le) (by first | assumption | decide | omega) bx_41 o_41 (Nat.ne_of_lt ((m_1.trans (m_2.trans m_3)).lt lt6)) (Nat.ne_of_lt lt6) (Ne.symm (Nat.ne_of_lt ((m_2.trans m_3).lt lt_41))) g
    refine boxV fun h_3 bx_45 k_3 => ?_
    have bx_45 : BlkV h_3 (h_2.size) [.bool false, .slice none (D.digs 0).length 0] := by rw [D.digs_zero]; exact bx_45
    have o_45 := ((k0.trans k_1).trans k_2).le
    have lt_45 := bx_45.lt
    have m_3 := k_3.tame
    refine ⟨k_3.preLe (m_1.trans m_2).le, ?_⟩
    refine hc_intro (gnomonref04_From.hs (r5_1.tame (m_1.trans (m_2.trans m_3))) rfl) fun v h_4 ⟨k_4, s⟩ => ?_
    obtain ⟨p_46, hp_46⟩ : ∃ p, p = dz (zi (b5_0, xs5_1)) := ⟨_, rfl⟩
    rw [← hp_46] at s
    replace g := lift_let2 hp_46 g
    have w_46 := bzFrom b5_0 ((r5_1.tame (m_1.trans (m_2.trans m_3)))).words
    rw [← hp_46] at w_46
    obtain ⟨a_46, c_46, rfl, r_46⟩ := s
    refine gAgg_intro rfl (uncons_intro (gBool_intro rfl (uncons_intro (gSlice_intro rfl (unnil_intro (?_))))))
    have m_4 := k_4.tame
    refine ⟨k_4.preLe (m_1.trans (m_2.trans m_3)).le, ?_⟩
    have bx_45 := (bx_45.keep k_4)
    refine stA bx_45 (base_add _ _) rfl fun h_5 bx_45 k_5 m_5 => ?_
    refine stA bx_45 (base_add _ _) rfl fun h_6 bx_45 k_6 m_6 => ?_
    have bx_41 := (((((bx_41.keep k_2).keep k_3).keep k_4).keepB (Nat.ne_of_lt ((m_2).lt lt_41)) k_5).keepB (Nat.ne_of_lt ((m_2).lt lt_41)) k_6)
    refine stA bx_41 (base_add _ _) rfl fun h_7 bx_41 k_7 m_7 => ?_
    refine stA bx_41 (base_add _ _) rfl fun h_8 bx_41 k_8 m_8 => ?_
    have bx6 := ((((((((bx6.keep k_1).keep k_2).keep k_3).keep k_4).keepB (Nat.ne_of_lt ((m_1.trans m_2).lt lt6)) k_5).keepB (Nat.ne_of_lt ((m_1.trans m_2).lt lt6)) k_6).keepB (Nat.ne_of_lt lt6) k_7).keepB (Nat.ne_of_lt lt6) k_8)
    have bx_45 := ((bx_45.keepB (Ne.symm (Nat.ne_of_lt ((m_2).lt lt_41))) k_7).keepB (Ne.symm (Nat.ne_of_lt ((m_2).lt lt_41))) k_8)
    exact D3.hv (KeepB.keep (KeepB.keep (KeepB.keep (KeepB.keep ((((k0.trans k_1).trans k_2).trans k_3).trans k_4) k_5 o_45) k_6 o_45) k_7 o_41) k_8 o_41) i0 (by first | assumption | decide | omega) (by first | assumption | decide | omega) (r6_1.tame (m_1.trans (m_2.trans (m_3.trans (m_4.trans (m_5.trans (m_6.trans (m_7.trans m_8)))))))) bx6 o6 ((r_42.tame (m_3.trans (m_4.trans (m_5.trans (m_6.trans (m_7.trans m_8)))))).from (k0.trans k_1).le) (by first | assumption | decide | omega) bx_45 o_45 ((r_46.tame (m_5.trans (m_6.trans (m_7.trans m_8)))).from (((k0.trans k_1).trans k_2).trans k_3).le) (by first | assumption | decide | omega) bx_41 o_41 (Nat.ne_of_lt ((m_1.trans m_2).lt lt6)) (Nat.ne_of_lt lt6) (Ne.symm (Nat.ne_of_lt ((m_2).lt lt_41))) g
  refine boxV fun h_2 bx_47 k_2 => ?_
  have bx_47 : BlkV h_2 (h_1.size) [.bool false, .slice none (D.digs 0).length 0] := by rw [D.digs_zero]; exact bx_47
  have o_47 := (k0.trans k_1).le
  have lt_47 := bx_47.lt
  have m_2 := k_2.tame
  refine ⟨k_2.preLe (m_1).le, ?_⟩
  refine hc_intro (gnomonref04_From.hs (r4_1.tame (m_1.trans m_2)) rfl) fun v h_3 ⟨k_3, s⟩ => ?_
  obtain ⟨p_48, hp_48⟩ : ∃ p, p = dz (zi (b4_0, xs4_1)) := ⟨_, rfl⟩
  rw [← hp_48] at s
  replace g := lift_let2 hp_48 g
  have w_48 := bzFrom b4_0 ((r4_1.tame (m_1.trans m_2))).words
  rw [← hp_48] at w_48
  obtain ⟨a_48, c_48, rfl, r_48⟩ := s
  refine gAgg_intro rfl (uncons_intro (gBool_intro rfl (uncons_intro (gSlice_intro rfl (unnil_intro (?_))))))
  have m_3 := k_3.tame
  refine ⟨k_3.preLe (m_1.trans m_2).le, ?_⟩
  refine hc_intro (gnomonref04_From.hs (r5_1.tame (m_1.trans (m_2.trans m_3))) rfl) fun v h_4 ⟨k_4, s⟩ => ?_
  obtain ⟨p_49, hp_49⟩ : ∃ p, p = dz (zi (b5_0, xs5_1)) := ⟨_, rfl⟩
  rw [← hp_49] at s
  replace g := lift_let2 hp_49 g
  have w_49 := bzFrom b5_0 ((r5_1.tame (m_1.trans (m_2.trans m_3)))).words
  rw [← hp_49] at w_49
  obtain ⟨a_49, c_49, rfl, r_49⟩ := s
  refine gAgg_intro rfl (uncons_intro (gBool_intro rfl (uncons_intro (gSlice_intro rfl (unnil_intro (?_))))))
  have m_4 := k_4.tame
  refine ⟨k_4.preLe (m_1.trans (m_2.trans m_3)).le, ?_⟩
  have bx_47 := ((bx_47.keep k_3).keep k_4)
  refine stA bx_47 (base_add _ _) rfl fun h_5 bx_47 k_5 m_5 => ?_
  refine stA bx_47 (base_add _ _) rfl fun h_6 bx_47 k_6 m_6 => ?_
  have bx_41 := (((((bx_41.keep k_2).keep k_3).keep k_4).keepB (Nat.ne_of_lt lt_41) k_5).keepB (Nat.ne_of_lt lt_41) k_6)
  refine stA bx_41 (base_add _ _) rfl fun h_7 bx_41 k_7 m_7 => ?_
  refine stA bx_41 (base_add _ _) rfl fun h_8 bx_41 k_8 m_8 => ?_
  have bx6 := ((((((((bx6.keep k_1).keep k_2).keep k_3).keep k_4).keepB (Nat.ne_of_lt ((m_1).lt lt6)) k_5).keepB (Nat.ne_of_lt ((m_1).lt lt6)) k_6).keepB (Nat.ne_of_lt lt6) k_7).keepB (Nat.ne_of_lt lt6) k_8)
  have bx_47 := ((bx_47.keepB (Ne.symm (Nat.ne_of_lt lt_41)) k_7).keepB (Ne.symm (Nat.ne_of_lt lt_41)) k_8)
  exact D3.hv (KeepB.keep (KeepB.keep (KeepB.keep (KeepB.keep ((((k0.trans k_1).trans k_2).trans k_3).trans k_4) k_5 o_47) k_6 o_47) k_7 o_41) k_8 o_41) i0 (by first | assumption | decide | omega) (by first | assumption | decide | omega) (r6_1.tame (m_1.trans (m_2.trans (m_3.trans (m_4.trans (m_5.trans (m_6.trans (m_7.trans m_8)))))))) bx6 o6 ((r_48.tame (m_4.trans (m_5.trans (m_6.trans (m_7.trans m_8))))).from ((k0.trans k_1).trans k_2).le) (by first | assumption | decide | omega) bx_47 o_47 ((r_49.tame (m_5.trans (m_6.trans (m_7.trans m_8)))).from (((k0.trans k_1).trans k_2).trans k_3).le) (by first | assumption | decide | omega) bx_41 o_41 (Nat.ne_of_lt ((m_1).lt lt6)) (Nat.ne_of_lt lt6) (Ne.symm (Nat.ne_of_lt lt_41)) g
def D1.v (x0 : Int) (b1_0 : Bool) (xs1_1 : List Nat) (b2_0 : Bool) (xs2_1 : List Nat) : ((Bool × List Nat) × Int) :=
  letV (decide (FrmZ (b1_0, xs1_1))) fun p_4 =>
  bif (!p_4) then
    ((false, ([] : List Nat)), (2 : Int))
  else
    letV (decide (FrmZ (b2_0, xs2_1))) fun p_6 =>
    bif (!p_6) then
      ((false, ([] : List Nat)), (2 : Int))
    else
      D2.v x0 b1_0 xs1_1 b2_0 xs2_1 false ([] : List Nat)
theorem D1.hv {R : Rt} {h0 h : Hp} (k0 : Keep h0 h) {x0 : Int} (i0 : In .i64 x0) (rl0 : 0 ≤ x0) (rh0 : x0 ≤ 2) {b1_0 : Bool} {a1_1 : Option Addr} {c1_1 l1_1 : Nat} {xs1_1 : List Nat} (r1_1 : Rd h a1_1 c1_1 xs1_1) (e1_1 : l1_1 = xs1_1.length) {b2_0 : Bool} {a2_1 : Option Addr} {c2_1 l2_1 : Nat} {xs2_1 : List Nat} (r2_1 : Rd h a2_1 c2_1 xs2_1) (e2_1 : l2_1 = xs2_1.length) (g : Post (s2 sZW (sI .i64)) h0 R (D1.v x0 b1_0 xs1_1 b2_0 xs2_1)) : D1.t R x0 b1_0 a1_1 l1_1 c1_1 b2_0 a2_1 l2_1 c2_1 h := by
  subst e1_1 e2_1
  have w_z : (D.digs 0).length = 0 := by simp [D.digs_zero]
  unfold D1.v at g
  unfold D1.t
  refine boxV fun h_1 bx_1 k_1 => ?_
  have o_1 := k0.le
  have lt_1 := bx_1.lt
  have m_1 := k_1.tame
  refine boxV fun h_2 bx_2 k_2 => ?_
  have o_2 := (k0.trans k_1).le
  have lt_2 := bx_2.lt
  have m_2 := k_2.tame
  refine boxV fun h_3 bx_3 k_3 => ?_
  have o_3 := ((k0.trans k_1).trans k_2).le
  have lt_3 := bx_3.lt
  have m_3 := k_3.tame
  have bx_1 := ((bx_1.keep k_2).keep k_3)
  refine ldA bx_1 (base_add _ _) rfl (gBool_intro rfl ?_)
  refine ldA bx_1 (base_add _ _) rfl (gSlice_intro rfl ?_)
  refine hc_intro (gnomonref04_DocForm.hs (r1_1.tame (m_1.trans (m_2.trans m_3))) rfl) fun v h_4 ⟨k_4, s⟩ => ?_
  obtain ⟨p_4, hp_4⟩ : ∃ p, p = decide (FrmZ (b1_0, xs1_1)) := ⟨_, rfl⟩
  rw [← hp_4] at s
  replace g := lift_let2 hp_4 g
  have u_4 := frmZ_len b1_0 xs1_1
  rw [← hp_4] at u_4
  obtain rfl := s
  refine gBool_intro rfl (?_)
  have m_4 := k_4.tame
  refine lift_not g (fun q_5 g => ?_) (fun q_5 g => ?_)
  · have bx_3 := (bx_3.keep k_4)
    refine stA bx_3 (base_add _ _) rfl fun h_5 bx_3 k_5 m_5 => ?_
    refine stA bx_3 (base_add _ _) rfl fun h_6 bx_3 k_6 m_6 => ?_
    refine ldA bx_3 (base_add _ _) rfl (gBool_intro rfl ?_)
    refine ldA bx_3 (base_add _ _) rfl (gSlice_intro rfl ?_)
    exact g _ _ (KeepB.keep (KeepB.keep ((((k0.trans k_1).trans k_2).trans k_3).trans k_4) k_5 o_3) k_6 o_3) ⟨_, _, rfl, ⟨_, _, rfl, (GotE.nil _ _)⟩, ⟨rfl, (show In .i64 (2 : Int) by decide)⟩⟩
  have zu_4 := u_4 q_5
  have bx_2 := ((bx_2.keep k_3).keep k_4)
  refine ldA bx_2 (base_add _ _) rfl (gBool_intro rfl ?_)
  refine ldA bx_2 (base_add _ _) rfl (gSlice_intro rfl ?_)
  refine hc_intro (gnomonref04_DocForm.hs (r2_1.tame (m_1.trans (m_2.trans (m_3.trans m_4)))) rfl) fun v h_5 ⟨k_5, s⟩ => ?_
  obtain ⟨p_6, hp_6⟩ : ∃ p, p = decide (FrmZ (b2_0, xs2_1)) := ⟨_, rfl⟩
  rw [← hp_6] at s
  replace g := lift_let2 hp_6 g
  have u_6 := frmZ_len b2_0 xs2_1
  rw [← hp_6] at u_6
  obtain rfl := s
  refine gBool_intro rfl (?_)
  have m_5 := k_5.tame
  refine lift_not g (fun q_7 g => ?_) (fun q_7 g => ?_)
  · have bx_3 := ((bx_3.keep k_4).keep k_5)
    refine stA bx_3 (base_add _ _) rfl fun h_6 bx_3 k_6 m_6 => ?_
    refine stA bx_3 (base_add _ _) rfl fun h_7 bx_3 k_7 m_7 => ?_
    refine ldA bx_3 (base_add _ _) rfl (gBool_intro rfl ?_)
    refine ldA bx_3 (base_add _ _) rfl (gSlice_intro rfl ?_)
    exact g _ _ (KeepB.keep (KeepB.keep (((((k0.trans k_1).trans k_2).trans k_3).trans k_4).trans k_5) k_6 o_3) k_7 o_3) ⟨_, _, rfl, ⟨_, _, rfl, (GotE.nil _ _)⟩, ⟨rfl, (show In .i64 (2 : Int) by decide)⟩⟩
  have zu_6 := u_6 q_7
  have bx_1 := ((bx_1.keep k_4).keep k_5)
  have bx_2 := (bx_2.keep k_5)
  have bx_3 := ((bx_3.keep k_4).keep k_5)
  exact D2.hv (((((k0.trans k_1).trans k_2).trans k_3).trans k_4).trans k_5) i0 (by first | assumption | decide | omega) (by first | assumption | decide | omega) (r1_1.tame (m_1.trans (m_2.trans (m_3.trans (m_4.trans m_5))))) bx_1 o_1 (r2_1.tame (m_1.trans (m_2.trans (m_3.trans (m_4.trans m_5))))) bx_2 o_2 (GotE.nil _ _) bx_3 o_3 (Nat.ne_of_lt lt_1) (Nat.ne_of_lt ((m_2).lt lt_1)) (Nat.ne_of_lt lt_2) (by first | assumption | decide | omega) (by first | assumption | decide | omega) g
def v (x0 : Int) (b1_0 : Bool) (xs1_1 : List Nat) (b2_0 : Bool) (xs2_1 : List Nat) : ((Bool × List Nat) × Int) := D1.v x0 b1_0 xs1_1 b2_0 xs2_1
theorem hv {h : Hp} {x0 : Int} (i0 : In .i64 x0) (rl0 : 0 ≤ x0) (rh0 : x0 ≤ 2) {b1_0 : Bool} {a1_1 : Option Addr} {c1_1 l1_1 : Nat} {xs1_1 : List Nat} (r1_1 : Rd h a1_1 c1_1 xs1_1) (e1_1 : l1_1 = xs1_1.length) {b2_0 : Bool} {a2_1 : Option Addr} {c2_1 l2_1 : Nat} {xs2_1 : List Nat} (r2_1 : Rd h a2_1 c2_1 xs2_1) (e2_1 : l2_1 = xs2_1.length) : HC id #[.int .i64 x0, .agg #[.bool b1_0, .slice a1_1 l1_1 c1_1], .agg #[.bool b2_0, .slice a2_1 l2_1 c2_1]] h fun v_ h_ => Keep h h_ ∧ (s2 sZW (sI .i64)) h h_ v_ (v x0 b1_0 xs1_1 b2_0 xs2_1) :=
  ok (D1.hv (Keep.refl _) i0 rl0 rh0 r1_1 e1_1 r2_1 e2_1 fun v h' k s => ⟨k, s⟩)
end gnomonref04_DocTwo

end Go.Proofs.YtanlcacaihdceaaGreatDoor.G

/- The document's sums and products. -/
namespace Go.Proofs.YtanlcacaihdceaaGreatDoor.G
open Go.Gv
set_option linter.unusedVariables false
set_option maxRecDepth 100000
theorem two_D4 {k : Int} (h1 : 0 ≤ k) (h2 : k ≤ 2) (p : Bool) (zs : List Nat) (i j : Int) : gnomonref04_DocTwo.D4.v k p zs (dz i).1 (dz i).2 (dz j).1 (dz j).2 = zlim (opZ k i j) := by
  unfold gnomonref04_DocTwo.D4.v
  simp only [letV, di_dz']
  rcases (show k = 0 ∨ k = 1 ∨ k = 2 by omega) with rfl | rfl | rfl <;> rfl
theorem rDocTwo_v {k : Int} (h1 : 0 ≤ k) (h2 : k ≤ 2) (b c : Bool) (xs ys : List Nat) : gnomonref04_DocTwo.v k b xs c ys = docTwoS k (b, xs) (c, ys) := by
  unfold gnomonref04_DocTwo.v gnomonref04_DocTwo.D1.v docTwoS
  simp only [letV]
  by_cases f : FrmZ (b, xs)
  · by_cases f2 : FrmZ (c, ys)
    · have h3 : ¬ (3 ≤ k ∧ zi (c, ys) = 0) := fun h => absurd h.1 (by omega)
      simp only [f, f2, decide_true, Bool.not_true, cond_false, and_self, if_true]
      rw [if_neg h3]
      unfold gnomonref04_DocTwo.D2.v gnomonref04_DocTwo.D3.v
      simp only [letV]
      exact two_D4 h1 h2 _ _ _ _
    · simp only [f, f2, decide_true, decide_false, Bool.not_true, Bool.not_false, cond_false, cond_true, and_false, if_false]; rfl
  · simp only [f, decide_false, Bool.not_false, cond_true, false_and, if_false]; rfl
section
variable {a b : Option Addr} {c d l m X Y : Nat} {xs ys : List Nat} {h : Hp} {x y : Int} {p q : Bool}
theorem gnomonref04_DocTwo.hs (i : In .i64 x) (v1 : 0 ≤ x) (v2 : x ≤ 2) (r : Rd h a c xs) (e : l = xs.length) (s : Rd h b d ys) (f : m = ys.length) : HC gnomonref04_DocTwo.id #[.int .i64 x, .agg #[.bool p, .slice a l c], .agg #[.bool q, .slice b m d]] h fun v h' => Keep h h' ∧ s2 sZW (sI .i64) h h' v (docTwoS x (p, xs) (q, ys)) := by rw [← rDocTwo_v v1 v2]; exact gnomonref04_DocTwo.hv i v1 v2 r e s f
end
end Go.Proofs.YtanlcacaihdceaaGreatDoor.G

/- Functions without loops as functions of values. Written by a program of this work. -/
namespace Go.Proofs.YtanlcacaihdceaaGreatDoor.G
open Go.Gv
set_option linter.unusedVariables false
set_option maxRecDepth 100000
namespace gnomonlaw04_doc
def D1.v (x0_0 : Int) (b0_1_0 : Bool) (xs0_1_1 : List Nat) (b0_2_0 : Bool) (xs0_2_1 : List Nat) (x0_3 : Int) : ((Bool × List Nat) × Int) :=
  bif (x0_0 == (6 : Int)) then
    letV (negZ (b0_1_0, xs0_1_1)) fun p_4 =>
    ((p_4.1.1, p_4.1.2), p_4.2)
  else
    bif (x0_0 == (7 : Int)) then
      letV (docTwoS (0 : Int) (b0_1_0, xs0_1_1) (b0_2_0, xs0_2_1)) fun p_6 =>
      ((p_6.1.1, p_6.1.2), p_6.2)
    else
      bif (x0_0 == (8 : Int)) then
        letV (docTwoS (1 : Int) (b0_1_0, xs0_1_1) (b0_2_0, xs0_2_1)) fun p_8 =>
        ((p_8.1.1, p_8.1.2), p_8.2)
      else
        letV (docTwoS (2 : Int) (b0_1_0, xs0_1_1) (b0_2_0, xs0_2_1)) fun p_9 =>
        ((p_9.1.1, p_9.1.2), p_9.2)
theorem D1.hv {R : Rt} {h0 h : Hp} (k0 : Keep h0 h) {x0_0 : Int} (i0_0 : In .i64 x0_0) (rl0_0 : 6 ≤ x0_0) (rh0_0 : x0_0 ≤ 9) {b0_1_0 : Bool} {a0_1_1 : Option Addr} {c0_1_1 l0_1_1 : Nat} {xs0_1_1 : List Nat} (r0_1_1 : Rd h a0_1_1 c0_1_1 xs0_1_1) (e0_1_1 : l0_1_1 = xs0_1_1.length) {b0_2_0 : Bool} {a0_2_1 : Option Addr} {c0_2_1 l0_2_1 : Nat} {xs0_2_1 : List Nat} (r0_2_1 : Rd h a0_2_1 c0_2_1 xs0_2_1) (e0_2_1 : l0_2_1 = xs0_2_1.length) {x0_3 : Int} (i0_3 : In .i64 x0_3) (g : Post (s2 sZW (sI .i64)) h0 R (D1.v x0_0 b0_1_0 xs0_1_1 b0_2_0 xs0_2_1 x0_3)) : D1.t R x0_0 b0_1_0 a0_1_1 l0_1_1 c0_1_1 b0_2_0 a0_2_1 l0_2_1 c0_2_1 x0_3 h := by
  subst e0_1_1 e0_2_1
  unfold D1.v at g
  unfold D1.t
  refine boxV fun h_1 bx_1 k_1 => ?_
  have o_1 := k0.le
  have lt_1 := bx_1.lt
  have m_1 := k_1.tame
  refine boxV fun h_2 bx_2 k_2 => ?_
  have o_2 := (k0.trans k_1).le
  have lt_2 := bx_2.lt
  have m_2 := k_2.tame
  have bx_1 := (bx_1.keep k_2)
  refine ldA bx_1 (base_add _ _) rfl (gInt_intro rfl ?_)
  refine c_eq (fun q => absurd q (by omega)) fun _ => ?_
  refine lift_eq g (fun q_3 g => ?_) (fun q_3 g => ?_)
  · have gq := g
    subst q_3
    have g := gq
    clear gq
    refine ldA bx_1 (add2 _ _ _) rfl (gBool_intro rfl ?_)
    refine ldA bx_1 (add2 _ _ _) rfl (gSlice_intro rfl ?_)
    refine hc_intro (gnomonref04_DocNeg.hs (r0_1_1.tame (m_1.trans m_2)) rfl) fun v h_3 ⟨k_3, s⟩ => ?_
    obtain ⟨p_4, hp_4⟩ : ∃ p, p = negZ (b0_1_0, xs0_1_1) := ⟨_, rfl⟩
    rw [← hp_4] at s
    replace g := lift_let2 hp_4 g
    obtain ⟨_, _, rfl, ⟨a_4_0, c_4_0, rfl, r_4_0⟩, ⟨rfl, i_4_1⟩⟩ := s
    refine gTup_intro rfl (uncons_intro (gAgg_intro rfl (uncons_intro (gBool_intro rfl (uncons_intro (gSlice_intro rfl (unnil_intro (uncons_intro (gInt_intro rfl (unnil_intro (?_)))))))))))
    have m_3 := k_3.tame
    have bx_2 := (bx_2.keep k_3)
    refine stA bx_2 (base_add _ _) rfl fun h_4 bx_2 k_4 m_4 => ?_
    refine stA bx_2 (base_add _ _) rfl fun h_5 bx_2 k_5 m_5 => ?_
    refine ldA bx_2 (base_add _ _) rfl (gBool_intro rfl ?_)
    refine ldA bx_2 (base_add _ _) rfl (gSlice_intro rfl ?_)
    exact g _ _ (KeepB.keep (KeepB.keep (((k0.trans k_1).trans k_2).trans k_3) k_4 o_2) k_5 o_2) ⟨_, _, rfl, ⟨_, _, rfl, ((r_4_0.tame (m_4.trans m_5)).from ((k0.trans k_1).trans k_2).le)⟩, ⟨rfl, i_4_1⟩⟩
  refine lift_eq g (fun q_5 g => ?_) (fun q_5 g => ?_)
  · have gq := g
    subst q_5
    have g := gq
    clear gq
    refine ldA bx_1 (base_add _ _) rfl (gInt_intro rfl ?_)
    refine letK_intro (y := (0 : Int)) (by decide) ?_
    refine letK_intro (y := (0 : Int)) (by decide) ?_
    refine ldA bx_1 (add2 _ _ _) rfl (gBool_intro rfl ?_)
    refine ldA bx_1 (add2 _ _ _) rfl (gSlice_intro rfl ?_)
    refine ldA bx_1 (add2 _ _ _) rfl (gBool_intro rfl ?_)
    refine ldA bx_1 (add2 _ _ _) rfl (gSlice_intro rfl ?_)
    refine hc_intro (gnomonref04_DocTwo.hs (show In .i64 (0 : Int) by decide) (by first | assumption | decide | omega) (by first | assumption | decide | omega) (r0_1_1.tame (m_1.trans m_2)) rfl (r0_2_1.tame (m_1.trans m_2)) rfl) fun v h_3 ⟨k_3, s⟩ => ?_
    obtain ⟨p_6, hp_6⟩ : ∃ p, p = docTwoS (0 : Int) (b0_1_0, xs0_1_1) (b0_2_0, xs0_2_1) := ⟨_, rfl⟩
    rw [← hp_6] at s
    replace g := lift_let2 hp_6 g
    obtain ⟨_, _, rfl, ⟨a_6_0, c_6_0, rfl, r_6_0⟩, ⟨rfl, i_6_1⟩⟩ := s
    refine gTup_intro rfl (uncons_intro (gAgg_intro rfl (uncons_intro (gBool_intro rfl (uncons_intro (gSlice_intro rfl (unnil_intro (uncons_intro (gInt_intro rfl (unnil_intro (?_)))))))))))
    have m_3 := k_3.tame
    have bx_2 := (bx_2.keep k_3)
    refine stA bx_2 (base_add _ _) rfl fun h_4 bx_2 k_4 m_4 => ?_
    refine stA bx_2 (base_add _ _) rfl fun h_5 bx_2 k_5 m_5 => ?_
    refine ldA bx_2 (base_add _ _) rfl (gBool_intro rfl ?_)
    refine ldA bx_2 (base_add _ _) rfl (gSlice_intro rfl ?_)
    exact g _ _ (KeepB.keep (KeepB.keep (((k0.trans k_1).trans k_2).trans k_3) k_4 o_2) k_5 o_2) ⟨_, _, rfl, ⟨_, _, rfl, ((r_6_0.tame (m_4.trans m_5)).from ((k0.trans k_1).trans k_2).le)⟩, ⟨rfl, i_6_1⟩⟩
  refine lift_eq g (fun q_7 g => ?_) (fun q_7 g => ?_)
  · have gq := g
    subst q_7
    have g := gq
    clear gq
    refine ldA bx_1 (base_add _ _) rfl (gInt_intro rfl ?_)
    refine letK_intro (y := (1 : Int)) (by decide) ?_
    refine letK_intro (y := (1 : Int)) (by decide) ?_
    refine ldA bx_1 (add2 _ _ _) rfl (gBool_intro rfl ?_)
    refine ldA bx_1 (add2 _ _ _) rfl (gSlice_intro rfl ?_)
    refine ldA bx_1 (add2 _ _ _) rfl (gBool_intro rfl ?_)
    refine ldA bx_1 (add2 _ _ _) rfl (gSlice_intro rfl ?_)
    refine hc_intro (gnomonref04_DocTwo.hs (show In .i64 (1 : Int) by decide) (by first | assumption | decide | omega) (by first | assumption | decide | omega) (r0_1_1.tame (m_1.trans m_2)) rfl (r0_2_1.tame (m_1.trans m_2)) rfl) fun v h_3 ⟨k_3, s⟩ => ?_
    obtain ⟨p_8, hp_8⟩ : ∃ p, p = docTwoS (1 : Int) (b0_1_0, xs0_1_1) (b0_2_0, xs0_2_1) := ⟨_, rfl⟩
    rw [← hp_8] at s
    replace g := lift_let2 hp_8 g
    obtain ⟨_, _, rfl, ⟨a_8_0, c_8_0, rfl, r_8_0⟩, ⟨rfl, i_8_1⟩⟩ := s
    refine gTup_intro rfl (uncons_intro (gAgg_intro rfl (uncons_intro (gBool_intro rfl (uncons_intro (gSlice_intro rfl (unnil_intro (uncons_intro (gInt_intro rfl (unnil_intro (?_)))))))))))
    have m_3 := k_3.tame
    have bx_2 := (bx_2.keep k_3)
    refine stA bx_2 (base_add _ _) rfl fun h_4 bx_2 k_4 m_4 => ?_
    refine stA bx_2 (base_add _ _) rfl fun h_5 bx_2 k_5 m_5 => ?_
    refine ldA bx_2 (base_add _ _) rfl (gBool_intro rfl ?_)
    refine ldA bx_2 (base_add _ _) rfl (gSlice_intro rfl ?_)
    exact g _ _ (KeepB.keep (KeepB.keep (((k0.trans k_1).trans k_2).trans k_3) k_4 o_2) k_5 o_2) ⟨_, _, rfl, ⟨_, _, rfl, ((r_8_0.tame (m_4.trans m_5)).from ((k0.trans k_1).trans k_2).le)⟩, ⟨rfl, i_8_1⟩⟩
  refine c_eq (fun _ => ?_) fun q => absurd (by omega) q
  have qk : x0_0 = 9 := by omega
  have gq := g
  subst qk
  have g := gq
  clear gq
  refine ldA bx_1 (base_add _ _) rfl (gInt_intro rfl ?_)
  refine letK_intro (y := (2 : Int)) (by decide) ?_
  refine letK_intro (y := (2 : Int)) (by decide) ?_
  refine ldA bx_1 (add2 _ _ _) rfl (gBool_intro rfl ?_)
  refine ldA bx_1 (add2 _ _ _) rfl (gSlice_intro rfl ?_)
  refine ldA bx_1 (add2 _ _ _) rfl (gBool_intro rfl ?_)
  refine ldA bx_1 (add2 _ _ _) rfl (gSlice_intro rfl ?_)
  refine hc_intro (gnomonref04_DocTwo.hs (show In .i64 (2 : Int) by decide) (by first | assumption | decide | omega) (by first | assumption | decide | omega) (r0_1_1.tame (m_1.trans m_2)) rfl (r0_2_1.tame (m_1.trans m_2)) rfl) fun v h_3 ⟨k_3, s⟩ => ?_
  obtain ⟨p_9, hp_9⟩ : ∃ p, p = docTwoS (2 : Int) (b0_1_0, xs0_1_1) (b0_2_0, xs0_2_1) := ⟨_, rfl⟩
  rw [← hp_9] at s
  replace g := lift_let2 hp_9 g
  obtain ⟨_, _, rfl, ⟨a_9_0, c_9_0, rfl, r_9_0⟩, ⟨rfl, i_9_1⟩⟩ := s
  refine gTup_intro rfl (uncons_intro (gAgg_intro rfl (uncons_intro (gBool_intro rfl (uncons_intro (gSlice_intro rfl (unnil_intro (uncons_intro (gInt_intro rfl (unnil_intro (?_)))))))))))
  have m_3 := k_3.tame
  have bx_2 := (bx_2.keep k_3)
  refine stA bx_2 (base_add _ _) rfl fun h_4 bx_2 k_4 m_4 => ?_
  refine stA bx_2 (base_add _ _) rfl fun h_5 bx_2 k_5 m_5 => ?_
  refine ldA bx_2 (base_add _ _) rfl (gBool_intro rfl ?_)
  refine ldA bx_2 (base_add _ _) rfl (gSlice_intro rfl ?_)
  exact g _ _ (KeepB.keep (KeepB.keep (((k0.trans k_1).trans k_2).trans k_3) k_4 o_2) k_5 o_2) ⟨_, _, rfl, ⟨_, _, rfl, ((r_9_0.tame (m_4.trans m_5)).from ((k0.trans k_1).trans k_2).le)⟩, ⟨rfl, i_9_1⟩⟩
def v (x0_0 : Int) (b0_1_0 : Bool) (xs0_1_1 : List Nat) (b0_2_0 : Bool) (xs0_2_1 : List Nat) (x0_3 : Int) : ((Bool × List Nat) × Int) := D1.v x0_0 b0_1_0 xs0_1_1 b0_2_0 xs0_2_1 x0_3
theorem hv {h : Hp} {x0_0 : Int} (i0_0 : In .i64 x0_0) (rl0_0 : 6 ≤ x0_0) (rh0_0 : x0_0 ≤ 9) {b0_1_0 : Bool} {a0_1_1 : Option Addr} {c0_1_1 l0_1_1 : Nat} {xs0_1_1 : List Nat} (r0_1_1 : Rd h a0_1_1 c0_1_1 xs0_1_1) (e0_1_1 : l0_1_1 = xs0_1_1.length) {b0_2_0 : Bool} {a0_2_1 : Option Addr} {c0_2_1 l0_2_1 : Nat} {xs0_2_1 : List Nat} (r0_2_1 : Rd h a0_2_1 c0_2_1 xs0_2_1) (e0_2_1 : l0_2_1 = xs0_2_1.length) {x0_3 : Int} (i0_3 : In .i64 x0_3) : HC id #[.agg #[.int .i64 x0_0, .bool b0_1_0, .slice a0_1_1 l0_1_1 c0_1_1, .bool b0_2_0, .slice a0_2_1 l0_2_1 c0_2_1, .int .i64 x0_3]] h fun v_ h_ => Keep h h_ ∧ (s2 sZW (sI .i64)) h h_ v_ (v x0_0 b0_1_0 xs0_1_1 b0_2_0 xs0_2_1 x0_3) :=
  ok (D1.hv (Keep.refl _) i0_0 rl0_0 rh0_0 r0_1_1 e0_1_1 r0_2_1 e0_2_1 i0_3 fun v h' k s => ⟨k, s⟩)
end gnomonlaw04_doc

namespace gnomonlaw04_number
def D2.v (b2_0 : Bool) (xs2_1 : List Nat) (b4_0 : Bool) (xs4_1 : List Nat) (x5 : Int) : ((Bool × List Nat) × Int) :=
  ((b4_0, xs4_1), x5)
theorem D2.hv {R : Rt} {h0 h : Hp} (k0 : Keep h0 h) {b2_0 : Bool} {a2_1 : Option Addr} {c2_1 : Nat} {xs2_1 : List Nat} (r2_1 : GotE eU64 h0 h a2_1 c2_1 xs2_1) {B2 : Nat} (bx2 : BlkV h B2 [.bool b2_0, .slice a2_1 xs2_1.length c2_1]) (o2 : h0.size ≤ B2) {b4_0 : Bool} {a4_1 : Option Addr} {c4_1 : Nat} {xs4_1 : List Nat} (r4_1 : GotE eU64 h0 h a4_1 c4_1 xs4_1) {B4 : Nat} (bx4 : BlkV h B4 [.bool b4_0, .slice a4_1 xs4_1.length c4_1]) (o4 : h0.size ≤ B4) {x5 : Int} (i5 : In .i64 x5) (d2q4 : B2 ≠ B4) (tb : Tab h) (g : Post (s2 sZW (sI .i64)) h0 R (D2.v b2_0 xs2_1 b4_0 xs4_1 x5)) : D2.t R (⟨B2, 0, none⟩ : Addr) (⟨B4, 0, none⟩ : Addr) x5 h := by
  have lt2 := bx2.lt
  have lt4 := bx4.lt
  unfold D2.v at g
  unfold D2.t
  refine ldA bx4 (base_add _ _) rfl (gBool_intro rfl ?_)
  refine ldA bx4 (base_add _ _) rfl (gSlice_intro rfl ?_)
  refine stA bx2 (base_add _ _) rfl fun h_1 bx2 k_1 m_1 => ?_
  refine stA bx2 (base_add _ _) rfl fun h_2 bx2 k_2 m_2 => ?_
  refine ldA bx2 (base_add _ _) rfl (gBool_intro rfl ?_)
  refine ldA bx2 (base_add _ _) rfl (gSlice_intro rfl ?_)
  exact g _ _ (KeepB.keep (KeepB.keep k0 k_1 o2) k_2 o2) ⟨_, _, rfl, ⟨_, _, rfl, (r4_1.tame (m_1.trans m_2))⟩, ⟨rfl, i5⟩⟩
def D1.v (x0_0 : Int) (b0_1_0 : Bool) (xs0_1_1 : List Nat) (b0_2_0 : Bool) (xs0_2_1 : List Nat) (x0_3 : Int) : ((Bool × List Nat) × Int) :=
  bif (x0_0 == (6 : Int)) then
    letV (negZ (b0_1_0, xs0_1_1)) fun p_5 =>
    D2.v false ([] : List Nat) p_5.1.1 p_5.1.2 p_5.2
  else
    bif (x0_0 == (7 : Int)) then
      letV (twoZ addI (b0_1_0, xs0_1_1) (b0_2_0, xs0_2_1)) fun p_7 =>
      D2.v false ([] : List Nat) p_7.1.1 p_7.1.2 p_7.2
    else
      bif (x0_0 == (8 : Int)) then
        letV (twoZ subI (b0_1_0, xs0_1_1) (b0_2_0, xs0_2_1)) fun p_9 =>
        D2.v false ([] : List Nat) p_9.1.1 p_9.1.2 p_9.2
      else
        letV (twoZ mulI (b0_1_0, xs0_1_1) (b0_2_0, xs0_2_1)) fun p_10 =>
        D2.v false ([] : List Nat) p_10.1.1 p_10.1.2 p_10.2
theorem D1.hv {R : Rt} {h0 h : Hp} (k0 : Keep h0 h) {x0_0 : Int} (i0_0 : In .i64 x0_0) (rl0_0 : 6 ≤ x0_0) (rh0_0 : x0_0 ≤ 9) {b0_1_0 : Bool} {a0_1_1 : Option Addr} {c0_1_1 l0_1_1 : Nat} {xs0_1_1 : List Nat} (r0_1_1 : Rd h a0_1_1 c0_1_1 xs0_1_1) (e0_1_1 : l0_1_1 = xs0_1_1.length) {b0_2_0 : Bool} {a0_2_1 : Option Addr} {c0_2_1 l0_2_1 : Nat} {xs0_2_1 : List Nat} (r0_2_1 : Rd h a0_2_1 c0_2_1 xs0_2_1) (e0_2_1 : l0_2_1 = xs0_2_1.length) {x0_3 : Int} (i0_3 : In .i64 x0_3) (tb : Tab h) (g : Post (s2 sZW (sI .i64)) h0 R (D1.v x0_0 b0_1_0 xs0_1_1 b0_2_0 xs0_2_1 x0_3)) : D1.t R x0_0 b0_1_0 a0_1_1 l0_1_1 c0_1_1 b0_2_0 a0_2_1 l0_2_1 c0_2_1 x0_3 h := by
  subst e0_1_1 e0_2_1
  unfold D1.v at g
  unfold D1.t
  refine boxV fun h_1 bx_1 k_1 => ?_
  have o_1 := k0.le
  have lt_1 := bx_1.lt
  have m_1 := k_1.tame
  refine boxV fun h_2 bx_2 k_2 => ?_
  have o_2 := (k0.trans k_1).le
  have lt_2 := bx_2.lt
  have m_2 := k_2.tame
  refine boxV fun h_3 bx_3 k_3 => ?_
  have o_3 := ((k0.trans k_1).trans k_2).le
  have lt_3 := bx_3.lt
  have m_3 := k_3.tame
  have bx_1 := ((bx_1.keep k_2).keep k_3)
  refine ldA bx_1 (base_add _ _) rfl (gInt_intro rfl ?_)
  refine c_eq (fun q => absurd q (by omega)) fun _ => ?_
  refine lift_eq g (fun q_4 g => ?_) (fun q_4 g => ?_)
  · have gq := g
    subst q_4
    have g := gq
    clear gq
    refine ldA bx_1 (add2 _ _ _) rfl (gBool_intro rfl ?_)
    refine ldA bx_1 (add2 _ _ _) rfl (gSlice_intro rfl ?_)
    refine hc_intro (num_Neg.hs (r0_1_1.tame (m_1.trans (m_2.trans m_3))) rfl) fun v h_4 ⟨k_4, s⟩ => ?_
    obtain ⟨p_5, hp_5⟩ : ∃ p, p = negZ (b0_1_0, xs0_1_1) := ⟨_, rfl⟩
    rw [← hp_5] at s
    replace g := lift_let2 hp_5 g
    obtain ⟨_, _, rfl, ⟨a_5_0, c_5_0, rfl, r_5_0⟩, ⟨rfl, i_5_1⟩⟩ := s
    refine gTup_intro rfl (uncons_intro (gAgg_intro rfl (uncons_intro (gBool_intro rfl (uncons_intro (gSlice_intro rfl (unnil_intro (uncons_intro (gInt_intro rfl (unnil_intro (?_)))))))))))
    have m_4 := k_4.tame
    have bx_3 := (bx_3.keep k_4)
    refine stA bx_3 (base_add _ _) rfl fun h_5 bx_3 k_5 m_5 => ?_
    refine stA bx_3 (base_add _ _) rfl fun h_6 bx_3 k_6 m_6 => ?_
    have bx_2 := ((((bx_2.keep k_3).keep k_4).keepB (Nat.ne_of_lt lt_2) k_5).keepB (Nat.ne_of_lt lt_2) k_6)
    exact D2.hv (KeepB.keep (KeepB.keep ((((k0.trans k_1).trans k_2).trans k_3).trans k_4) k_5 o_3) k_6 o_3) (GotE.nil _ _) bx_2 o_2 ((r_5_0.tame (m_5.trans m_6)).from (((k0.trans k_1).trans k_2).trans k_3).le) bx_3 o_3 i_5_1 (Nat.ne_of_lt lt_2) (tb.tame (m_1.trans (m_2.trans (m_3.trans (m_4.trans (m_5.trans m_6)))))) g
  refine lift_eq g (fun q_6 g => ?_) (fun q_6 g => ?_)
  · have gq := g
    subst q_6
    have g := gq
    clear gq
    refine ldA bx_1 (add2 _ _ _) rfl (gBool_intro rfl ?_)
    refine ldA bx_1 (add2 _ _ _) rfl (gSlice_intro rfl ?_)
    refine ldA bx_1 (add2 _ _ _) rfl (gBool_intro rfl ?_)
    refine ldA bx_1 (add2 _ _ _) rfl (gSlice_intro rfl ?_)
    refine hc_intro (num_Add.hs (r0_1_1.tame (m_1.trans (m_2.trans m_3))) rfl (r0_2_1.tame (m_1.trans (m_2.trans m_3))) rfl) fun v h_4 ⟨k_4, s⟩ => ?_
    obtain ⟨p_7, hp_7⟩ : ∃ p, p = twoZ addI (b0_1_0, xs0_1_1) (b0_2_0, xs0_2_1) := ⟨_, rfl⟩
    rw [← hp_7] at s
    replace g := lift_let2 hp_7 g
    obtain ⟨_, _, rfl, ⟨a_7_0, c_7_0, rfl, r_7_0⟩, ⟨rfl, i_7_1⟩⟩ := s
    refine gTup_intro rfl (uncons_intro (gAgg_intro rfl (uncons_intro (gBool_intro rfl (uncons_intro (gSlice_intro rfl (unnil_intro (uncons_intro (gInt_intro rfl (unnil_intro (?_)))))))))))
    have m_4 := k_4.tame
    have bx_3 := (bx_3.keep k_4)
    refine stA bx_3 (base_add _ _) rfl fun h_5 bx_3 k_5 m_5 => ?_
    refine stA bx_3 (base_add _ _) rfl fun h_6 bx_3 k_6 m_6 => ?_
    have bx_2 := ((((bx_2.keep k_3).keep k_4).keepB (Nat.ne_of_lt lt_2) k_5).keepB (Nat.ne_of_lt lt_2) k_6)
    exact D2.hv (KeepB.keep (KeepB.keep ((((k0.trans k_1).trans k_2).trans k_3).trans k_4) k_5 o_3) k_6 o_3) (GotE.nil _ _) bx_2 o_2 ((r_7_0.tame (m_5.trans m_6)).from (((k0.trans k_1).trans k_2).trans k_3).le) bx_3 o_3 i_7_1 (Nat.ne_of_lt lt_2) (tb.tame (m_1.trans (m_2.trans (m_3.trans (m_4.trans (m_5.trans m_6)))))) g
  refine lift_eq g (fun q_8 g => ?_) (fun q_8 g => ?_)
  · have gq := g
    subst q_8
    have g := gq
    clear gq
    refine ldA bx_1 (add2 _ _ _) rfl (gBool_intro rfl ?_)
    refine ldA bx_1 (add2 _ _ _) rfl (gSlice_intro rfl ?_)
    refine ldA bx_1 (add2 _ _ _) rfl (gBool_intro rfl ?_)
    refine ldA bx_1 (add2 _ _ _) rfl (gSlice_intro rfl ?_)
    refine hc_intro (num_Sub.hs (r0_1_1.tame (m_1.trans (m_2.trans m_3))) rfl (r0_2_1.tame (m_1.trans (m_2.trans m_3))) rfl) fun v h_4 ⟨k_4, s⟩ => ?_
    obtain ⟨p_9, hp_9⟩ : ∃ p, p = twoZ subI (b0_1_0, xs0_1_1) (b0_2_0, xs0_2_1) := ⟨_, rfl⟩
    rw [← hp_9] at s
    replace g := lift_let2 hp_9 g
    obtain ⟨_, _, rfl, ⟨a_9_0, c_9_0, rfl, r_9_0⟩, ⟨rfl, i_9_1⟩⟩ := s
    refine gTup_intro rfl (uncons_intro (gAgg_intro rfl (uncons_intro (gBool_intro rfl (uncons_intro (gSlice_intro rfl (unnil_intro (uncons_intro (gInt_intro rfl (unnil_intro (?_)))))))))))
    have m_4 := k_4.tame
    have bx_3 := (bx_3.keep k_4)
    refine stA bx_3 (base_add _ _) rfl fun h_5 bx_3 k_5 m_5 => ?_
    refine stA bx_3 (base_add _ _) rfl fun h_6 bx_3 k_6 m_6 => ?_
    have bx_2 := ((((bx_2.keep k_3).keep k_4).keepB (Nat.ne_of_lt lt_2) k_5).keepB (Nat.ne_of_lt lt_2) k_6)
    exact D2.hv (KeepB.keep (KeepB.keep ((((k0.trans k_1).trans k_2).trans k_3).trans k_4) k_5 o_3) k_6 o_3) (GotE.nil _ _) bx_2 o_2 ((r_9_0.tame (m_5.trans m_6)).from (((k0.trans k_1).trans k_2).trans k_3).le) bx_3 o_3 i_9_1 (Nat.ne_of_lt lt_2) (tb.tame (m_1.trans (m_2.trans (m_3.trans (m_4.trans (m_5.trans m_6)))))) g
  refine c_eq (fun _ => ?_) fun q => absurd (by omega) q
  have qk : x0_0 = 9 := by omega
  have gq := g
  subst qk
  have g := gq
  clear gq
  refine ldA bx_1 (add2 _ _ _) rfl (gBool_intro rfl ?_)
  refine ldA bx_1 (add2 _ _ _) rfl (gSlice_intro rfl ?_)
  refine ldA bx_1 (add2 _ _ _) rfl (gBool_intro rfl ?_)
  refine ldA bx_1 (add2 _ _ _) rfl (gSlice_intro rfl ?_)
  refine hc_intro (num_Mul.hs (r0_1_1.tame (m_1.trans (m_2.trans m_3))) rfl (r0_2_1.tame (m_1.trans (m_2.trans m_3))) rfl) fun v h_4 ⟨k_4, s⟩ => ?_
  obtain ⟨p_10, hp_10⟩ : ∃ p, p = twoZ mulI (b0_1_0, xs0_1_1) (b0_2_0, xs0_2_1) := ⟨_, rfl⟩
  rw [← hp_10] at s
  replace g := lift_let2 hp_10 g
  obtain ⟨_, _, rfl, ⟨a_10_0, c_10_0, rfl, r_10_0⟩, ⟨rfl, i_10_1⟩⟩ := s
  refine gTup_intro rfl (uncons_intro (gAgg_intro rfl (uncons_intro (gBool_intro rfl (uncons_intro (gSlice_intro rfl (unnil_intro (uncons_intro (gInt_intro rfl (unnil_intro (?_)))))))))))
  have m_4 := k_4.tame
  have bx_3 := (bx_3.keep k_4)
  refine stA bx_3 (base_add _ _) rfl fun h_5 bx_3 k_5 m_5 => ?_
  refine stA bx_3 (base_add _ _) rfl fun h_6 bx_3 k_6 m_6 => ?_
  have bx_2 := ((((bx_2.keep k_3).keep k_4).keepB (Nat.ne_of_lt lt_2) k_5).keepB (Nat.ne_of_lt lt_2) k_6)
  exact D2.hv (KeepB.keep (KeepB.keep ((((k0.trans k_1).trans k_2).trans k_3).trans k_4) k_5 o_3) k_6 o_3) (GotE.nil _ _) bx_2 o_2 ((r_10_0.tame (m_5.trans m_6)).from (((k0.trans k_1).trans k_2).trans k_3).le) bx_3 o_3 i_10_1 (Nat.ne_of_lt lt_2) (tb.tame (m_1.trans (m_2.trans (m_3.trans (m_4.trans (m_5.trans m_6)))))) g
def v (x0_0 : Int) (b0_1_0 : Bool) (xs0_1_1 : List Nat) (b0_2_0 : Bool) (xs0_2_1 : List Nat) (x0_3 : Int) : ((Bool × List Nat) × Int) := D1.v x0_0 b0_1_0 xs0_1_1 b0_2_0 xs0_2_1 x0_3
theorem hv {h : Hp} {x0_0 : Int} (i0_0 : In .i64 x0_0) (rl0_0 : 6 ≤ x0_0) (rh0_0 : x0_0 ≤ 9) {b0_1_0 : Bool} {a0_1_1 : Option Addr} {c0_1_1 l0_1_1 : Nat} {xs0_1_1 : List Nat} (r0_1_1 : Rd h a0_1_1 c0_1_1 xs0_1_1) (e0_1_1 : l0_1_1 = xs0_1_1.length) {b0_2_0 : Bool} {a0_2_1 : Option Addr} {c0_2_1 l0_2_1 : Nat} {xs0_2_1 : List Nat} (r0_2_1 : Rd h a0_2_1 c0_2_1 xs0_2_1) (e0_2_1 : l0_2_1 = xs0_2_1.length) {x0_3 : Int} (i0_3 : In .i64 x0_3) (tb : Tab h) : HC id #[.agg #[.int .i64 x0_0, .bool b0_1_0, .slice a0_1_1 l0_1_1 c0_1_1, .bool b0_2_0, .slice a0_2_1 l0_2_1 c0_2_1, .int .i64 x0_3]] h fun v_ h_ => Keep h h_ ∧ (s2 sZW (sI .i64)) h h_ v_ (v x0_0 b0_1_0 xs0_1_1 b0_2_0 xs0_2_1 x0_3) :=
  ok (D1.hv (Keep.refl _) i0_0 rl0_0 rh0_0 r0_1_1 e0_1_1 r0_2_1 e0_2_1 i0_3 tb fun v h' k s => ⟨k, s⟩)
end gnomonlaw04_number

end Go.Proofs.YtanlcacaihdceaaGreatDoor.G

/- The program's answer and the document's are one. -/
namespace Go.Proofs.YtanlcacaihdceaaGreatDoor.G
open Go.Gv
set_option linter.unusedVariables false
set_option maxRecDepth 100000
theorem doc_number {k : Int} (h1 : 6 ≤ k) (h2 : k ≤ 9) (b : Bool) (xs : List Nat) (c : Bool) (ys : List Nat) (n : Int) : gnomonlaw04_doc.v k b xs c ys n = gnomonlaw04_number.v k b xs c ys n := by
  unfold gnomonlaw04_doc.v gnomonlaw04_doc.D1.v gnomonlaw04_number.v gnomonlaw04_number.D1.v gnomonlaw04_number.D2.v
  simp only [letV, eta2]
  by_cases e6 : k = 6
  · subst e6
    rfl
  by_cases e7 : k = 7
  · subst e7
    have e : docTwoS 0 (b, xs) (c, ys) = twoZ addI (b, xs) (c, ys) := two_doc 0 _ _ _ (by decide) rfl
    rw [e]; rfl
  by_cases e8 : k = 8
  · subst e8
    have e : docTwoS 1 (b, xs) (c, ys) = twoZ subI (b, xs) (c, ys) := two_doc 1 _ _ _ (by decide) rfl
    rw [e]; rfl
  by_cases e9 : k = 9
  · subst e9
    have e : docTwoS 2 (b, xs) (c, ys) = twoZ mulI (b, xs) (c, ys) := two_doc 2 _ _ _ (by decide) rfl
    rw [e]; rfl
  exfalso; omega
end Go.Proofs.YtanlcacaihdceaaGreatDoor.G

/- Functions without loops as functions of values. Written by a program of this work. -/
namespace Go.Proofs.YtanlcacaihdceaaGreatDoor.G
open Go.Gv
set_option linter.unusedVariables false
set_option maxRecDepth 100000
namespace gnomonlaw04_plays
def D3.v (b11_0 : Bool) (xs11_1 : List Nat) (x12 : Int) (b13_0 : Bool) (xs13_1 : List Nat) (x14 : Int) : Bool :=
  letV (gnomonlaw04_told.v b13_0 xs13_1 x14 b11_0 xs11_1 x12) fun p_14 =>
  p_14
theorem D3.hv {R : Rt} {h0 h : Hp} (k0 : Keep h0 h) {b11_0 : Bool} {a11_1 : Option Addr} {c11_1 : Nat} {xs11_1 : List Nat} (r11_1 : GotE eU64 h0 h a11_1 c11_1 xs11_1) {B11 : Nat} (bx11 : BlkV h B11 [.bool b11_0, .slice a11_1 xs11_1.length c11_1]) (o11 : h0.size ≤ B11) {x12 : Int} (i12 : In .i64 x12) {b13_0 : Bool} {a13_1 : Option Addr} {c13_1 : Nat} {xs13_1 : List Nat} (r13_1 : GotE eU64 h0 h a13_1 c13_1 xs13_1) {B13 : Nat} (bx13 : BlkV h B13 [.bool b13_0, .slice a13_1 xs13_1.length c13_1]) (o13 : h0.size ≤ B13) {x14 : Int} (i14 : In .i64 x14) (d11q13 : B11 ≠ B13) (tb : Tab h) (g : Post sBool h0 R (D3.v b11_0 xs11_1 x12 b13_0 xs13_1 x14)) : D3.t R (⟨B11, 0, none⟩ : Addr) x12 (⟨B13, 0, none⟩ : Addr) x14 h := by
  have lt11 := bx11.lt
  have lt13 := bx13.lt
  unfold D3.v at g
  unfold D3.t
  refine ldA bx13 (base_add _ _) rfl (gBool_intro rfl ?_)
  refine ldA bx13 (base_add _ _) rfl (gSlice_intro rfl ?_)
  refine ldA bx11 (base_add _ _) rfl (gBool_intro rfl ?_)
  refine ldA bx11 (base_add _ _) rfl (gSlice_intro rfl ?_)
  refine hc_intro (gnomonlaw04_told.hv r13_1.rd64 rfl i14 r11_1.rd64 rfl i12) fun v h_1 ⟨k_1, s⟩ => ?_
  obtain ⟨p_14, hp_14⟩ : ∃ p, p = gnomonlaw04_told.v b13_0 xs13_1 x14 b11_0 xs11_1 x12 := ⟨_, rfl⟩
  rw [← hp_14] at s
  replace g := lift_let2 hp_14 g
  obtain rfl := s
  refine gBool_intro rfl (?_)
  have m_1 := k_1.tame
  exact g _ _ (k0.trans k_1) rfl
def D2.v (x1_0 : Int) (b1_1 : Bool) (xs1_2 : List Nat) (b1_3 : Bool) (xs1_4 : List Nat) (x1_5 : Int) : Bool :=
  letV (gnomonlaw04_doc.v x1_0 b1_1 xs1_2 b1_3 xs1_4 x1_5) fun p_8 =>
  letV (gnomonlaw04_number.v x1_0 (((b1_1, xs1_2)).1) (((b1_1, xs1_2)).2) (((b1_3, xs1_4)).1) (((b1_3, xs1_4)).2) x1_5) fun p_12 =>
  D3.v p_8.1.1 p_8.1.2 p_8.2 p_12.1.1 p_12.1.2 p_12.2
theorem D2.hv {R : Rt} {h0 h : Hp} (k0 : Keep h0 h) {x1_0 : Int} (i1_0 : In .i64 x1_0) (rl1_0 : 6 ≤ x1_0) (rh1_0 : x1_0 ≤ 9) {b1_1 : Bool} {a1_2 : Option Addr} {c1_2 : Nat} {xs1_2 : List Nat} (r1_2 : Rd h a1_2 c1_2 xs1_2) {b1_3 : Bool} {a1_4 : Option Addr} {c1_4 : Nat} {xs1_4 : List Nat} (r1_4 : Rd h a1_4 c1_4 xs1_4) {x1_5 : Int} (i1_5 : In .i64 x1_5) {B1 : Nat} (bx1 : BlkV h B1 [.int .i64 x1_0, .bool b1_1, .slice a1_2 xs1_2.length c1_2, .bool b1_3, .slice a1_4 xs1_4.length c1_4, .int .i64 x1_5]) (o1 : h0.size ≤ B1) (v1 : 6 ≤ x1_0) (v2 : x1_0 ≤ 9) (tb : Tab h) (g : Post sBool h0 R (D2.v x1_0 b1_1 xs1_2 b1_3 xs1_4 x1_5)) : D2.t R (⟨B1, 0, none⟩ : Addr) h := by
  have lt1 := bx1.lt
  unfold D2.v at g
  unfold D2.t
  refine ldA bx1 (base_add _ _) rfl (gInt_intro rfl ?_)
  refine ldA bx1 (base_add _ _) rfl (gBool_intro rfl ?_)
  refine ldA bx1 (base_add _ _) rfl (gSlice_intro rfl ?_)
  refine ldA bx1 (base_add _ _) rfl (gBool_intro rfl ?_)
  refine ldA bx1 (base_add _ _) rfl (gSlice_intro rfl ?_)
  refine ldA bx1 (base_add _ _) rfl (gInt_intro rfl ?_)
  refine hc_intro (gnomonlaw04_doc.hv i1_0 (by first | assumption | decide | omega) (by first | assumption | decide | omega) r1_2 rfl r1_4 rfl i1_5) fun v h_1 ⟨k_1, s⟩ => ?_
  obtain ⟨p_8, hp_8⟩ : ∃ p, p = gnomonlaw04_doc.v x1_0 b1_1 xs1_2 b1_3 xs1_4 x1_5 := ⟨_, rfl⟩
  rw [← hp_8] at s
  replace g := lift_let2 hp_8 g
  obtain ⟨_, _, rfl, ⟨a_8_0, c_8_0, rfl, r_8_0⟩, ⟨rfl, i_8_1⟩⟩ := s
  refine gTup_intro rfl (uncons_intro (gAgg_intro rfl (uncons_intro (gBool_intro rfl (uncons_intro (gSlice_intro rfl (unnil_intro (uncons_intro (gInt_intro rfl (unnil_intro (?_)))))))))))
  have m_1 := k_1.tame
  refine boxV fun h_2 bx_9 k_2 => ?_
  have o_9 := (k0.trans k_1).le
  have lt_9 := bx_9.lt
  have m_2 := k_2.tame
  refine stA bx_9 (base_add _ _) rfl fun h_3 bx_9 k_3 m_3 => ?_
  refine stA bx_9 (base_add _ _) rfl fun h_4 bx_9 k_4 m_4 => ?_
  have bx1 := ((((bx1.keep k_1).keep k_2).keepB (Nat.ne_of_lt ((m_1).lt lt1)) k_3).keepB (Nat.ne_of_lt ((m_1).lt lt1)) k_4)
  refine ⟨blkLt (base_add _ _) ((m_1.trans (m_2.trans (m_3.trans m_4))).lt lt1), ?_⟩
  refine ldA bx1 (base_add _ _) rfl (gInt_intro rfl ?_)
  refine ⟨blkLt (base_add _ _) ((m_1.trans (m_2.trans (m_3.trans m_4))).lt lt1), ?_⟩
  refine ldA bx1 (add2 _ _ _) rfl (gBool_intro rfl ?_)
  refine ldA bx1 (add2 _ _ _) rfl (gSlice_intro rfl ?_)
  refine ⟨blkLt (base_add _ _) ((m_1.trans (m_2.trans (m_3.trans m_4))).lt lt1), ?_⟩
  refine ldA bx1 (add2 _ _ _) rfl (gBool_intro rfl ?_)
  refine ldA bx1 (add2 _ _ _) rfl (gSlice_intro rfl ?_)
  refine ⟨blkLt (base_add _ _) ((m_1.trans (m_2.trans (m_3.trans m_4))).lt lt1), ?_⟩
  refine ldA bx1 (base_add _ _) rfl (gInt_intro rfl ?_)
  refine ⟨?_, ?_⟩
  · refine hc_intro (gnomonlaw04_twin.hs (r1_2.tame (m_1.trans (m_2.trans (m_3.trans m_4)))) rfl) fun v h_5 ⟨k_5, s⟩ => ?_
    obtain ⟨a_10, c_10, rfl, r_10⟩ := s
    refine gAgg_intro rfl (uncons_intro (gBool_intro rfl (uncons_intro (gSlice_intro rfl (unnil_intro (?_))))))
    have m_5 := k_5.tame
    refine ⟨k_5.preLe (Nat.le_refl _), ?_⟩
    refine ⟨?_, ?_⟩
    · refine hc_intro (gnomonlaw04_twin.hs (r1_4.tame (m_1.trans (m_2.trans (m_3.trans (m_4.trans m_5))))) rfl) fun v h_6 ⟨k_6, s⟩ => ?_
      obtain ⟨a_11, c_11, rfl, r_11⟩ := s
      refine gAgg_intro rfl (uncons_intro (gBool_intro rfl (uncons_intro (gSlice_intro rfl (unnil_intro (?_))))))
      have m_6 := k_6.tame
      refine ⟨k_6.preLe (m_5).le, ?_⟩
      refine ⟨?_, ?_⟩
      · refine hc_intro (gnomonlaw04_number.hv i1_0 (by first | assumption | decide | omega) (by first | assumption | decide | omega) (r_10.tame (m_6)).rd64 rfl r_11.rd64 rfl i1_5 (tb.tame (m_1.trans (m_2.trans (m_3.trans (m_4.trans (m_5.trans m_6))))))) fun v h_7 ⟨k_7, s⟩ => ?_
        obtain ⟨p_12, hp_12⟩ : ∃ p, p = gnomonlaw04_number.v x1_0 (((b1_1, xs1_2)).1) (((b1_1, xs1_2)).2) (((b1_3, xs1_4)).1) (((b1_3, xs1_4)).2) x1_5 := ⟨_, rfl⟩
        rw [← hp_12] at s
        replace g := lift_let2 hp_12 g
        obtain ⟨_, _, rfl, ⟨a_12_0, c_12_0, rfl, r_12_0⟩, ⟨rfl, i_12_1⟩⟩ := s
        refine gTup_intro rfl (uncons_intro (gAgg_intro rfl (uncons_intro (gBool_intro rfl (uncons_intro (gSlice_intro rfl (unnil_intro (uncons_intro (gInt_intro rfl (unnil_intro (?_)))))))))))
        have m_7 := k_7.tame
        refine ⟨k_7.preLe (m_5.trans m_6).le, ?_⟩
        refine boxV fun h_8 bx_13 k_8 => ?_
        have o_13 := ((((KeepB.keep (KeepB.keep ((k0.trans k_1).trans k_2) k_3 o_9) k_4 o_9).trans k_5).trans k_6).trans k_7).le
        have lt_13 := bx_13.lt
        have m_8 := k_8.tame
        refine ⟨k_8.preLe (m_5.trans (m_6.trans m_7)).le, ?_⟩
        refine stA bx_13 (base_add _ _) rfl fun h_9 bx_13 k_9 m_9 => ?_
        refine stA bx_13 (base_add _ _) rfl fun h_10 bx_13 k_10 m_10 => ?_
        have bx_9 := ((((((bx_9.keep k_5).keep k_6).keep k_7).keep k_8).keepB (Nat.ne_of_lt ((m_3.trans (m_4.trans (m_5.trans (m_6.trans m_7)))).lt lt_9)) k_9).keepB (Nat.ne_of_lt ((m_3.trans (m_4.trans (m_5.trans (m_6.trans m_7)))).lt lt_9)) k_10)
        exact D3.hv (KeepB.keep (KeepB.keep (((((KeepB.keep (KeepB.keep ((k0.trans k_1).trans k_2) k_3 o_9) k_4 o_9).trans k_5).trans k_6).trans k_7).trans k_8) k_9 o_13) k_10 o_13) ((r_8_0.tame (m_2.trans (m_3.trans (m_4.trans (m_5.trans (m_6.trans (m_7.trans (m_8.trans (m_9.trans m_10))))))))).from k0.le) bx_9 o_9 i_8_1 ((r_12_0.tame (m_8.trans (m_9.trans m_10))).from (((KeepB.keep (KeepB.keep ((k0.trans k_1).trans k_2) k_3 o_9) k_4 o_9).trans k_5).trans k_6).le) bx_13 o_13 i_12_1 (Nat.ne_of_lt ((m_3.trans (m_4.trans (m_5.trans (m_6.trans m_7)))).lt lt_9)) (tb.tame (m_1.trans (m_2.trans (m_3.trans (m_4.trans (m_5.trans (m_6.trans (m_7.trans (m_8.trans (m_9.trans m_10)))))))))) g
      refine boxV fun h_7 bx_15 k_7 => ?_
      have o_15 := (((KeepB.keep (KeepB.keep ((k0.trans k_1).trans k_2) k_3 o_9) k_4 o_9).trans k_5).trans k_6).le
      have lt_15 := bx_15.lt
      have m_7 := k_7.tame
      refine ⟨k_7.preLe (m_5.trans m_6).le, ?_⟩
      refine hc_intro (gnomonlaw04_number.hv i1_0 (by first | assumption | decide | omega) (by first | assumption | decide | omega) (r_10.tame (m_6.trans m_7)).rd64 rfl (r_11.tame (m_7)).rd64 rfl i1_5 (tb.tame (m_1.trans (m_2.trans (m_3.trans (m_4.trans (m_5.trans (m_6.trans m_7)))))))) fun v h_8 ⟨k_8, s⟩ => ?_
      obtain ⟨p_16, hp_16⟩ : ∃ p, p = gnomonlaw04_number.v x1_0 (((b1_1, xs1_2)).1) (((b1_1, xs1_2)).2) (((b1_3, xs1_4)).1) (((b1_3, xs1_4)).2) x1_5 := ⟨_, rfl⟩
      rw [← hp_16] at s
      replace g := lift_let2 hp_16 g
      obtain ⟨_, _, rfl, ⟨a_16_0, c_16_0, rfl, r_16_0⟩, ⟨rfl, i_16_1⟩⟩ := s
      refine gTup_intro rfl (uncons_intro (gAgg_intro rfl (uncons_intro (gBool_intro rfl (uncons_intro (gSlice_intro rfl (unnil_intro (uncons_intro (gInt_intro rfl (unnil_intro (?_)))))))))))
      have m_8 := k_8.tame
      refine ⟨k_8.preLe (m_5.trans (m_6.trans m_7)).le, ?_⟩
      have bx_15 := (bx_15.keep k_8)
      refine stA bx_15 (base_add _ _) rfl fun h_9 bx_15 k_9 m_9 => ?_
      refine stA bx_15 (base_add _ _) rfl fun h_10 bx_15 k_10 m_10 => ?_
      have bx_9 := ((((((bx_9.keep k_5).keep k_6).keep k_7).keep k_8).keepB (Nat.ne_of_lt ((m_3.trans (m_4.trans (m_5.trans m_6))).lt lt_9)) k_9).keepB (Nat.ne_of_lt ((m_3.trans (m_4.trans (m_5.trans m_6))).lt lt_9)) k_10)
      exact D3.hv (KeepB.keep (KeepB.keep (((((KeepB.keep (KeepB.keep ((k0.trans k_1).trans k_2) k_3 o_9) k_4 o_9).trans k_5).trans k_6).trans k_7).trans k_8) k_9 o_15) k_10 o_15) ((r_8_0.tame (m_2.trans (m_3.trans (m_4.trans (m_5.trans (m_6.trans (m_7.trans (m_8.trans (m_9.trans m_10))))))))).from k0.le) bx_9 o_9 i_8_1 ((r_16_0.tame (m_9.trans m_10)).from ((((KeepB.keep (KeepB.keep ((k0.trans k_1).trans k_2) k_3 o_9) k_4 o_9).trans k_5).trans k_6).trans k_7).le) bx_15 o_15 i_16_1 (Nat.ne_of_lt ((m_3.trans (m_4.trans (m_5.trans m_6))).lt lt_9)) (tb.tame (m_1.trans (m_2.trans (m_3.trans (m_4.trans (m_5.trans (m_6.trans (m_7.trans (m_8.trans (m_9.trans m_10)))))))))) g
    refine boxV fun h_6 bx_17 k_6 => ?_
    have o_17 := ((KeepB.keep (KeepB.keep ((k0.trans k_1).trans k_2) k_3 o_9) k_4 o_9).trans k_5).le
    have lt_17 := bx_17.lt
    have m_6 := k_6.tame
    refine ⟨k_6.preLe (m_5).le, ?_⟩
    refine hc_intro (gnomonlaw04_twin.hs (r1_4.tame (m_1.trans (m_2.trans (m_3.trans (m_4.trans (m_5.trans m_6)))))) rfl) fun v h_7 ⟨k_7, s⟩ => ?_
    obtain ⟨a_18, c_18, rfl, r_18⟩ := s
    refine gAgg_intro rfl (uncons_intro (gBool_intro rfl (uncons_intro (gSlice_intro rfl (unnil_intro (?_))))))
    have m_7 := k_7.tame
    refine ⟨k_7.preLe (m_5.trans m_6).le, ?_⟩
    refine hc_intro (gnomonlaw04_number.hv i1_0 (by first | assumption | decide | omega) (by first | assumption | decide | omega) (r_10.tame (m_6.trans m_7)).rd64 rfl r_18.rd64 rfl i1_5 (tb.tame (m_1.trans (m_2.trans (m_3.trans (m_4.trans (m_5.trans (m_6.trans m_7)))))))) fun v h_8 ⟨k_8, s⟩ => ?_
    obtain ⟨p_19, hp_19⟩ : ∃ p, p = gnomonlaw04_number.v x1_0 (((b1_1, xs1_2)).1) (((b1_1, xs1_2)).2) (((b1_3, xs1_4)).1) (((b1_3, xs1_4)).2) x1_5 := ⟨_, rfl⟩
    rw [← hp_19] at s
    replace g := lift_let2 hp_19 g
    obtain ⟨_, _, rfl, ⟨a_19_0, c_19_0, rfl, r_19_0⟩, ⟨rfl, i_19_1⟩⟩ := s
    refine gTup_intro rfl (uncons_intro (gAgg_intro rfl (uncons_intro (gBool_intro rfl (uncons_intro (gSlice_intro rfl (unnil_intro (uncons_intro (gInt_intro rfl (unnil_intro (?_)))))))))))
    have m_8 := k_8.tame
    refine ⟨k_8.preLe (m_5.trans (m_6.trans m_7)).le, ?_⟩
    have bx_17 := ((bx_17.keep k_7).keep k_8)
    refine stA bx_17 (base_add _ _) rfl fun h_9 bx_17 k_9 m_9 => ?_
    refine stA bx_17 (base_add _ _) rfl fun h_10 bx_17 k_10 m_10 => ?_
    have bx_9 := ((((((bx_9.keep k_5).keep k_6).keep k_7).keep k_8).keepB (Nat.ne_of_lt ((m_3.trans (m_4.trans m_5)).lt lt_9)) k_9).keepB (Nat.ne_of_lt ((m_3.trans (m_4.trans m_5)).lt lt_9)) k_10)
    exact D3.hv (KeepB.keep (KeepB.keep (((((KeepB.keep (KeepB.keep ((k0.trans k_1).trans k_2) k_3 o_9) k_4 o_9).trans k_5).trans k_6).trans k_7).trans k_8) k_9 o_17) k_10 o_17) ((r_8_0.tame (m_2.trans (m_3.trans (m_4.trans (m_5.trans (m_6.trans (m_7.trans (m_8.trans (m_9.trans m_10))))))))).from k0.le) bx_9 o_9 i_8_1 ((r_19_0.tame (m_9.trans m_10)).from ((((KeepB.keep (KeepB.keep ((k0.trans k_1).trans k_2) k_3 o_9) k_4 o_9).trans k_5).trans k_6).trans k_7).le) bx_17 o_17 i_19_1 (Nat.ne_of_lt ((m_3.trans (m_4.trans m_5)).lt lt_9)) (tb.tame (m_1.trans (m_2.trans (m_3.trans (m_4.trans (m_5.trans (m_6.trans (m_7.trans (m_8.trans (m_9.trans m_10)))))))))) g
  refine boxV fun h_5 bx_20 k_5 => ?_
  have o_20 := (KeepB.keep (KeepB.keep ((k0.trans k_1).trans k_2) k_3 o_9) k_4 o_9).le
  have lt_20 := bx_20.lt
  have m_5 := k_5.tame
  refine ⟨k_5.preLe (Nat.le_refl _), ?_⟩
  refine hc_intro (gnomonlaw04_twin.hs (r1_2.tame (m_1.trans (m_2.trans (m_3.trans (m_4.trans m_5))))) rfl) fun v h_6 ⟨k_6, s⟩ => ?_
  obtain ⟨a_21, c_21, rfl, r_21⟩ := s
  refine gAgg_intro rfl (uncons_intro (gBool_intro rfl (uncons_intro (gSlice_intro rfl (unnil_intro (?_))))))
  have m_6 := k_6.tame
  refine ⟨k_6.preLe (m_5).le, ?_⟩
  refine hc_intro (gnomonlaw04_twin.hs (r1_4.tame (m_1.trans (m_2.trans (m_3.trans (m_4.trans (m_5.trans m_6)))))) rfl) fun v h_7 ⟨k_7, s⟩ => ?_
  obtain ⟨a_22, c_22, rfl, r_22⟩ := s
  refine gAgg_intro rfl (uncons_intro (gBool_intro rfl (uncons_intro (gSlice_intro rfl (unnil_intro (?_))))))
  have m_7 := k_7.tame
  refine ⟨k_7.preLe (m_5.trans m_6).le, ?_⟩
  refine hc_intro (gnomonlaw04_number.hv i1_0 (by first | assumption | decide | omega) (by first | assumption | decide | omega) (r_21.tame (m_7)).rd64 rfl r_22.rd64 rfl i1_5 (tb.tame (m_1.trans (m_2.trans (m_3.trans (m_4.trans (m_5.trans (m_6.trans m_7)))))))) fun v h_8 ⟨k_8, s⟩ => ?_
  obtain ⟨p_23, hp_23⟩ : ∃ p, p = gnomonlaw04_number.v x1_0 (((b1_1, xs1_2)).1) (((b1_1, xs1_2)).2) (((b1_3, xs1_4)).1) (((b1_3, xs1_4)).2) x1_5 := ⟨_, rfl⟩
  rw [← hp_23] at s
  replace g := lift_let2 hp_23 g
  obtain ⟨_, _, rfl, ⟨a_23_0, c_23_0, rfl, r_23_0⟩, ⟨rfl, i_23_1⟩⟩ := s
  refine gTup_intro rfl (uncons_intro (gAgg_intro rfl (uncons_intro (gBool_intro rfl (uncons_intro (gSlice_intro rfl (unnil_intro (uncons_intro (gInt_intro rfl (unnil_intro (?_)))))))))))
  have m_8 := k_8.tame
  refine ⟨k_8.preLe (m_5.trans (m_6.trans m_7)).le, ?_⟩
  have bx_20 := (((bx_20.keep k_6).keep k_7).keep k_8)
  refine stA bx_20 (base_add _ _) rfl fun h_9 bx_20 k_9 m_9 => ?_
  refine stA bx_20 (base_add _ _) rfl fun h_10 bx_20 k_10 m_10 => ?_
  have bx_9 := ((((((bx_9.keep k_5).keep k_6).keep k_7).keep k_8).keepB (Nat.ne_of_lt ((m_3.trans m_4).lt lt_9)) k_9).keepB (Nat.ne_of_lt ((m_3.trans m_4).lt lt_9)) k_10)
  exact D3.hv (KeepB.keep (KeepB.keep (((((KeepB.keep (KeepB.keep ((k0.trans k_1).trans k_2) k_3 o_9) k_4 o_9).trans k_5).trans k_6).trans k_7).trans k_8) k_9 o_20) k_10 o_20) ((r_8_0.tame (m_2.trans (m_3.trans (m_4.trans (m_5.trans (m_6.trans (m_7.trans (m_8.trans (m_9.trans m_10))))))))).from k0.le) bx_9 o_9 i_8_1 ((r_23_0.tame (m_9.trans m_10)).from ((((KeepB.keep (KeepB.keep ((k0.trans k_1).trans k_2) k_3 o_9) k_4 o_9).trans k_5).trans k_6).trans k_7).le) bx_20 o_20 i_23_1 (Nat.ne_of_lt ((m_3.trans m_4).lt lt_9)) (tb.tame (m_1.trans (m_2.trans (m_3.trans (m_4.trans (m_5.trans (m_6.trans (m_7.trans (m_8.trans (m_9.trans m_10)))))))))) g
def D1.v (x0_0 : Int) (b0_1_0 : Bool) (xs0_1_1 : List Nat) (b0_2_0 : Bool) (xs0_2_1 : List Nat) (x0_3 : Int) : Bool :=
  bif (x0_0 == (5 : Int)) then
    letV (cmpS ((((b0_1_0, xs0_1_1)).1), (((b0_1_0, xs0_1_1)).2)) ((((b0_2_0, xs0_2_1)).1), (((b0_2_0, xs0_2_1)).2))) fun p_5 =>
    letV (cmpS (b0_1_0, xs0_1_1) (b0_2_0, xs0_2_1)) fun p_6 =>
    bif (p_5.1 == p_6.1) then
      (p_5.2 == p_6.2)
    else
      false
  else
    D2.v x0_0 b0_1_0 xs0_1_1 b0_2_0 xs0_2_1 x0_3
theorem D1.hv {R : Rt} {h0 h : Hp} (k0 : Keep h0 h) {x0_0 : Int} (i0_0 : In .i64 x0_0) (rl0_0 : 5 ≤ x0_0) (rh0_0 : x0_0 ≤ 9) {b0_1_0 : Bool} {a0_1_1 : Option Addr} {c0_1_1 l0_1_1 : Nat} {xs0_1_1 : List Nat} (r0_1_1 : Rd h a0_1_1 c0_1_1 xs0_1_1) (e0_1_1 : l0_1_1 = xs0_1_1.length) {b0_2_0 : Bool} {a0_2_1 : Option Addr} {c0_2_1 l0_2_1 : Nat} {xs0_2_1 : List Nat} (r0_2_1 : Rd h a0_2_1 c0_2_1 xs0_2_1) (e0_2_1 : l0_2_1 = xs0_2_1.length) {x0_3 : Int} (i0_3 : In .i64 x0_3) (tb : Tab h) (g : Post sBool h0 R (D1.v x0_0 b0_1_0 xs0_1_1 b0_2_0 xs0_2_1 x0_3)) : D1.t R x0_0 b0_1_0 a0_1_1 l0_1_1 c0_1_1 b0_2_0 a0_2_1 l0_2_1 c0_2_1 x0_3 h := by
  subst e0_1_1 e0_2_1
  unfold D1.v at g
  unfold D1.t
  refine boxV fun h_1 bx_1 k_1 => ?_
  have o_1 := k0.le
  have lt_1 := bx_1.lt
  have m_1 := k_1.tame
  refine ldA bx_1 (base_add _ _) rfl (gInt_intro rfl ?_)
  refine c_eq (fun q => absurd q (by omega)) fun _ => ?_
  refine c_eq (fun q => absurd q (by omega)) fun _ => ?_
  refine c_eq (fun q => absurd q (by omega)) fun _ => ?_
  refine lift_eq g (fun q_2 g => ?_) (fun q_2 g => ?_)
  · have gq := g
    subst q_2
    have g := gq
    clear gq
    refine ⟨blkLt (base_add _ _) (lt_1), ?_⟩
    refine ldA bx_1 (add2 _ _ _) rfl (gBool_intro rfl ?_)
    refine ldA bx_1 (add2 _ _ _) rfl (gSlice_intro rfl ?_)
    refine hc_intro (gnomonlaw04_twin.hs (r0_1_1.tame (m_1)) rfl) fun v h_2 ⟨k_2, s⟩ => ?_
    obtain ⟨a_3, c_3, rfl, r_3⟩ := s
    refine gAgg_intro rfl (uncons_intro (gBool_intro rfl (uncons_intro (gSlice_intro rfl (unnil_intro (?_))))))
    have m_2 := k_2.tame
    refine ⟨k_2.preLe (Nat.le_refl _), ?_⟩
    have bx_1 := (bx_1.keep k_2)
    refine ⟨blkLt (base_add _ _) (lt_1), ?_⟩
    refine ldA bx_1 (add2 _ _ _) rfl (gBool_intro rfl ?_)
    refine ldA bx_1 (add2 _ _ _) rfl (gSlice_intro rfl ?_)
    refine hc_intro (gnomonlaw04_twin.hs (r0_2_1.tame (m_1.trans m_2)) rfl) fun v h_3 ⟨k_3, s⟩ => ?_
    obtain ⟨a_4, c_4, rfl, r_4⟩ := s
    refine gAgg_intro rfl (uncons_intro (gBool_intro rfl (uncons_intro (gSlice_intro rfl (unnil_intro (?_))))))
    have m_3 := k_3.tame
    refine ⟨k_3.preLe (m_2).le, ?_⟩
    refine hc_intro (num_Cmp.hs (r_3.tame (m_3)).rd64 rfl r_4.rd64 rfl) fun v h_4 ⟨k_4, s⟩ => ?_
    obtain ⟨p_5, hp_5⟩ : ∃ p, p = cmpS ((((b0_1_0, xs0_1_1)).1), (((b0_1_0, xs0_1_1)).2)) ((((b0_2_0, xs0_2_1)).1), (((b0_2_0, xs0_2_1)).2)) := ⟨_, rfl⟩
    rw [← hp_5] at s
    replace g := lift_let2 hp_5 g
    obtain ⟨_, _, rfl, ⟨rfl, i_5_0⟩, ⟨rfl, i_5_1⟩⟩ := s
    refine gTup_intro rfl (uncons_intro (gInt_intro rfl (uncons_intro (gInt_intro rfl (unnil_intro (?_))))))
    have m_4 := k_4.tame
    refine ⟨k_4.preLe (m_2.trans m_3).le, ?_⟩
    have bx_1 := ((bx_1.keep k_3).keep k_4)
    refine ldA bx_1 (add2 _ _ _) rfl (gBool_intro rfl ?_)
    refine ldA bx_1 (add2 _ _ _) rfl (gSlice_intro rfl ?_)
    refine ldA bx_1 (add2 _ _ _) rfl (gBool_intro rfl ?_)
    refine ldA bx_1 (add2 _ _ _) rfl (gSlice_intro rfl ?_)
    refine hc_intro (gnomonref04_DocCmp.hs (r0_1_1.tame (m_1.trans (m_2.trans (m_3.trans m_4)))) rfl (r0_2_1.tame (m_1.trans (m_2.trans (m_3.trans m_4)))) rfl) fun v h_5 ⟨k_5, s⟩ => ?_
    obtain ⟨p_6, hp_6⟩ : ∃ p, p = cmpS (b0_1_0, xs0_1_1) (b0_2_0, xs0_2_1) := ⟨_, rfl⟩
    rw [← hp_6] at s
    replace g := lift_let2 hp_6 g
    obtain ⟨_, _, rfl, ⟨rfl, i_6_0⟩, ⟨rfl, i_6_1⟩⟩ := s
    refine gTup_intro rfl (uncons_intro (gInt_intro rfl (uncons_intro (gInt_intro rfl (unnil_intro (?_))))))
    have m_5 := k_5.tame
    refine lift_eq g (fun q_7 g => ?_) (fun q_7 g => ?_)
    · exact g _ _ (((((k0.trans k_1).trans k_2).trans k_3).trans k_4).trans k_5) rfl
    exact g _ _ (((((k0.trans k_1).trans k_2).trans k_3).trans k_4).trans k_5) rfl
  refine ldA bx_1 (base_add _ _) rfl (gInt_intro rfl ?_)
  refine c_dec (fun q => absurd q (by omega)) fun _ => ?_
  refine ldA bx_1 (base_add _ _) rfl (gInt_intro rfl ?_)
  refine c_dec (fun q => absurd q (by omega)) fun _ => ?_
  exact D2.hv (k0.trans k_1) i0_0 (by first | assumption | decide | omega) (by first | assumption | decide | omega) (r0_1_1.tame (m_1)) (r0_2_1.tame (m_1)) i0_3 bx_1 o_1 (by first | assumption | decide | omega) (by first | assumption | decide | omega) (tb.tame (m_1)) g
def v (x0_0 : Int) (b0_1_0 : Bool) (xs0_1_1 : List Nat) (b0_2_0 : Bool) (xs0_2_1 : List Nat) (x0_3 : Int) : Bool := D1.v x0_0 b0_1_0 xs0_1_1 b0_2_0 xs0_2_1 x0_3
theorem hv {h : Hp} {x0_0 : Int} (i0_0 : In .i64 x0_0) (rl0_0 : 5 ≤ x0_0) (rh0_0 : x0_0 ≤ 9) {b0_1_0 : Bool} {a0_1_1 : Option Addr} {c0_1_1 l0_1_1 : Nat} {xs0_1_1 : List Nat} (r0_1_1 : Rd h a0_1_1 c0_1_1 xs0_1_1) (e0_1_1 : l0_1_1 = xs0_1_1.length) {b0_2_0 : Bool} {a0_2_1 : Option Addr} {c0_2_1 l0_2_1 : Nat} {xs0_2_1 : List Nat} (r0_2_1 : Rd h a0_2_1 c0_2_1 xs0_2_1) (e0_2_1 : l0_2_1 = xs0_2_1.length) {x0_3 : Int} (i0_3 : In .i64 x0_3) (tb : Tab h) : HC id #[.agg #[.int .i64 x0_0, .bool b0_1_0, .slice a0_1_1 l0_1_1 c0_1_1, .bool b0_2_0, .slice a0_2_1 l0_2_1 c0_2_1, .int .i64 x0_3]] h fun v_ h_ => Keep h h_ ∧ sBool h h_ v_ (v x0_0 b0_1_0 xs0_1_1 b0_2_0 xs0_2_1 x0_3) :=
  ok (D1.hv (Keep.refl _) i0_0 rl0_0 rh0_0 r0_1_1 e0_1_1 r0_2_1 e0_2_1 i0_3 tb fun v h' k s => ⟨k, s⟩)
end gnomonlaw04_plays

end Go.Proofs.YtanlcacaihdceaaGreatDoor.G

/- A script of calls of layer 4: what it reads as. -/
namespace Go.Proofs.YtanlcacaihdceaaGreatDoor.G
open Go.Gv
set_option linter.unusedVariables false
set_option maxRecDepth 100000
abbrev I4 := Bool × List Nat × Unit
abbrev Op4 := Int × (I4 × (I4 × (Int × Unit)))
abbrev saysOp4 : Says Op4 := saysCons (saysInt .i64) 1 (saysCons saysInt4 2 (saysCons saysInt4 2 (saysCons (saysInt .i64) 1 saysEnd)))
abbrev RdOps4 (h : Hp) (a : Option Addr) (c : Nat) (os : List Op4) : Prop := RdList saysOp4 6 1759218604390 h a c os
theorem saysBool_lasts : Lasts saysBool := fun _ _ _ _ z _ => z
theorem saysInt4_lasts : Lasts saysInt4 := saysCons_lasts saysBool_lasts (saysCons_lasts saysWords_lasts saysEnd_lasts 1) 1
theorem saysOp4_lasts : Lasts saysOp4 := saysCons_lasts (saysInt_lasts _) (saysCons_lasts saysInt4_lasts (saysCons_lasts saysInt4_lasts (saysCons_lasts (saysInt_lasts _) saysEnd_lasts 1) 2) 2) 1
theorem RdOps4.keep {h h' : Hp} {a : Option Addr} {c : Nat} {os : List Op4} (r : RdOps4 h a c os) (k : Keep h h') : RdOps4 h' a c os := RdList.keep saysOp4_lasts r k
theorem says_twoZ {α β : Type} {S : Says α} {T : Says β} {h : Hp} {cs : List Value} {p : α × β} (z : saysCons S 2 T h cs p) : ∃ c d rest, cs = c :: d :: rest ∧ S h [c, d] p.1 ∧ T h rest p.2 := by
  obtain ⟨l, s, t⟩ := z
  match cs with
  | [] => simp at l
  | [_] => simp at l
  | c :: d :: r => exact ⟨c, d, r, rfl, s, t⟩
theorem int4_list {h : Hp} {v w : Value} {x : I4} (z : saysInt4 h [v, w] x) : ∃ a c, v = .bool x.1 ∧ w = .slice a x.2.1.length c ∧ Rd h a c x.2.1 := by
  obtain ⟨a, c, e, r⟩ := int4_open (cs := #[v, w]) z
  have e := congrArg Array.toList e
  simp only [List.cons.injEq, and_true] at e
  exact ⟨a, c, e.1, e.2, r⟩
/-- What one call of a script reads as. -/
theorem op4_open {h : Hp} {q : Addr} {vs : List Value} {o : Op4} (rl : RdL h q 0 vs) (s : saysOp4 h vs o) :
    ∃ a c b d, cellH h (q.add 0) = some (.int .i64 o.1) ∧ cellH h (q.add 1) = some (.bool o.2.1.1) ∧ cellH h (q.add 2) = some (.slice a o.2.1.2.1.length c) ∧ cellH h (q.add 3) = some (.bool o.2.2.1.1) ∧ cellH h (q.add 4) = some (.slice b o.2.2.1.2.1.length d) ∧ cellH h (q.add 5) = some (.int .i64 o.2.2.2.1) ∧
      In .i64 o.1 ∧ Rd h a c o.2.1.2.1 ∧ Rd h b d o.2.2.1.2.1 ∧ In .i64 o.2.2.2.1 := by
  obtain ⟨v0, t0, e0, ⟨f0, w0⟩, s⟩ := says_oneZ s
  obtain ⟨v1, v2, t1, e1, z1, s⟩ := says_twoZ s
  obtain ⟨v3, v4, t2, e2, z2, s⟩ := says_twoZ s
  obtain ⟨v5, t3, e3, ⟨f5, w5⟩, s⟩ := says_oneZ s
  have s : t3 = [] := s
  obtain ⟨a, c, g1, g2, r1⟩ := int4_list z1
  obtain ⟨b, d, g3, g4, r2⟩ := int4_list z2
  simp only [List.cons.injEq, and_true] at f0 f5
  subst s e3 e2 e1 e0 f0 f5 g1 g2 g3 g4
  exact ⟨a, c, b, d, rl.1, rl.2.1, rl.2.2.1, rl.2.2.2.1, rl.2.2.2.2.1, rl.2.2.2.2.2.1, in_wf w0, r1, r2, in_wf w5⟩
end Go.Proofs.YtanlcacaihdceaaGreatDoor.G

/- The law NumSums of the translation answers true. -/
namespace Go.Proofs.YtanlcacaihdceaaGreatDoor.G
open Go.Gv
set_option linter.unusedVariables false
set_option maxRecDepth 100000
theorem plays4_true {k : Int} (h1 : 5 ≤ k) (h2 : k ≤ 9) (b : Bool) (xs : List Nat) (c : Bool) (ys : List Nat) (n : Int) : gnomonlaw04_plays.v k b xs c ys n = true := by
  have d2 : ∀ {k : Int}, 6 ≤ k → k ≤ 9 → gnomonlaw04_plays.D2.v k b xs c ys n = true := by
    intro k h1 h2
    unfold gnomonlaw04_plays.D2.v gnomonlaw04_plays.D3.v
    simp only [letV, doc_number h1 h2]
    exact told4_same _ _
  unfold gnomonlaw04_plays.v gnomonlaw04_plays.D1.v
  by_cases e5 : k = 5
  · subst e5; simp [letV]
  · have e : (k == 5) = false := by simp [e5]
    rw [e, cond_false]; exact d2 (by omega) (by omega)
theorem all4_walk {R : Rt} {a : Option Addr} {c : Nat} {os : List Op4} {h0 : Hp} (r : RdOps4 h0 a c os) (tb : Tab h0) (post : ∀ h', Keep h0 h' → R (.bool true) h') :
    ∀ (k i : Nat) (h : Hp), i + k = os.length → Keep h0 h → gnomonlaw04_all.L4.t R (k + 1) 5 9 a os.length c (os.length : Int) (i : Int) h := by
  have h1 : os.length ≤ 1759218604390 := r.len
  intro k
  induction k with
  | zero =>
    intro i h hik kp
    unfold gnomonlaw04_all.L4.t gnomonlaw04_all.D5.t
    refine c_dec (fun hb => absurd hb (by omega)) fun _ => ?_
    unfold gnomonlaw04_all.D2.t
    exact post _ kp
  | succ k ih =>
    intro i h hik kp
    unfold gnomonlaw04_all.L4.t gnomonlaw04_all.D5.t
    refine c_dec (fun _ => ?_) fun hb => absurd (by omega) hb
    obtain ⟨o, ho⟩ : ∃ o, os[i]? = some o := ⟨os[i]'(by omega), by simp⟩
    refine at_list (r.keep kp) rfl rfl ho fun q vs hvs rl s => ?_
    obtain ⟨a1, c1, b1, d1, e0, e1, e2, e3, e4, e5, i0, r1, r2, i5⟩ := op4_open rl s
    refine ldC e0 ?_
    refine gInt_intro rfl ?_
    refine ldC e1 ?_
    refine gBool_intro rfl ?_
    refine ldC e2 ?_
    refine gSlice_intro rfl ?_
    refine ldC e3 ?_
    refine gBool_intro rfl ?_
    refine ldC e4 ?_
    refine gSlice_intro rfl ?_
    refine ldC e5 ?_
    refine gInt_intro rfl ?_
    refine boxV fun h2 o2 k2 => ?_
    refine stV o2 (Nat.le_of_ble_eq_true rfl) fun h3 o3 k3 => ?_
    refine stV o3 (Nat.le_of_ble_eq_true rfl) fun h4 o4 k4 => ?_
    refine stV o4 (Nat.le_of_ble_eq_true rfl) fun h5 o5 k5 => ?_
    refine stV o5 (Nat.le_of_ble_eq_true rfl) fun h6 o6 k6 => ?_
    refine stV o6 (Nat.le_of_ble_eq_true rfl) fun h7 o7 k7 => ?_
    refine stV o7 (Nat.le_of_ble_eq_true rfl) fun h8 o8 k8 => ?_
    have kh : Keep h h8 := (k3.trans (k4.trans (k5.trans (k6.trans (k7.trans k8))))).keep k2 (Nat.le_refl _)
    have k07 := kp.trans kh
    have next : ∀ h', Keep h0 h' → letK (IntKind.i64.wrap ((i : Int) + 1)) fun n36 => gnomonlaw04_all.L4.t R (k + 1) 5 9 a os.length c (os.length : Int) n36 h' := by
      intro h' k'
      refine k_i64 ((i + 1 : Nat) : Int) (by omega) (by omega) (by omega) ?_
      exact ih (i + 1) h' (by omega) k'
    refine ldV o8 rfl ?_
    refine gInt_intro rfl ?_
    refine c_dec (fun hlo => ?_) fun _ => next _ k07
    refine ldV o8 rfl ?_
    refine gInt_intro rfl ?_
    refine c_dec (fun hhi => ?_) fun _ => next _ k07
    refine ldV o8 rfl ?_
    refine gInt_intro rfl ?_
    refine ldV o8 rfl ?_
    refine gBool_intro rfl ?_
    refine ldV o8 rfl ?_
    refine gSlice_intro rfl ?_
    refine ldV o8 rfl ?_
    refine gBool_intro rfl ?_
    refine ldV o8 rfl ?_
    refine gSlice_intro rfl ?_
    refine ldV o8 rfl ?_
    refine gInt_intro rfl ?_
    refine hc_intro (gnomonlaw04_plays.hv i0 (by omega) (by omega) (r1.keep kh) rfl (r2.keep kh) rfl i5 (tb.keep k07)) fun v h9 ⟨k9, e9⟩ => ?_
    rw [plays4_true (by omega) (by omega)] at e9
    have e9 : v = .bool true := e9
    subst e9
    refine gBool_intro rfl ?_
    refine c_not (fun hh => absurd hh (by simp)) fun _ => ?_
    exact next _ (k07.trans k9)
theorem gnomonlaw04_all.hv {h : Hp} {a : Option Addr} {c l : Nat} {os : List Op4} (r : RdOps4 h a c os) (e : l = os.length) (tb : Tab h) :
    HC gnomonlaw04_all.id #[.slice a l c, .int .i64 5, .int .i64 9] h fun v h' => Keep h h' ∧ sBool h h' v true := by
  subst e
  refine gnomonlaw04_all.ok ?_
  unfold gnomonlaw04_all.t gnomonlaw04_all.D1.t gnomonlaw04_all.D3.t
  refine ⟨os.length + 1, ?_⟩
  exact all4_walk r tb (fun h' k => ⟨k, rfl⟩) os.length 0 h (by omega) (Keep.refl _)
section
variable {h : Hp} {a : Option Addr} {c l : Nat} {os : List Op4}
theorem NumSums_law (r : RdOps4 h a c os) (e : l = os.length) (tb : Tab h) : HC gnomonlaw04_NumSums.id #[.slice a l c] h fun v h' => Keep h h' ∧ v = .bool true := by
  refine gnomonlaw04_NumSums.ok ?_
  unfold gnomonlaw04_NumSums.t gnomonlaw04_NumSums.D1.t
  refine hc_intro awake_hs fun v h' ⟨k, s⟩ => ?_
  have s : v = .bool true := s
  subst s
  refine gBool_intro rfl ?_
  refine c_bool (fun _ => ?_) fun hh => absurd hh (by decide)
  refine hc_intro (gnomonlaw04_all.hv (r.keep k) e (tb.keep k)) fun v h2 ⟨k2, s⟩ => ?_
  have s : v = .bool true := s
  subst s
  exact gBool_intro rfl ⟨k.trans k2, rfl⟩
end
end Go.Proofs.YtanlcacaihdceaaGreatDoor.G
