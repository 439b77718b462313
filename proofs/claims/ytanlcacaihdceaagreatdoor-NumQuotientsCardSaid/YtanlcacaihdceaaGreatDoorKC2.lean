/- Texts of this work, joined: ZDocC, ZDocD, ZDocE, ZDocF, ZDocG, ZDocH, ZDocI, ZDocJ, ZPlayT, ZPlayT2, ZDocKQ, ZDocLQ, ZPlayQ, ZPlayQ2, ZPlayQL, ZAllC, ZAllQ. -/
import Derived.Test.YtanlcacaihdceaaGreatDoorKC0
import Derived.Test.YtanlcacaihdceaaGreatDoorKC1
/- Functions without loops as functions of values. Written by a program of this work. -/
namespace Go.Proofs.YtanlcacaihdceaaGreatDoor.G
open Go.Gv
set_option linter.unusedVariables false
set_option maxRecDepth 100000
namespace gnomonref04_Sub
def D1.v (b0_0 : Bool) (X0_1 : Nat) (b1_0 : Bool) (X1_1 : Nat) : (Bool × Nat) :=
  letV (dz (-di (b1_0, X1_1))) fun p_4 =>
  letV (dz (di (b0_0, X0_1) + di (p_4.1, p_4.2))) fun p_5 =>
  (p_5.1, p_5.2)
theorem D1.hv {R : Rt} {h0 h : Hp} (k0 : Keep h0 h) {b0_0 : Bool} {a0_1 : Option Addr} {c0_1 l0_1 : Nat} {X0_1 : Nat} (r0_1 : RdE eU32 h a0_1 c0_1 (D.digs X0_1)) (e0_1 : l0_1 = (D.digs X0_1).length) (w0_1 : (D.digs X0_1).length ≤ 1000000) {b1_0 : Bool} {a1_1 : Option Addr} {c1_1 l1_1 : Nat} {X1_1 : Nat} (r1_1 : RdE eU32 h a1_1 c1_1 (D.digs X1_1)) (e1_1 : l1_1 = (D.digs X1_1).length) (w1_1 : (D.digs X1_1).length ≤ 1000000) (g : Post sZD h0 R (D1.v b0_0 X0_1 b1_0 X1_1)) : D1.t R b0_0 a0_1 l0_1 c0_1 b1_0 a1_1 l1_1 c1_1 h := by
  subst e0_1 e1_1
  have kh := Keep.refl h
  have w_z : (D.digs 0).length = 0 := by simp [D.digs_zero]
  unfold D1.v at g
  unfold D1.t
  refine boxV fun h_1 bx_1 k_1 => ?_
  have o_1 : h0.size ≤ h.size := k0.le
  have oh_1 : h.size ≤ h.size := kh.le
  have lt_1 := bx_1.lt
  have m_1 := k_1.tame
  have k0 := k0.trans k_1
  have kh := kh.trans k_1
  refine boxV fun h_2 bx_2 k_2 => ?_
  have d_1q_2 : h.size ≠ h_1.size := Nat.ne_of_lt bx_1.lt
  have o_2 : h0.size ≤ h_1.size := k0.le
  have oh_2 : h.size ≤ h_1.size := kh.le
  have lt_2 := bx_2.lt
  have m_2 := k_2.tame
  have bx_1 := bx_1.keep k_2
  have k0 := k0.trans k_2
  have kh := kh.trans k_2
  refine boxV fun h_3 bx_3 k_3 => ?_
  have d_1q_3 : h.size ≠ h_2.size := Nat.ne_of_lt bx_1.lt
  have d_2q_3 : h_1.size ≠ h_2.size := Nat.ne_of_lt bx_2.lt
  have bx_3 : BlkV h_3 (h_2.size) [.bool false, .slice none (D.digs 0).length 0] := by rw [D.digs_zero]; exact bx_3
  have o_3 : h0.size ≤ h_2.size := k0.le
  have oh_3 : h.size ≤ h_2.size := kh.le
  have lt_3 := bx_3.lt
  have m_3 := k_3.tame
  have bx_1 := bx_1.keep k_3
  have bx_2 := bx_2.keep k_3
  have k0 := k0.trans k_3
  have kh := kh.trans k_3
  refine ⟨blkLt rfl ((m_2.trans m_3).lt lt_1), ?_⟩
  refine ldA bx_1 (base_add _ _) rfl ?_
  refine gBool_intro rfl ?_
  refine ldA bx_1 (base_add _ _) rfl ?_
  refine gSlice_intro rfl ?_
  refine ⟨blkLt rfl ((m_3).lt lt_2), ?_⟩
  refine ldA bx_2 (base_add _ _) rfl ?_
  refine gBool_intro rfl ?_
  refine ldA bx_2 (base_add _ _) rfl ?_
  refine gSlice_intro rfl ?_
  refine hc_intro (gnomonref04_Flip.hs (r1_1.tame (m_1.trans (m_2.trans m_3))) rfl) fun v h_4 ⟨k_4, s⟩ => ?_
  obtain ⟨p_4, hp_4⟩ : ∃ p, p = dz (-di (b1_0, X1_1)) := ⟨_, rfl⟩
  rw [← hp_4] at s
  replace g := lift_let2 hp_4 g
  have w_4 := bzNeg b1_0 X1_1
  rw [← hp_4] at w_4
  obtain ⟨a_4, c_4, rfl, r_4⟩ := s
  refine gAgg_intro rfl (uncons_intro (gBool_intro rfl (uncons_intro (gSlice_intro rfl (unnil_intro (?_))))))
  have r_4 := r_4.from k0.le
  have m_4 := k_4.tame
  have bx_1 := bx_1.keep k_4
  have bx_2 := bx_2.keep k_4
  have bx_3 := bx_3.keep k_4
  have k0 := k0.trans k_4
  have kh := kh.trans k_4
  refine ⟨k_4.preLe (Nat.le_refl _), ?_⟩
  refine hc_intro (gnomonref04_Add.hs (r0_1.tame (m_1.trans (m_2.trans (m_3.trans m_4)))) rfl r_4.rd rfl (by first | assumption | decide | omega) (by first | assumption | decide | omega)) fun v h_5 ⟨k_5, s⟩ => ?_
  obtain ⟨p_5, hp_5⟩ : ∃ p, p = dz (di (b0_0, X0_1) + di (p_4.1, p_4.2)) := ⟨_, rfl⟩
  rw [← hp_5] at s
  replace g := lift_let2 hp_5 g
  have w_5 := bzAdd b0_0 X0_1 p_4.1 p_4.2
  rw [← hp_5] at w_5
  obtain ⟨a_5, c_5, rfl, r_5⟩ := s
  refine gAgg_intro rfl (uncons_intro (gBool_intro rfl (uncons_intro (gSlice_intro rfl (unnil_intro (?_))))))
  have r_5 := r_5.from k0.le
  have m_5 := k_5.tame
  have bx_1 := bx_1.keep k_5
  have bx_2 := bx_2.keep k_5
  have bx_3 := bx_3.keep k_5
  have k0 := k0.trans k_5
  have kh := kh.trans k_5
  refine ⟨k_5.preLe (m_4).le, ?_⟩
  refine stA bx_3 (base_add _ _) rfl fun h_6 bx_3 k_6 m_6 => ?_
  have bx_1 := bx_1.keepB d_1q_3 k_6
  have bx_2 := bx_2.keepB d_2q_3 k_6
  have k0 := KeepB.keep k0 k_6 o_3
  have kh := KeepB.keep kh k_6 oh_3
  refine stA bx_3 (base_add _ _) rfl fun h_7 bx_3 k_7 m_7 => ?_
  have bx_1 := bx_1.keepB d_1q_3 k_7
  have bx_2 := bx_2.keepB d_2q_3 k_7
  have k0 := KeepB.keep k0 k_7 o_3
  have kh := KeepB.keep kh k_7 oh_3
  refine ldA bx_3 (base_add _ _) rfl ?_
  refine gBool_intro rfl ?_
  refine ldA bx_3 (base_add _ _) rfl ?_
  refine gSlice_intro rfl ?_
  exact g _ _ k0 ⟨_, _, rfl, (r_5.tame (m_6.trans m_7))⟩
def v (b0_0 : Bool) (X0_1 : Nat) (b1_0 : Bool) (X1_1 : Nat) : (Bool × Nat) := D1.v b0_0 X0_1 b1_0 X1_1
theorem hv {h : Hp} {b0_0 : Bool} {a0_1 : Option Addr} {c0_1 l0_1 : Nat} {X0_1 : Nat} (r0_1 : RdE eU32 h a0_1 c0_1 (D.digs X0_1)) (e0_1 : l0_1 = (D.digs X0_1).length) (w0_1 : (D.digs X0_1).length ≤ 1000000) {b1_0 : Bool} {a1_1 : Option Addr} {c1_1 l1_1 : Nat} {X1_1 : Nat} (r1_1 : RdE eU32 h a1_1 c1_1 (D.digs X1_1)) (e1_1 : l1_1 = (D.digs X1_1).length) (w1_1 : (D.digs X1_1).length ≤ 1000000) : HC id #[.agg #[.bool b0_0, .slice a0_1 l0_1 c0_1], .agg #[.bool b1_0, .slice a1_1 l1_1 c1_1]] h fun v_ h_ => Keep h h_ ∧ sZD h h_ v_ (v b0_0 X0_1 b1_0 X1_1) :=
  ok (D1.hv (Keep.refl _) r0_1 e0_1 w0_1 r1_1 e1_1 w1_1 fun v h' k s => ⟨k, s⟩)
end gnomonref04_Sub

namespace gnomonref04_FloorDiv
def D2.v (b2_0 : Bool) (X2_1 : Nat) (b3_0 : Bool) (X3_1 : Nat) (b4_0 : Bool) (X4_1 : Nat) : (Bool × Nat) :=
  letV (floZ (di (b2_0, X2_1)) (di (b3_0, X3_1))) fun p_7 =>
  (p_7.1.1, p_7.1.2)
theorem D2.hv {R : Rt} {h0 h : Hp} (k0 : Keep h0 h) {b2_0 : Bool} {a2_1 : Option Addr} {c2_1 : Nat} {X2_1 : Nat} (r2_1 : RdE eU32 h a2_1 c2_1 (D.digs X2_1)) (w2_1 : (D.digs X2_1).length ≤ 700000) {B2 : Nat} (bx2 : BlkV h B2 [.bool b2_0, .slice a2_1 (D.digs X2_1).length c2_1]) (o2 : h0.size ≤ B2) {b3_0 : Bool} {a3_1 : Option Addr} {c3_1 : Nat} {X3_1 : Nat} (r3_1 : RdE eU32 h a3_1 c3_1 (D.digs X3_1)) (w3_1 : (D.digs X3_1).length ≤ 700000) {B3 : Nat} (bx3 : BlkV h B3 [.bool b3_0, .slice a3_1 (D.digs X3_1).length c3_1]) (o3 : h0.size ≤ B3) {b4_0 : Bool} {a4_1 : Option Addr} {c4_1 : Nat} {X4_1 : Nat} (r4_1 : RdE eU32 h a4_1 c4_1 (D.digs X4_1)) (w4_1 : (D.digs X4_1).length ≤ 700000) {B4 : Nat} (bx4 : BlkV h B4 [.bool b4_0, .slice a4_1 (D.digs X4_1).length c4_1]) (o4 : h0.size ≤ B4) (d2q3 : B2 ≠ B3) (d2q4 : B2 ≠ B4) (d3q4 : B3 ≠ B4) (g : Post sZD h0 R (D2.v b2_0 X2_1 b3_0 X3_1 b4_0 X4_1)) : D2.t R (⟨B2, 0, none⟩ : Addr) (⟨B3, 0, none⟩ : Addr) (⟨B4, 0, none⟩ : Addr) h := by
  have kh := Keep.refl h
  have lt2 := bx2.lt
  have lt3 := bx3.lt
  have lt4 := bx4.lt
  have w_z : (D.digs 0).length = 0 := by simp [D.digs_zero]
  unfold D2.v at g
  unfold D2.t
  refine ldA bx2 (base_add _ _) rfl ?_
  refine gBool_intro rfl ?_
  refine ldA bx2 (base_add _ _) rfl ?_
  refine gSlice_intro rfl ?_
  refine ldA bx3 (base_add _ _) rfl ?_
  refine gBool_intro rfl ?_
  refine ldA bx3 (base_add _ _) rfl ?_
  refine gSlice_intro rfl ?_
  refine hc_intro (gnomonref04_Floor.hs r2_1 rfl r3_1 rfl (by first | assumption | decide | omega) (by first | assumption | decide | omega)) fun v h_1 ⟨k_1, s⟩ => ?_
  obtain ⟨p_7, hp_7⟩ : ∃ p, p = floZ (di (b2_0, X2_1)) (di (b3_0, X3_1)) := ⟨_, rfl⟩
  rw [← hp_7] at s
  replace g := lift_let2 hp_7 g
  have w_7 := bzFlo1 b2_0 X2_1 b3_0 X3_1
  rw [← hp_7] at w_7
  have w_7_1 := bzFlo2 b2_0 X2_1 b3_0 X3_1
  rw [← hp_7] at w_7_1
  obtain ⟨_, _, rfl, ⟨a_7_0, c_7_0, rfl, r_7_0⟩, ⟨a_7_1, c_7_1, rfl, r_7_1⟩⟩ := s
  refine gTup_intro rfl (uncons_intro (gAgg_intro rfl (uncons_intro (gBool_intro rfl (uncons_intro (gSlice_intro rfl (unnil_intro (uncons_intro (gAgg_intro rfl (uncons_intro (gBool_intro rfl (uncons_intro (gSlice_intro rfl (unnil_intro (unnil_intro (?_))))))))))))))))
  have r_7_0 := r_7_0.from k0.le
  have r_7_1 := r_7_1.from k0.le
  have m_1 := k_1.tame
  have bx2 := bx2.keep k_1
  have bx3 := bx3.keep k_1
  have bx4 := bx4.keep k_1
  have k0 := k0.trans k_1
  have kh := kh.trans k_1
  refine boxV fun h_2 bx_8 k_2 => ?_
  have d2q_8 : B2 ≠ h_1.size := Nat.ne_of_lt bx2.lt
  have d3q_8 : B3 ≠ h_1.size := Nat.ne_of_lt bx3.lt
  have d4q_8 : B4 ≠ h_1.size := Nat.ne_of_lt bx4.lt
  have bx_8 : BlkV h_2 (h_1.size) [.bool false, .slice none (D.digs 0).length 0] := by rw [D.digs_zero]; exact bx_8
  have o_8 : h0.size ≤ h_1.size := k0.le
  have oh_8 : h.size ≤ h_1.size := kh.le
  have lt_8 := bx_8.lt
  have m_2 := k_2.tame
  have bx2 := bx2.keep k_2
  have bx3 := bx3.keep k_2
  have bx4 := bx4.keep k_2
  have k0 := k0.trans k_2
  have kh := kh.trans k_2
  refine boxV fun h_3 bx_9 k_3 => ?_
  have d2q_9 : B2 ≠ h_2.size := Nat.ne_of_lt bx2.lt
  have d3q_9 : B3 ≠ h_2.size := Nat.ne_of_lt bx3.lt
  have d4q_9 : B4 ≠ h_2.size := Nat.ne_of_lt bx4.lt
  have d_8q_9 : h_1.size ≠ h_2.size := Nat.ne_of_lt bx_8.lt
  have bx_9 : BlkV h_3 (h_2.size) [.bool false, .slice none (D.digs 0).length 0] := by rw [D.digs_zero]; exact bx_9
  have o_9 : h0.size ≤ h_2.size := k0.le
  have oh_9 : h.size ≤ h_2.size := kh.le
  have lt_9 := bx_9.lt
  have m_3 := k_3.tame
  have bx2 := bx2.keep k_3
  have bx3 := bx3.keep k_3
  have bx4 := bx4.keep k_3
  have bx_8 := bx_8.keep k_3
  have k0 := k0.trans k_3
  have kh := kh.trans k_3
  refine stA bx_8 (base_add _ _) rfl fun h_4 bx_8 k_4 m_4 => ?_
  have bx2 := bx2.keepB d2q_8 k_4
  have bx3 := bx3.keepB d3q_8 k_4
  have bx4 := bx4.keepB d4q_8 k_4
  have bx_9 := bx_9.keepB (Ne.symm d_8q_9) k_4
  have k0 := KeepB.keep k0 k_4 o_8
  have kh := KeepB.keep kh k_4 oh_8
  refine stA bx_8 (base_add _ _) rfl fun h_5 bx_8 k_5 m_5 => ?_
  have bx2 := bx2.keepB d2q_8 k_5
  have bx3 := bx3.keepB d3q_8 k_5
  have bx4 := bx4.keepB d4q_8 k_5
  have bx_9 := bx_9.keepB (Ne.symm d_8q_9) k_5
  have k0 := KeepB.keep k0 k_5 o_8
  have kh := KeepB.keep kh k_5 oh_8
  refine stA bx_9 (base_add _ _) rfl fun h_6 bx_9 k_6 m_6 => ?_
  have bx2 := bx2.keepB d2q_9 k_6
  have bx3 := bx3.keepB d3q_9 k_6
  have bx4 := bx4.keepB d4q_9 k_6
  have bx_8 := bx_8.keepB d_8q_9 k_6
  have k0 := KeepB.keep k0 k_6 o_9
  have kh := KeepB.keep kh k_6 oh_9
  refine stA bx_9 (base_add _ _) rfl fun h_7 bx_9 k_7 m_7 => ?_
  have bx2 := bx2.keepB d2q_9 k_7
  have bx3 := bx3.keepB d3q_9 k_7
  have bx4 := bx4.keepB d4q_9 k_7
  have bx_8 := bx_8.keepB d_8q_9 k_7
  have k0 := KeepB.keep k0 k_7 o_9
  have kh := KeepB.keep kh k_7 oh_9
  refine ldA bx_8 (base_add _ _) rfl ?_
  refine gBool_intro rfl ?_
  refine ldA bx_8 (base_add _ _) rfl ?_
  refine gSlice_intro rfl ?_
  refine stA bx4 (base_add _ _) rfl fun h_8 bx4 k_8 m_8 => ?_
  have bx2 := bx2.keepB d2q4 k_8
  have bx3 := bx3.keepB d3q4 k_8
  have bx_8 := bx_8.keepB (Ne.symm d4q_8) k_8
  have bx_9 := bx_9.keepB (Ne.symm d4q_9) k_8
  have k0 := KeepB.keep k0 k_8 o4
  refine stA bx4 (base_add _ _) rfl fun h_9 bx4 k_9 m_9 => ?_
  have bx2 := bx2.keepB d2q4 k_9
  have bx3 := bx3.keepB d3q4 k_9
  have bx_8 := bx_8.keepB (Ne.symm d4q_8) k_9
  have bx_9 := bx_9.keepB (Ne.symm d4q_9) k_9
  have k0 := KeepB.keep k0 k_9 o4
  refine ldA bx4 (base_add _ _) rfl ?_
  refine gBool_intro rfl ?_
  refine ldA bx4 (base_add _ _) rfl ?_
  refine gSlice_intro rfl ?_
  exact g _ _ k0 ⟨_, _, rfl, (r_7_0.tame (m_2.trans (m_3.trans (m_4.trans (m_5.trans (m_6.trans (m_7.trans (m_8.trans m_9))))))))⟩
def D1.v (b0_0 : Bool) (X0_1 : Nat) (b1_0 : Bool) (X1_1 : Nat) : (Bool × Nat) :=
  bif b1_0 then
    letV (dz (-di (b0_0, X0_1))) fun p_5 =>
    letV (dz (-di (b1_0, X1_1))) fun p_6 =>
    D2.v p_5.1 p_5.2 p_6.1 p_6.2 false 0
  else
    D2.v b0_0 X0_1 b1_0 X1_1 false 0
theorem D1.hv {R : Rt} {h0 h : Hp} (k0 : Keep h0 h) {b0_0 : Bool} {a0_1 : Option Addr} {c0_1 l0_1 : Nat} {X0_1 : Nat} (r0_1 : RdE eU32 h a0_1 c0_1 (D.digs X0_1)) (e0_1 : l0_1 = (D.digs X0_1).length) (w0_1 : (D.digs X0_1).length ≤ 150000) {b1_0 : Bool} {a1_1 : Option Addr} {c1_1 l1_1 : Nat} {X1_1 : Nat} (r1_1 : RdE eU32 h a1_1 c1_1 (D.digs X1_1)) (e1_1 : l1_1 = (D.digs X1_1).length) (w1_1 : (D.digs X1_1).length ≤ 150000) (g : Post sZD h0 R (D1.v b0_0 X0_1 b1_0 X1_1)) : D1.t R b0_0 a0_1 l0_1 c0_1 b1_0 a1_1 l1_1 c1_1 h := by
  subst e0_1 e1_1
  have kh := Keep.refl h
  have w_z : (D.digs 0).length = 0 := by simp [D.digs_zero]
  unfold D1.v at g
  unfold D1.t
  refine boxV fun h_1 bx_1 k_1 => ?_
  have o_1 : h0.size ≤ h.size := k0.le
  have oh_1 : h.size ≤ h.size := kh.le
  have lt_1 := bx_1.lt
  have m_1 := k_1.tame
  have k0 := k0.trans k_1
  have kh := kh.trans k_1
  refine boxV fun h_2 bx_2 k_2 => ?_
  have d_1q_2 : h.size ≠ h_1.size := Nat.ne_of_lt bx_1.lt
  have o_2 : h0.size ≤ h_1.size := k0.le
  have oh_2 : h.size ≤ h_1.size := kh.le
  have lt_2 := bx_2.lt
  have m_2 := k_2.tame
  have bx_1 := bx_1.keep k_2
  have k0 := k0.trans k_2
  have kh := kh.trans k_2
  refine boxV fun h_3 bx_3 k_3 => ?_
  have d_1q_3 : h.size ≠ h_2.size := Nat.ne_of_lt bx_1.lt
  have d_2q_3 : h_1.size ≠ h_2.size := Nat.ne_of_lt bx_2.lt
  have bx_3 : BlkV h_3 (h_2.size) [.bool false, .slice none (D.digs 0).length 0] := by rw [D.digs_zero]; exact bx_3
  have o_3 : h0.size ≤ h_2.size := k0.le
  have oh_3 : h.size ≤ h_2.size := kh.le
  have lt_3 := bx_3.lt
  have m_3 := k_3.tame
  have bx_1 := bx_1.keep k_3
  have bx_2 := bx_2.keep k_3
  have k0 := k0.trans k_3
  have kh := kh.trans k_3
  refine ldA bx_2 (base_add _ _) rfl ?_
  refine gBool_intro rfl ?_
  refine lift_bool g (fun q_4 g => ?_) (fun q_4 g => ?_)
  · refine ⟨blkLt rfl ((m_2.trans m_3).lt lt_1), ?_⟩
    refine ldA bx_1 (base_add _ _) rfl ?_
    refine gBool_intro rfl ?_
    refine ldA bx_1 (base_add _ _) rfl ?_
    refine gSlice_intro rfl ?_
    refine hc_intro (gnomonref04_Flip.hs (r0_1.tame (m_1.trans (m_2.trans m_3))) rfl) fun v h_4 ⟨k_4, s⟩ => ?_
    obtain ⟨p_5, hp_5⟩ : ∃ p, p = dz (-di (b0_0, X0_1)) := ⟨_, rfl⟩
    rw [← hp_5] at s
    replace g := lift_let2 hp_5 g
    have w_5 := bzNeg b0_0 X0_1
    rw [← hp_5] at w_5
    obtain ⟨a_5, c_5, rfl, r_5⟩ := s
    refine gAgg_intro rfl (uncons_intro (gBool_intro rfl (uncons_intro (gSlice_intro rfl (unnil_intro (?_))))))
    have r_5 := r_5.from k0.le
    have m_4 := k_4.tame
    have bx_1 := bx_1.keep k_4
    have bx_2 := bx_2.keep k_4
    have bx_3 := bx_3.keep k_4
    have k0 := k0.trans k_4
    have kh := kh.trans k_4
    refine ⟨k_4.preLe (Nat.le_refl _), ?_⟩
    refine ⟨blkLt rfl ((m_3).lt lt_2), ?_⟩
    refine ldA bx_2 (base_add _ _) rfl ?_
    refine gBool_intro rfl ?_
    refine ldA bx_2 (base_add _ _) rfl ?_
    refine gSlice_intro rfl ?_
    refine hc_intro (gnomonref04_Flip.hs (r1_1.tame (m_1.trans (m_2.trans (m_3.trans m_4)))) rfl) fun v h_5 ⟨k_5, s⟩ => ?_
    obtain ⟨p_6, hp_6⟩ : ∃ p, p = dz (-di (b1_0, X1_1)) := ⟨_, rfl⟩
    rw [← hp_6] at s
    replace g := lift_let2 hp_6 g
    have w_6 := bzNeg b1_0 X1_1
    rw [← hp_6] at w_6
    obtain ⟨a_6, c_6, rfl, r_6⟩ := s
    refine gAgg_intro rfl (uncons_intro (gBool_intro rfl (uncons_intro (gSlice_intro rfl (unnil_intro (?_))))))
    have r_6 := r_6.from k0.le
    have m_5 := k_5.tame
    have bx_1 := bx_1.keep k_5
    have bx_2 := bx_2.keep k_5
    have bx_3 := bx_3.keep k_5
    have k0 := k0.trans k_5
    have kh := kh.trans k_5
    refine ⟨k_5.preLe (m_4).le, ?_⟩
    refine stA bx_1 (base_add _ _) rfl fun h_6 bx_1 k_6 m_6 => ?_
    have bx_2 := bx_2.keepB (Ne.symm d_1q_2) k_6
    have bx_3 := bx_3.keepB (Ne.symm d_1q_3) k_6
    have k0 := KeepB.keep k0 k_6 o_1
    have kh := KeepB.keep kh k_6 oh_1
    refine stA bx_1 (base_add _ _) rfl fun h_7 bx_1 k_7 m_7 => ?_
    have bx_2 := bx_2.keepB (Ne.symm d_1q_2) k_7
    have bx_3 := bx_3.keepB (Ne.symm d_1q_3) k_7
    have k0 := KeepB.keep k0 k_7 o_1
    have kh := KeepB.keep kh k_7 oh_1
    refine stA bx_2 (base_add _ _) rfl fun h_8 bx_2 k_8 m_8 => ?_
    have bx_1 := bx_1.keepB d_1q_2 k_8
    have bx_3 := bx_3.keepB (Ne.symm d_2q_3) k_8
    have k0 := KeepB.keep k0 k_8 o_2
    have kh := KeepB.keep kh k_8 oh_2
    refine stA bx_2 (base_add _ _) rfl fun h_9 bx_2 k_9 m_9 => ?_
    have bx_1 := bx_1.keepB d_1q_2 k_9
    have bx_3 := bx_3.keepB (Ne.symm d_2q_3) k_9
    have k0 := KeepB.keep k0 k_9 o_2
    have kh := KeepB.keep kh k_9 oh_2
    exact D2.hv k0 (r_5.tame (m_5.trans (m_6.trans (m_7.trans (m_8.trans m_9))))).rd (by first | assumption | decide | omega) bx_1 o_1 (r_6.tame (m_6.trans (m_7.trans (m_8.trans m_9)))).rd (by first | assumption | decide | omega) bx_2 o_2 (rdD0 _ _ _) (by first | assumption | decide | omega) bx_3 o_3 d_1q_2 d_1q_3 d_2q_3 g
  · exact D2.hv k0 (r0_1.tame (m_1.trans (m_2.trans m_3))) (by first | assumption | decide | omega) bx_1 o_1 (r1_1.tame (m_1.trans (m_2.trans m_3))) (by first | assumption | decide | omega) bx_2 o_2 (rdD0 _ _ _) (by first | assumption | decide | omega) bx_3 o_3 d_1q_2 d_1q_3 d_2q_3 g
def v (b0_0 : Bool) (X0_1 : Nat) (b1_0 : Bool) (X1_1 : Nat) : (Bool × Nat) := D1.v b0_0 X0_1 b1_0 X1_1
theorem hv {h : Hp} {b0_0 : Bool} {a0_1 : Option Addr} {c0_1 l0_1 : Nat} {X0_1 : Nat} (r0_1 : RdE eU32 h a0_1 c0_1 (D.digs X0_1)) (e0_1 : l0_1 = (D.digs X0_1).length) (w0_1 : (D.digs X0_1).length ≤ 150000) {b1_0 : Bool} {a1_1 : Option Addr} {c1_1 l1_1 : Nat} {X1_1 : Nat} (r1_1 : RdE eU32 h a1_1 c1_1 (D.digs X1_1)) (e1_1 : l1_1 = (D.digs X1_1).length) (w1_1 : (D.digs X1_1).length ≤ 150000) : HC id #[.agg #[.bool b0_0, .slice a0_1 l0_1 c0_1], .agg #[.bool b1_0, .slice a1_1 l1_1 c1_1]] h fun v_ h_ => Keep h h_ ∧ sZD h h_ v_ (v b0_0 X0_1 b1_0 X1_1) :=
  ok (D1.hv (Keep.refl _) r0_1 e0_1 w0_1 r1_1 e1_1 w1_1 fun v h' k s => ⟨k, s⟩)
end gnomonref04_FloorDiv

end Go.Proofs.YtanlcacaihdceaaGreatDoor.G

/- The reference's whole numbers: differences, quotients rounded down. -/
namespace Go.Proofs.YtanlcacaihdceaaGreatDoor.G
open Go.Gv
set_option linter.unusedVariables false
theorem rSub_v (b c : Bool) (X Y : Nat) : gnomonref04_Sub.v b X c Y = dz (di (b, X) - di (c, Y)) := by
  unfold gnomonref04_Sub.v gnomonref04_Sub.D1.v
  simp only [letV]
  have e : di ((dz (-di (c, Y))).1, (dz (-di (c, Y))).2) = -di (c, Y) := di_dz _
  rw [e, ← Int.sub_eq_add_neg]
theorem fst_floZ (a b : Int) : ((floZ a b).1.1, (floZ a b).1.2) = if b ≤ 0 then (false, 0) else dz (flo a b) := by
  unfold floZ; split
  · rfl
  · rename_i h; rw [flo_pos (by omega)]
theorem dz0 : dz 0 = (false, 0) := rfl
theorem rFloorDiv_v (b c : Bool) (X Y : Nat) : gnomonref04_FloorDiv.v b X c Y = dz (flo (di (b, X)) (di (c, Y))) := by
  unfold gnomonref04_FloorDiv.v gnomonref04_FloorDiv.D1.v gnomonref04_FloorDiv.D2.v
  simp only [letV]
  have e1 : di ((dz (-di (b, X))).1, (dz (-di (b, X))).2) = -di (b, X) := di_dz _
  have e2 : di ((dz (-di (c, Y))).1, (dz (-di (c, Y))).2) = -di (c, Y) := di_dz _
  simp only [e1, e2, fst_floZ]
  cases c
  · rw [cond_false]
    split
    · rename_i h
      have : di (false, Y) = 0 := by rw [di_sg] at h ⊢; unfold sg at *; simp at h ⊢; omega
      rw [this]; unfold flo; simp [dz0]
    · rfl
  · rw [cond_true]
    split
    · rename_i h
      have : di (true, Y) = 0 := by rw [di_sg] at h ⊢; unfold sg at *; simp at h ⊢; omega
      rw [this]; unfold flo; simp [dz0]
    · rename_i h
      have h0 : di (true, Y) < 0 := by omega
      rw [flo_neg h0]
section
variable {a b : Option Addr} {c d l m X Y : Nat} {xs ys : List Nat} {h : Hp} {x y : Int} {p q : Bool}
theorem gnomonref04_Sub.hs (r : RdE eU32 h a c (D.digs X)) (e : l = (D.digs X).length) (s : RdE eU32 h b d (D.digs Y)) (f : m = (D.digs Y).length) (w1 : (D.digs X).length ≤ 1000000) (w2 : (D.digs Y).length ≤ 1000000) : HC gnomonref04_Sub.id #[.agg #[.bool p, .slice a l c], .agg #[.bool q, .slice b m d]] h fun v h' => Keep h h' ∧ sZD h h' v (dz (di (p, X) - di (q, Y))) := by rw [← rSub_v]; exact gnomonref04_Sub.hv r e w1 s f w2
theorem gnomonref04_FloorDiv.hs (r : RdE eU32 h a c (D.digs X)) (e : l = (D.digs X).length) (s : RdE eU32 h b d (D.digs Y)) (f : m = (D.digs Y).length) (w1 : (D.digs X).length ≤ 150000) (w2 : (D.digs Y).length ≤ 150000) : HC gnomonref04_FloorDiv.id #[.agg #[.bool p, .slice a l c], .agg #[.bool q, .slice b m d]] h fun v h' => Keep h h' ∧ sZD h h' v (dz (flo (di (p, X)) (di (q, Y)))) := by rw [← rFloorDiv_v]; exact gnomonref04_FloorDiv.hv r e w1 s f w2
end
end Go.Proofs.YtanlcacaihdceaaGreatDoor.G

/- Functions without loops as functions of values. Written by a program of this work. -/
namespace Go.Proofs.YtanlcacaihdceaaGreatDoor.G
open Go.Gv
set_option linter.unusedVariables false
set_option maxRecDepth 100000
namespace gnomonref04_Cmp
def D1.v (b0_0 : Bool) (X0_1 : Nat) (b1_0 : Bool) (X1_1 : Nat) : Int :=
  letV (dz (di (b0_0, X0_1) - di (b1_0, X1_1))) fun p_3 =>
  (cmpZ (di (p_3.1, p_3.2)) 0)
theorem D1.hv {R : Rt} {h0 h : Hp} (k0 : Keep h0 h) {b0_0 : Bool} {a0_1 : Option Addr} {c0_1 l0_1 : Nat} {X0_1 : Nat} (r0_1 : RdE eU32 h a0_1 c0_1 (D.digs X0_1)) (e0_1 : l0_1 = (D.digs X0_1).length) (w0_1 : (D.digs X0_1).length ≤ 700000) {b1_0 : Bool} {a1_1 : Option Addr} {c1_1 l1_1 : Nat} {X1_1 : Nat} (r1_1 : RdE eU32 h a1_1 c1_1 (D.digs X1_1)) (e1_1 : l1_1 = (D.digs X1_1).length) (w1_1 : (D.digs X1_1).length ≤ 700000) (g : Post (sI .i64) h0 R (D1.v b0_0 X0_1 b1_0 X1_1)) : D1.t R b0_0 a0_1 l0_1 c0_1 b1_0 a1_1 l1_1 c1_1 h := by
  subst e0_1 e1_1
  have kh := Keep.refl h
  have w_z : (D.digs 0).length = 0 := by simp [D.digs_zero]
  unfold D1.v at g
  unfold D1.t
  refine boxV fun h_1 bx_1 k_1 => ?_
  have o_1 : h0.size ≤ h.size := k0.le
  have oh_1 : h.size ≤ h.size := kh.le
  have lt_1 := bx_1.lt
  have m_1 := k_1.tame
  have k0 := k0.trans k_1
  have kh := kh.trans k_1
  refine boxV fun h_2 bx_2 k_2 => ?_
  have d_1q_2 : h.size ≠ h_1.size := Nat.ne_of_lt bx_1.lt
  have o_2 : h0.size ≤ h_1.size := k0.le
  have oh_2 : h.size ≤ h_1.size := kh.le
  have lt_2 := bx_2.lt
  have m_2 := k_2.tame
  have bx_1 := bx_1.keep k_2
  have k0 := k0.trans k_2
  have kh := kh.trans k_2
  refine ldA bx_1 (base_add _ _) rfl ?_
  refine gBool_intro rfl ?_
  refine ldA bx_1 (base_add _ _) rfl ?_
  refine gSlice_intro rfl ?_
  refine ldA bx_2 (base_add _ _) rfl ?_
  refine gBool_intro rfl ?_
  refine ldA bx_2 (base_add _ _) rfl ?_
  refine gSlice_intro rfl ?_
  refine hc_intro (gnomonref04_Sub.hs (r0_1.tame (m_1.trans m_2)) rfl (r1_1.tame (m_1.trans m_2)) rfl (by first | assumption | decide | omega) (by first | assumption | decide | omega)) fun v h_3 ⟨k_3, s⟩ => ?_
  obtain ⟨p_3, hp_3⟩ : ∃ p, p = dz (di (b0_0, X0_1) - di (b1_0, X1_1)) := ⟨_, rfl⟩
  rw [← hp_3] at s
  replace g := lift_let2 hp_3 g
  have w_3 := bzSub b0_0 X0_1 b1_0 X1_1
  rw [← hp_3] at w_3
  obtain ⟨a_3, c_3, rfl, r_3⟩ := s
  refine gAgg_intro rfl (uncons_intro (gBool_intro rfl (uncons_intro (gSlice_intro rfl (unnil_intro (?_))))))
  have r_3 := r_3.from k0.le
  have m_3 := k_3.tame
  have bx_1 := bx_1.keep k_3
  have bx_2 := bx_2.keep k_3
  have k0 := k0.trans k_3
  have kh := kh.trans k_3
  refine hc_intro (gnomonref04_Sign.hs r_3.rd rfl) fun v h_4 ⟨k_4, s⟩ => ?_
  obtain ⟨rfl, i_4⟩ := s
  refine gInt_intro rfl (?_)
  have m_4 := k_4.tame
  have bx_1 := bx_1.keep k_4
  have bx_2 := bx_2.keep k_4
  have k0 := k0.trans k_4
  have kh := kh.trans k_4
  exact g _ _ k0 ⟨rfl, i_4⟩
def v (b0_0 : Bool) (X0_1 : Nat) (b1_0 : Bool) (X1_1 : Nat) : Int := D1.v b0_0 X0_1 b1_0 X1_1
theorem hv {h : Hp} {b0_0 : Bool} {a0_1 : Option Addr} {c0_1 l0_1 : Nat} {X0_1 : Nat} (r0_1 : RdE eU32 h a0_1 c0_1 (D.digs X0_1)) (e0_1 : l0_1 = (D.digs X0_1).length) (w0_1 : (D.digs X0_1).length ≤ 700000) {b1_0 : Bool} {a1_1 : Option Addr} {c1_1 l1_1 : Nat} {X1_1 : Nat} (r1_1 : RdE eU32 h a1_1 c1_1 (D.digs X1_1)) (e1_1 : l1_1 = (D.digs X1_1).length) (w1_1 : (D.digs X1_1).length ≤ 700000) : HC id #[.agg #[.bool b0_0, .slice a0_1 l0_1 c0_1], .agg #[.bool b1_0, .slice a1_1 l1_1 c1_1]] h fun v_ h_ => Keep h h_ ∧ (sI .i64) h h_ v_ (v b0_0 X0_1 b1_0 X1_1) :=
  ok (D1.hv (Keep.refl _) r0_1 e0_1 w0_1 r1_1 e1_1 w1_1 fun v h' k s => ⟨k, s⟩)
end gnomonref04_Cmp

namespace gnomonref04_CeilDiv
def D1.v (b0_0 : Bool) (X0_1 : Nat) (b1_0 : Bool) (X1_1 : Nat) : (Bool × Nat) :=
  letV (dz (-di (b0_0, X0_1))) fun p_4 =>
  letV (dz (flo (di (p_4.1, p_4.2)) (di (b1_0, X1_1)))) fun p_5 =>
  letV (dz (-di (p_5.1, p_5.2))) fun p_6 =>
  (p_6.1, p_6.2)
theorem D1.hv {R : Rt} {h0 h : Hp} (k0 : Keep h0 h) {b0_0 : Bool} {a0_1 : Option Addr} {c0_1 l0_1 : Nat} {X0_1 : Nat} (r0_1 : RdE eU32 h a0_1 c0_1 (D.digs X0_1)) (e0_1 : l0_1 = (D.digs X0_1).length) (w0_1 : (D.digs X0_1).length ≤ 100000) {b1_0 : Bool} {a1_1 : Option Addr} {c1_1 l1_1 : Nat} {X1_1 : Nat} (r1_1 : RdE eU32 h a1_1 c1_1 (D.digs X1_1)) (e1_1 : l1_1 = (D.digs X1_1).length) (w1_1 : (D.digs X1_1).length ≤ 100000) (g : Post sZD h0 R (D1.v b0_0 X0_1 b1_0 X1_1)) : D1.t R b0_0 a0_1 l0_1 c0_1 b1_0 a1_1 l1_1 c1_1 h := by
  subst e0_1 e1_1
  have kh := Keep.refl h
  have w_z : (D.digs 0).length = 0 := by simp [D.digs_zero]
  unfold D1.v at g
  unfold D1.t
  refine boxV fun h_1 bx_1 k_1 => ?_
  have o_1 : h0.size ≤ h.size := k0.le
  have oh_1 : h.size ≤ h.size := kh.le
  have lt_1 := bx_1.lt
  have m_1 := k_1.tame
  have k0 := k0.trans k_1
  have kh := kh.trans k_1
  refine boxV fun h_2 bx_2 k_2 => ?_
  have d_1q_2 : h.size ≠ h_1.size := Nat.ne_of_lt bx_1.lt
  have o_2 : h0.size ≤ h_1.size := k0.le
  have oh_2 : h.size ≤ h_1.size := kh.le
  have lt_2 := bx_2.lt
  have m_2 := k_2.tame
  have bx_1 := bx_1.keep k_2
  have k0 := k0.trans k_2
  have kh := kh.trans k_2
  refine boxV fun h_3 bx_3 k_3 => ?_
  have d_1q_3 : h.size ≠ h_2.size := Nat.ne_of_lt bx_1.lt
  have d_2q_3 : h_1.size ≠ h_2.size := Nat.ne_of_lt bx_2.lt
  have bx_3 : BlkV h_3 (h_2.size) [.bool false, .slice none (D.digs 0).length 0] := by rw [D.digs_zero]; exact bx_3
  have o_3 : h0.size ≤ h_2.size := k0.le
  have oh_3 : h.size ≤ h_2.size := kh.le
  have lt_3 := bx_3.lt
  have m_3 := k_3.tame
  have bx_1 := bx_1.keep k_3
  have bx_2 := bx_2.keep k_3
  have k0 := k0.trans k_3
  have kh := kh.trans k_3
  refine ⟨blkLt rfl ((m_2.trans m_3).lt lt_1), ?_⟩
  refine ldA bx_1 (base_add _ _) rfl ?_
  refine gBool_intro rfl ?_
  refine ldA bx_1 (base_add _ _) rfl ?_
  refine gSlice_intro rfl ?_
  refine hc_intro (gnomonref04_Flip.hs (r0_1.tame (m_1.trans (m_2.trans m_3))) rfl) fun v h_4 ⟨k_4, s⟩ => ?_
  obtain ⟨p_4, hp_4⟩ : ∃ p, p = dz (-di (b0_0, X0_1)) := ⟨_, rfl⟩
  rw [← hp_4] at s
  replace g := lift_let2 hp_4 g
  have w_4 := bzNeg b0_0 X0_1
  rw [← hp_4] at w_4
  obtain ⟨a_4, c_4, rfl, r_4⟩ := s
  refine gAgg_intro rfl (uncons_intro (gBool_intro rfl (uncons_intro (gSlice_intro rfl (unnil_intro (?_))))))
  have r_4 := r_4.from k0.le
  have m_4 := k_4.tame
  have bx_1 := bx_1.keep k_4
  have bx_2 := bx_2.keep k_4
  have bx_3 := bx_3.keep k_4
  have k0 := k0.trans k_4
  have kh := kh.trans k_4
  refine ⟨k_4.preLe (Nat.le_refl _), ?_⟩
  refine ⟨blkLt rfl ((m_3).lt lt_2), ?_⟩
  refine ldA bx_2 (base_add _ _) rfl ?_
  refine gBool_intro rfl ?_
  refine ldA bx_2 (base_add _ _) rfl ?_
  refine gSlice_intro rfl ?_
  refine hc_intro (gnomonref04_FloorDiv.hs r_4.rd rfl (r1_1.tame (m_1.trans (m_2.trans (m_3.trans m_4)))) rfl (by first | assumption | decide | omega) (by first | assumption | decide | omega)) fun v h_5 ⟨k_5, s⟩ => ?_
  obtain ⟨p_5, hp_5⟩ : ∃ p, p = dz (flo (di (p_4.1, p_4.2)) (di (b1_0, X1_1))) := ⟨_, rfl⟩
  rw [← hp_5] at s
  replace g := lift_let2 hp_5 g
  have w_5 := bzFloorDiv p_4.1 p_4.2 b1_0 X1_1
  rw [← hp_5] at w_5
  obtain ⟨a_5, c_5, rfl, r_5⟩ := s
  refine gAgg_intro rfl (uncons_intro (gBool_intro rfl (uncons_intro (gSlice_intro rfl (unnil_intro (?_))))))
  have r_5 := r_5.from k0.le
  have m_5 := k_5.tame
  have bx_1 := bx_1.keep k_5
  have bx_2 := bx_2.keep k_5
  have bx_3 := bx_3.keep k_5
  have k0 := k0.trans k_5
  have kh := kh.trans k_5
  refine ⟨k_5.preLe (m_4).le, ?_⟩
  refine hc_intro (gnomonref04_Flip.hs r_5.rd rfl) fun v h_6 ⟨k_6, s⟩ => ?_
  obtain ⟨p_6, hp_6⟩ : ∃ p, p = dz (-di (p_5.1, p_5.2)) := ⟨_, rfl⟩
  rw [← hp_6] at s
  replace g := lift_let2 hp_6 g
  have w_6 := bzNeg p_5.1 p_5.2
  rw [← hp_6] at w_6
  obtain ⟨a_6, c_6, rfl, r_6⟩ := s
  refine gAgg_intro rfl (uncons_intro (gBool_intro rfl (uncons_intro (gSlice_intro rfl (unnil_intro (?_))))))
  have r_6 := r_6.from k0.le
  have m_6 := k_6.tame
  have bx_1 := bx_1.keep k_6
  have bx_2 := bx_2.keep k_6
  have bx_3 := bx_3.keep k_6
  have k0 := k0.trans k_6
  have kh := kh.trans k_6
  refine ⟨k_6.preLe (m_4.trans m_5).le, ?_⟩
  refine stA bx_3 (base_add _ _) rfl fun h_7 bx_3 k_7 m_7 => ?_
  have bx_1 := bx_1.keepB d_1q_3 k_7
  have bx_2 := bx_2.keepB d_2q_3 k_7
  have k0 := KeepB.keep k0 k_7 o_3
  have kh := KeepB.keep kh k_7 oh_3
  refine stA bx_3 (base_add _ _) rfl fun h_8 bx_3 k_8 m_8 => ?_
  have bx_1 := bx_1.keepB d_1q_3 k_8
  have bx_2 := bx_2.keepB d_2q_3 k_8
  have k0 := KeepB.keep k0 k_8 o_3
  have kh := KeepB.keep kh k_8 oh_3
  refine ldA bx_3 (base_add _ _) rfl ?_
  refine gBool_intro rfl ?_
  refine ldA bx_3 (base_add _ _) rfl ?_
  refine gSlice_intro rfl ?_
  exact g _ _ k0 ⟨_, _, rfl, (r_6.tame (m_7.trans m_8))⟩
def v (b0_0 : Bool) (X0_1 : Nat) (b1_0 : Bool) (X1_1 : Nat) : (Bool × Nat) := D1.v b0_0 X0_1 b1_0 X1_1
theorem hv {h : Hp} {b0_0 : Bool} {a0_1 : Option Addr} {c0_1 l0_1 : Nat} {X0_1 : Nat} (r0_1 : RdE eU32 h a0_1 c0_1 (D.digs X0_1)) (e0_1 : l0_1 = (D.digs X0_1).length) (w0_1 : (D.digs X0_1).length ≤ 100000) {b1_0 : Bool} {a1_1 : Option Addr} {c1_1 l1_1 : Nat} {X1_1 : Nat} (r1_1 : RdE eU32 h a1_1 c1_1 (D.digs X1_1)) (e1_1 : l1_1 = (D.digs X1_1).length) (w1_1 : (D.digs X1_1).length ≤ 100000) : HC id #[.agg #[.bool b0_0, .slice a0_1 l0_1 c0_1], .agg #[.bool b1_0, .slice a1_1 l1_1 c1_1]] h fun v_ h_ => Keep h h_ ∧ sZD h h_ v_ (v b0_0 X0_1 b1_0 X1_1) :=
  ok (D1.hv (Keep.refl _) r0_1 e0_1 w0_1 r1_1 e1_1 w1_1 fun v h' k s => ⟨k, s⟩)
end gnomonref04_CeilDiv

namespace gnomonref04_Mod
def D1.v (b0_0 : Bool) (X0_1 : Nat) (b1_0 : Bool) (X1_1 : Nat) : (Bool × Nat) :=
  letV (dz (flo (di (b0_0, X0_1)) (di (b1_0, X1_1)))) fun p_4 =>
  letV (dz (di (b1_0, X1_1) * di (p_4.1, p_4.2))) fun p_5 =>
  letV (dz (di (b0_0, X0_1) - di (p_5.1, p_5.2))) fun p_6 =>
  (p_6.1, p_6.2)
theorem D1.hv {R : Rt} {h0 h : Hp} (k0 : Keep h0 h) {b0_0 : Bool} {a0_1 : Option Addr} {c0_1 l0_1 : Nat} {X0_1 : Nat} (r0_1 : RdE eU32 h a0_1 c0_1 (D.digs X0_1)) (e0_1 : l0_1 = (D.digs X0_1).length) (w0_1 : (D.digs X0_1).length ≤ 100000) {b1_0 : Bool} {a1_1 : Option Addr} {c1_1 l1_1 : Nat} {X1_1 : Nat} (r1_1 : RdE eU32 h a1_1 c1_1 (D.digs X1_1)) (e1_1 : l1_1 = (D.digs X1_1).length) (w1_1 : (D.digs X1_1).length ≤ 100000) (g : Post sZD h0 R (D1.v b0_0 X0_1 b1_0 X1_1)) : D1.t R b0_0 a0_1 l0_1 c0_1 b1_0 a1_1 l1_1 c1_1 h := by
  subst e0_1 e1_1
  have kh := Keep.refl h
  have w_z : (D.digs 0).length = 0 := by simp [D.digs_zero]
  unfold D1.v at g
  unfold D1.t
  refine boxV fun h_1 bx_1 k_1 => ?_
  have o_1 : h0.size ≤ h.size := k0.le
  have oh_1 : h.size ≤ h.size := kh.le
  have lt_1 := bx_1.lt
  have m_1 := k_1.tame
  have k0 := k0.trans k_1
  have kh := kh.trans k_1
  refine boxV fun h_2 bx_2 k_2 => ?_
  have d_1q_2 : h.size ≠ h_1.size := Nat.ne_of_lt bx_1.lt
  have o_2 : h0.size ≤ h_1.size := k0.le
  have oh_2 : h.size ≤ h_1.size := kh.le
  have lt_2 := bx_2.lt
  have m_2 := k_2.tame
  have bx_1 := bx_1.keep k_2
  have k0 := k0.trans k_2
  have kh := kh.trans k_2
  refine boxV fun h_3 bx_3 k_3 => ?_
  have d_1q_3 : h.size ≠ h_2.size := Nat.ne_of_lt bx_1.lt
  have d_2q_3 : h_1.size ≠ h_2.size := Nat.ne_of_lt bx_2.lt
  have bx_3 : BlkV h_3 (h_2.size) [.bool false, .slice none (D.digs 0).length 0] := by rw [D.digs_zero]; exact bx_3
  have o_3 : h0.size ≤ h_2.size := k0.le
  have oh_3 : h.size ≤ h_2.size := kh.le
  have lt_3 := bx_3.lt
  have m_3 := k_3.tame
  have bx_1 := bx_1.keep k_3
  have bx_2 := bx_2.keep k_3
  have k0 := k0.trans k_3
  have kh := kh.trans k_3
  refine ⟨blkLt rfl ((m_2.trans m_3).lt lt_1), ?_⟩
  refine ldA bx_1 (base_add _ _) rfl ?_
  refine gBool_intro rfl ?_
  refine ldA bx_1 (base_add _ _) rfl ?_
  refine gSlice_intro rfl ?_
  refine ⟨blkLt rfl ((m_3).lt lt_2), ?_⟩
  refine ldA bx_2 (base_add _ _) rfl ?_
  refine gBool_intro rfl ?_
  refine ldA bx_2 (base_add _ _) rfl ?_
  refine gSlice_intro rfl ?_
  refine ⟨blkLt rfl ((m_2.trans m_3).lt lt_1), ?_⟩
  refine ldA bx_1 (base_add _ _) rfl ?_
  refine gBool_intro rfl ?_
  refine ldA bx_1 (base_add _ _) rfl ?_
  refine gSlice_intro rfl ?_
  refine ⟨blkLt rfl ((m_3).lt lt_2), ?_⟩
  refine ldA bx_2 (base_add _ _) rfl ?_
  refine gBool_intro rfl ?_
  refine ldA bx_2 (base_add _ _) rfl ?_
  refine gSlice_intro rfl ?_
  refine hc_intro (gnomonref04_FloorDiv.hs (r0_1.tame (m_1.trans (m_2.trans m_3))) rfl (r1_1.tame (m_1.trans (m_2.trans m_3))) rfl (by first | assumption | decide | omega) (by first | assumption | decide | omega)) fun v h_4 ⟨k_4, s⟩ => ?_
  obtain ⟨p_4, hp_4⟩ : ∃ p, p = dz (flo (di (b0_0, X0_1)) (di (b1_0, X1_1))) := ⟨_, rfl⟩
  rw [← hp_4] at s
  replace g := lift_let2 hp_4 g
  have w_4 := bzFloorDiv b0_0 X0_1 b1_0 X1_1
  rw [← hp_4] at w_4
  obtain ⟨a_4, c_4, rfl, r_4⟩ := s
  refine gAgg_intro rfl (uncons_intro (gBool_intro rfl (uncons_intro (gSlice_intro rfl (unnil_intro (?_))))))
  have r_4 := r_4.from k0.le
  have m_4 := k_4.tame
  have bx_1 := bx_1.keep k_4
  have bx_2 := bx_2.keep k_4
  have bx_3 := bx_3.keep k_4
  have k0 := k0.trans k_4
  have kh := kh.trans k_4
  refine ⟨k_4.preLe (Nat.le_refl _), ?_⟩
  refine hc_intro (gnomonref04_Mul.hs (r1_1.tame (m_1.trans (m_2.trans (m_3.trans m_4)))) rfl r_4.rd rfl (by first | assumption | decide | omega) (by first | assumption | decide | omega)) fun v h_5 ⟨k_5, s⟩ => ?_
  obtain ⟨p_5, hp_5⟩ : ∃ p, p = dz (di (b1_0, X1_1) * di (p_4.1, p_4.2)) := ⟨_, rfl⟩
  rw [← hp_5] at s
  replace g := lift_let2 hp_5 g
  have w_5 := bzMul b1_0 X1_1 p_4.1 p_4.2
  rw [← hp_5] at w_5
  obtain ⟨a_5, c_5, rfl, r_5⟩ := s
  refine gAgg_intro rfl (uncons_intro (gBool_intro rfl (uncons_intro (gSlice_intro rfl (unnil_intro (?_))))))
  have r_5 := r_5.from k0.le
  have m_5 := k_5.tame
  have bx_1 := bx_1.keep k_5
  have bx_2 := bx_2.keep k_5
  have bx_3 := bx_3.keep k_5
  have k0 := k0.trans k_5
  have kh := kh.trans k_5
  refine ⟨k_5.preLe (m_4).le, ?_⟩
  refine hc_intro (gnomonref04_Sub.hs (r0_1.tame (m_1.trans (m_2.trans (m_3.trans (m_4.trans m_5))))) rfl r_5.rd rfl (by first | assumption | decide | omega) (by first | assumption | decide | omega)) fun v h_6 ⟨k_6, s⟩ => ?_
  obtain ⟨p_6, hp_6⟩ : ∃ p, p = dz (di (b0_0, X0_1) - di (p_5.1, p_5.2)) := ⟨_, rfl⟩
  rw [← hp_6] at s
  replace g := lift_let2 hp_6 g
  have w_6 := bzSub b0_0 X0_1 p_5.1 p_5.2
  rw [← hp_6] at w_6
  obtain ⟨a_6, c_6, rfl, r_6⟩ := s
  refine gAgg_intro rfl (uncons_intro (gBool_intro rfl (uncons_intro (gSlice_intro rfl (unnil_intro (?_))))))
  have r_6 := r_6.from k0.le
  have m_6 := k_6.tame
  have bx_1 := bx_1.keep k_6
  have bx_2 := bx_2.keep k_6
  have bx_3 := bx_3.keep k_6
  have k0 := k0.trans k_6
  have kh := kh.trans k_6
  refine ⟨k_6.preLe (m_4.trans m_5).le, ?_⟩
  refine stA bx_3 (base_add _ _) rfl fun h_7 bx_3 k_7 m_7 => ?_
  have bx_1 := bx_1.keepB d_1q_3 k_7
  have bx_2 := bx_2.keepB d_2q_3 k_7
  have k0 := KeepB.keep k0 k_7 o_3
  have kh := KeepB.keep kh k_7 oh_3
  refine stA bx_3 (base_add _ _) rfl fun h_8 bx_3 k_8 m_8 => ?_
  have bx_1 := bx_1.keepB d_1q_3 k_8
  have bx_2 := bx_2.keepB d_2q_3 k_8
  have k0 := KeepB.keep k0 k_8 o_3
  have kh := KeepB.keep kh k_8 oh_3
  refine ldA bx_3 (base_add _ _) rfl ?_
  refine gBool_intro rfl ?_
  refine ldA bx_3 (base_add _ _) rfl ?_
  refine gSlice_intro rfl ?_
  exact g _ _ k0 ⟨_, _, rfl, (r_6.tame (m_7.trans m_8))⟩
def v (b0_0 : Bool) (X0_1 : Nat) (b1_0 : Bool) (X1_1 : Nat) : (Bool × Nat) := D1.v b0_0 X0_1 b1_0 X1_1
theorem hv {h : Hp} {b0_0 : Bool} {a0_1 : Option Addr} {c0_1 l0_1 : Nat} {X0_1 : Nat} (r0_1 : RdE eU32 h a0_1 c0_1 (D.digs X0_1)) (e0_1 : l0_1 = (D.digs X0_1).length) (w0_1 : (D.digs X0_1).length ≤ 100000) {b1_0 : Bool} {a1_1 : Option Addr} {c1_1 l1_1 : Nat} {X1_1 : Nat} (r1_1 : RdE eU32 h a1_1 c1_1 (D.digs X1_1)) (e1_1 : l1_1 = (D.digs X1_1).length) (w1_1 : (D.digs X1_1).length ≤ 100000) : HC id #[.agg #[.bool b0_0, .slice a0_1 l0_1 c0_1], .agg #[.bool b1_0, .slice a1_1 l1_1 c1_1]] h fun v_ h_ => Keep h h_ ∧ sZD h h_ v_ (v b0_0 X0_1 b1_0 X1_1) :=
  ok (D1.hv (Keep.refl _) r0_1 e0_1 w0_1 r1_1 e1_1 w1_1 fun v h' k s => ⟨k, s⟩)
end gnomonref04_Mod


end Go.Proofs.YtanlcacaihdceaaGreatDoor.G

/- The reference's whole numbers: comparing, rounding up, the rest, shifting down. -/
namespace Go.Proofs.YtanlcacaihdceaaGreatDoor.G
open Go.Gv
set_option linter.unusedVariables false
theorem cmp_sub (i j : Int) : cmpZ (i - j) 0 = cmpZ i j := by
  unfold cmpZ
  rcases Int.lt_trichotomy i j with h | h | h
  · rw [if_pos (by omega), if_pos h]
  · rw [if_neg (by omega), if_pos (by omega), if_neg (by omega), if_pos h]
  · rw [if_neg (by omega), if_neg (by omega), if_neg (by omega), if_neg (by omega)]
theorem rCmp_v (b c : Bool) (X Y : Nat) : gnomonref04_Cmp.v b X c Y = cmpZ (di (b, X)) (di (c, Y)) := by
  unfold gnomonref04_Cmp.v gnomonref04_Cmp.D1.v
  simp only [letV]
  rw [show di ((dz (di (b, X) - di (c, Y))).1, (dz (di (b, X) - di (c, Y))).2) = di (b, X) - di (c, Y) from di_dz _, cmp_sub]
theorem rCeilDiv_v (b c : Bool) (X Y : Nat) : gnomonref04_CeilDiv.v b X c Y = dz (cei (di (b, X)) (di (c, Y))) := by
  unfold gnomonref04_CeilDiv.v gnomonref04_CeilDiv.D1.v
  simp only [letV]
  rw [show di ((dz (-di (b, X))).1, (dz (-di (b, X))).2) = -di (b, X) from di_dz _]
  rw [show di ((dz (flo (-di (b, X)) (di (c, Y)))).1, (dz (flo (-di (b, X)) (di (c, Y)))).2) = flo (-di (b, X)) (di (c, Y)) from di_dz _]
  rfl
theorem rMod_v (b c : Bool) (X Y : Nat) : gnomonref04_Mod.v b X c Y = dz (mo (di (b, X)) (di (c, Y))) := by
  unfold gnomonref04_Mod.v gnomonref04_Mod.D1.v
  simp only [letV]
  rw [show di ((dz (flo (di (b, X)) (di (c, Y)))).1, (dz (flo (di (b, X)) (di (c, Y)))).2) = flo (di (b, X)) (di (c, Y)) from di_dz _]
  rw [show di ((dz (di (c, Y) * flo (di (b, X)) (di (c, Y)))).1, (dz (di (c, Y) * flo (di (b, X)) (di (c, Y)))).2) = di (c, Y) * flo (di (b, X)) (di (c, Y)) from di_dz _]
  rfl
section
variable {a b : Option Addr} {c d l m X Y : Nat} {xs ys : List Nat} {h : Hp} {x y : Int} {p q : Bool}
theorem gnomonref04_Cmp.hs (r : RdE eU32 h a c (D.digs X)) (e : l = (D.digs X).length) (s : RdE eU32 h b d (D.digs Y)) (f : m = (D.digs Y).length) (w1 : (D.digs X).length ≤ 700000) (w2 : (D.digs Y).length ≤ 700000) : HC gnomonref04_Cmp.id #[.agg #[.bool p, .slice a l c], .agg #[.bool q, .slice b m d]] h fun v h' => Keep h h' ∧ sI .i64 h h' v (cmpZ (di (p, X)) (di (q, Y))) := by rw [← rCmp_v]; exact gnomonref04_Cmp.hv r e w1 s f w2
theorem gnomonref04_CeilDiv.hs (r : RdE eU32 h a c (D.digs X)) (e : l = (D.digs X).length) (s : RdE eU32 h b d (D.digs Y)) (f : m = (D.digs Y).length) (w1 : (D.digs X).length ≤ 100000) (w2 : (D.digs Y).length ≤ 100000) : HC gnomonref04_CeilDiv.id #[.agg #[.bool p, .slice a l c], .agg #[.bool q, .slice b m d]] h fun v h' => Keep h h' ∧ sZD h h' v (dz (cei (di (p, X)) (di (q, Y)))) := by rw [← rCeilDiv_v]; exact gnomonref04_CeilDiv.hv r e w1 s f w2
theorem gnomonref04_Mod.hs (r : RdE eU32 h a c (D.digs X)) (e : l = (D.digs X).length) (s : RdE eU32 h b d (D.digs Y)) (f : m = (D.digs Y).length) (w1 : (D.digs X).length ≤ 100000) (w2 : (D.digs Y).length ≤ 100000) : HC gnomonref04_Mod.id #[.agg #[.bool p, .slice a l c], .agg #[.bool q, .slice b m d]] h fun v h' => Keep h h' ∧ sZD h h' v (dz (mo (di (p, X)) (di (q, Y)))) := by rw [← rMod_v]; exact gnomonref04_Mod.hv r e w1 s f w2
end
end Go.Proofs.YtanlcacaihdceaaGreatDoor.G

/- Functions without loops as functions of values. Written by a program of this work. -/
namespace Go.Proofs.YtanlcacaihdceaaGreatDoor.G
open Go.Gv
set_option linter.unusedVariables false
set_option maxRecDepth 100000
namespace gnomonref04_Near
def D1.v (b0_0 : Bool) (X0_1 : Nat) (b1_0 : Bool) (X1_1 : Nat) : (Bool × Nat) :=
  letV (floZ (di (b0_0, X0_1)) (di (b1_0, X1_1))) fun p_4 =>
  letV (dz (di (p_4.2.1, p_4.2.2) * 2 ^ (Int.toNat (1 : Int)))) fun p_7 =>
  bif (decide (((cmpZ (di (p_7.1, p_7.2)) (di (b1_0, X1_1)))) > (0 : Int))) then
    letV (dz (1 : Int)) fun p_10 =>
    letV (dz (di (p_4.1.1, p_4.1.2) + di (p_10.1, p_10.2))) fun p_11 =>
    (p_11.1, p_11.2)
  else
    bif (((cmpZ (di (p_7.1, p_7.2)) (di (b1_0, X1_1)))) == (0 : Int)) then
      bif (!(decide (p_4.1.2 % 2 = 0))) then
        letV (dz (1 : Int)) fun p_15 =>
        letV (dz (di (p_4.1.1, p_4.1.2) + di (p_15.1, p_15.2))) fun p_16 =>
        (p_16.1, p_16.2)
      else
        (p_4.1.1, p_4.1.2)
    else
      (p_4.1.1, p_4.1.2)
theorem D1.hv {R : Rt} {h0 h : Hp} (k0 : Keep h0 h) {b0_0 : Bool} {a0_1 : Option Addr} {c0_1 l0_1 : Nat} {X0_1 : Nat} (r0_1 : RdE eU32 h a0_1 c0_1 (D.digs X0_1)) (e0_1 : l0_1 = (D.digs X0_1).length) (w0_1 : (D.digs X0_1).length ≤ 300000) {b1_0 : Bool} {a1_1 : Option Addr} {c1_1 l1_1 : Nat} {X1_1 : Nat} (r1_1 : RdE eU32 h a1_1 c1_1 (D.digs X1_1)) (e1_1 : l1_1 = (D.digs X1_1).length) (w1_1 : (D.digs X1_1).length ≤ 300000) (g : Post sZD h0 R (D1.v b0_0 X0_1 b1_0 X1_1)) : D1.t R b0_0 a0_1 l0_1 c0_1 b1_0 a1_1 l1_1 c1_1 h := by
  subst e0_1 e1_1
  have kh := Keep.refl h
  have w_z : (D.digs 0).length = 0 := by simp [D.digs_zero]
  unfold D1.v at g
  unfold D1.t
  refine boxV fun h_1 bx_1 k_1 => ?_
  have o_1 : h0.size ≤ h.size := k0.le
  have oh_1 : h.size ≤ h.size := kh.le
  have lt_1 := bx_1.lt
  have m_1 := k_1.tame
  have k0 := k0.trans k_1
  have kh := kh.trans k_1
  refine boxV fun h_2 bx_2 k_2 => ?_
  have d_1q_2 : h.size ≠ h_1.size := Nat.ne_of_lt bx_1.lt
  have o_2 : h0.size ≤ h_1.size := k0.le
  have oh_2 : h.size ≤ h_1.size := kh.le
  have lt_2 := bx_2.lt
  have m_2 := k_2.tame
  have bx_1 := bx_1.keep k_2
  have k0 := k0.trans k_2
  have kh := kh.trans k_2
  refine boxV fun h_3 bx_3 k_3 => ?_
  have d_1q_3 : h.size ≠ h_2.size := Nat.ne_of_lt bx_1.lt
  have d_2q_3 : h_1.size ≠ h_2.size := Nat.ne_of_lt bx_2.lt
  have bx_3 : BlkV h_3 (h_2.size) [.bool false, .slice none (D.digs 0).length 0] := by rw [D.digs_zero]; exact bx_3
  have o_3 : h0.size ≤ h_2.size := k0.le
  have oh_3 : h.size ≤ h_2.size := kh.le
  have lt_3 := bx_3.lt
  have m_3 := k_3.tame
  have bx_1 := bx_1.keep k_3
  have bx_2 := bx_2.keep k_3
  have k0 := k0.trans k_3
  have kh := kh.trans k_3
  refine ldA bx_1 (base_add _ _) rfl ?_
  refine gBool_intro rfl ?_
  refine ldA bx_1 (base_add _ _) rfl ?_
  refine gSlice_intro rfl ?_
  refine ldA bx_2 (base_add _ _) rfl ?_
  refine gBool_intro rfl ?_
  refine ldA bx_2 (base_add _ _) rfl ?_
  refine gSlice_intro rfl ?_
  refine hc_intro (gnomonref04_Floor.hs (r0_1.tame (m_1.trans (m_2.trans m_3))) rfl (r1_1.tame (m_1.trans (m_2.trans m_3))) rfl (by first | assumption | decide | omega) (by first | assumption | decide | omega)) fun v h_4 ⟨k_4, s⟩ => ?_
  obtain ⟨p_4, hp_4⟩ : ∃ p, p = floZ (di (b0_0, X0_1)) (di (b1_0, X1_1)) := ⟨_, rfl⟩
  rw [← hp_4] at s
  replace g := lift_let2 hp_4 g
  have w_4 := bzFlo1 b0_0 X0_1 b1_0 X1_1
  rw [← hp_4] at w_4
  have w_4_1 := bzFlo2 b0_0 X0_1 b1_0 X1_1
  rw [← hp_4] at w_4_1
  obtain ⟨_, _, rfl, ⟨a_4_0, c_4_0, rfl, r_4_0⟩, ⟨a_4_1, c_4_1, rfl, r_4_1⟩⟩ := s
  refine gTup_intro rfl (uncons_intro (gAgg_intro rfl (uncons_intro (gBool_intro rfl (uncons_intro (gSlice_intro rfl (unnil_intro (uncons_intro (gAgg_intro rfl (uncons_intro (gBool_intro rfl (uncons_intro (gSlice_intro rfl (unnil_intro (unnil_intro (?_))))))))))))))))
  have r_4_0 := r_4_0.from k0.le
  have r_4_1 := r_4_1.from k0.le
  have m_4 := k_4.tame
  have bx_1 := bx_1.keep k_4
  have bx_2 := bx_2.keep k_4
  have bx_3 := bx_3.keep k_4
  have k0 := k0.trans k_4
  have kh := kh.trans k_4
  refine boxV fun h_5 bx_5 k_5 => ?_
  have d_1q_5 : h.size ≠ h_4.size := Nat.ne_of_lt bx_1.lt
  have d_2q_5 : h_1.size ≠ h_4.size := Nat.ne_of_lt bx_2.lt
  have d_3q_5 : h_2.size ≠ h_4.size := Nat.ne_of_lt bx_3.lt
  have bx_5 : BlkV h_5 (h_4.size) [.bool false, .slice none (D.digs 0).length 0] := by rw [D.digs_zero]; exact bx_5
  have o_5 : h0.size ≤ h_4.size := k0.le
  have oh_5 : h.size ≤ h_4.size := kh.le
  have lt_5 := bx_5.lt
  have m_5 := k_5.tame
  have bx_1 := bx_1.keep k_5
  have bx_2 := bx_2.keep k_5
  have bx_3 := bx_3.keep k_5
  have k0 := k0.trans k_5
  have kh := kh.trans k_5
  refine boxV fun h_6 bx_6 k_6 => ?_
  have d_1q_6 : h.size ≠ h_5.size := Nat.ne_of_lt bx_1.lt
  have d_2q_6 : h_1.size ≠ h_5.size := Nat.ne_of_lt bx_2.lt
  have d_3q_6 : h_2.size ≠ h_5.size := Nat.ne_of_lt bx_3.lt
  have d_5q_6 : h_4.size ≠ h_5.size := Nat.ne_of_lt bx_5.lt
  have bx_6 : BlkV h_6 (h_5.size) [.bool false, .slice none (D.digs 0).length 0] := by rw [D.digs_zero]; exact bx_6
  have o_6 : h0.size ≤ h_5.size := k0.le
  have oh_6 : h.size ≤ h_5.size := kh.le
  have lt_6 := bx_6.lt
  have m_6 := k_6.tame
  have bx_1 := bx_1.keep k_6
  have bx_2 := bx_2.keep k_6
  have bx_3 := bx_3.keep k_6
  have bx_5 := bx_5.keep k_6
  have k0 := k0.trans k_6
  have kh := kh.trans k_6
  refine stA bx_5 (base_add _ _) rfl fun h_7 bx_5 k_7 m_7 => ?_
  have bx_1 := bx_1.keepB d_1q_5 k_7
  have bx_2 := bx_2.keepB d_2q_5 k_7
  have bx_3 := bx_3.keepB d_3q_5 k_7
  have bx_6 := bx_6.keepB (Ne.symm d_5q_6) k_7
  have k0 := KeepB.keep k0 k_7 o_5
  have kh := KeepB.keep kh k_7 oh_5
  refine stA bx_5 (base_add _ _) rfl fun h_8 bx_5 k_8 m_8 => ?_
  have bx_1 := bx_1.keepB d_1q_5 k_8
  have bx_2 := bx_2.keepB d_2q_5 k_8
  have bx_3 := bx_3.keepB d_3q_5 k_8
  have bx_6 := bx_6.keepB (Ne.symm d_5q_6) k_8
  have k0 := KeepB.keep k0 k_8 o_5
  have kh := KeepB.keep kh k_8 oh_5
  refine stA bx_6 (base_add _ _) rfl fun h_9 bx_6 k_9 m_9 => ?_
  have bx_1 := bx_1.keepB d_1q_6 k_9
  have bx_2 := bx_2.keepB d_2q_6 k_9
  have bx_3 := bx_3.keepB d_3q_6 k_9
  have bx_5 := bx_5.keepB d_5q_6 k_9
  have k0 := KeepB.keep k0 k_9 o_6
  have kh := KeepB.keep kh k_9 oh_6
  refine stA bx_6 (base_add _ _) rfl fun h_10 bx_6 k_10 m_10 => ?_
  have bx_1 := bx_1.keepB d_1q_6 k_10
  have bx_2 := bx_2.keepB d_2q_6 k_10
  have bx_3 := bx_3.keepB d_3q_6 k_10
  have bx_5 := bx_5.keepB d_5q_6 k_10
  have k0 := KeepB.keep k0 k_10 o_6
  have kh := KeepB.keep kh k_10 oh_6
  refine ⟨blkLt rfl ((m_7.trans (m_8.trans (m_9.trans m_10))).lt lt_6), ?_⟩
  refine ldA bx_6 (base_add _ _) rfl ?_
  refine gBool_intro rfl ?_
  refine ldA bx_6 (base_add _ _) rfl ?_
  refine gSlice_intro rfl ?_
  refine hc_intro (gnomonref04_Shl.hs (r_4_1.tame (m_5.trans (m_6.trans (m_7.trans (m_8.trans (m_9.trans m_10)))))).rd rfl (show In .i64 (1 : Int) by decide) (by first | assumption | decide | omega) (by first | assumption | decide | omega) (by first | assumption | decide | omega)) fun v h_11 ⟨k_11, s⟩ => ?_
  obtain ⟨p_7, hp_7⟩ : ∃ p, p = dz (di (p_4.2.1, p_4.2.2) * 2 ^ (Int.toNat (1 : Int))) := ⟨_, rfl⟩
  rw [← hp_7] at s
  replace g := lift_let2 hp_7 g
  have w_7 := bzShl1 p_4.2.1 p_4.2.2
  rw [← hp_7] at w_7
  obtain ⟨a_7, c_7, rfl, r_7⟩ := s
  refine gAgg_intro rfl (uncons_intro (gBool_intro rfl (uncons_intro (gSlice_intro rfl (unnil_intro (?_))))))
  have r_7 := r_7.from k0.le
  have m_11 := k_11.tame
  have bx_1 := bx_1.keep k_11
  have bx_2 := bx_2.keep k_11
  have bx_3 := bx_3.keep k_11
  have bx_5 := bx_5.keep k_11
  have bx_6 := bx_6.keep k_11
  have k0 := k0.trans k_11
  have kh := kh.trans k_11
  refine ⟨k_11.preLe (Nat.le_refl _), ?_⟩
  refine ⟨blkLt rfl ((m_3.trans (m_4.trans (m_5.trans (m_6.trans (m_7.trans (m_8.trans (m_9.trans m_10))))))).lt lt_2), ?_⟩
  refine ldA bx_2 (base_add _ _) rfl ?_
  refine gBool_intro rfl ?_
  refine ldA bx_2 (base_add _ _) rfl ?_
  refine gSlice_intro rfl ?_
  refine hc_intro (gnomonref04_Cmp.hs r_7.rd rfl (r1_1.tame (m_1.trans (m_2.trans (m_3.trans (m_4.trans (m_5.trans (m_6.trans (m_7.trans (m_8.trans (m_9.trans (m_10.trans m_11))))))))))) rfl (by first | assumption | decide | omega) (by first | assumption | decide | omega)) fun v h_12 ⟨k_12, s⟩ => ?_
  obtain ⟨rfl, i_8⟩ := s
  refine gInt_intro rfl (?_)
  have m_12 := k_12.tame
  have bx_1 := bx_1.keep k_12
  have bx_2 := bx_2.keep k_12
  have bx_3 := bx_3.keep k_12
  have bx_5 := bx_5.keep k_12
  have bx_6 := bx_6.keep k_12
  have k0 := k0.trans k_12
  have kh := kh.trans k_12
  refine ⟨k_12.preLe (m_11).le, ?_⟩
  refine lift_dec g (fun q_9 g => ?_) (fun q_9 g => ?_)
  · refine ⟨blkLt rfl ((m_6.trans (m_7.trans (m_8.trans (m_9.trans (m_10.trans (m_11.trans m_12)))))).lt lt_5), ?_⟩
    refine ldA bx_5 (base_add _ _) rfl ?_
    refine gBool_intro rfl ?_
    refine ldA bx_5 (base_add _ _) rfl ?_
    refine gSlice_intro rfl ?_
    refine hc_intro (gnomonref04_Of.hs (show In .i64 (1 : Int) by decide)) fun v h_13 ⟨k_13, s⟩ => ?_
    obtain ⟨p_10, hp_10⟩ : ∃ p, p = dz (1 : Int) := ⟨_, rfl⟩
    rw [← hp_10] at s
    replace g := lift_let2 hp_10 g
    have w_10 := bzOf (show In .i64 (1 : Int) by decide)
    rw [← hp_10] at w_10
    obtain ⟨a_10, c_10, rfl, r_10⟩ := s
    refine gAgg_intro rfl (uncons_intro (gBool_intro rfl (uncons_intro (gSlice_intro rfl (unnil_intro (?_))))))
    have r_10 := r_10.from k0.le
    have m_13 := k_13.tame
    have bx_1 := bx_1.keep k_13
    have bx_2 := bx_2.keep k_13
    have bx_3 := bx_3.keep k_13
    have bx_5 := bx_5.keep k_13
    have bx_6 := bx_6.keep k_13
    have k0 := k0.trans k_13
    have kh := kh.trans k_13
    refine ⟨k_13.preLe (Nat.le_refl _), ?_⟩
    refine hc_intro (gnomonref04_Add.hs (r_4_0.tame (m_5.trans (m_6.trans (m_7.trans (m_8.trans (m_9.trans (m_10.trans (m_11.trans (m_12.trans m_13))))))))).rd rfl r_10.rd rfl (by first | assumption | decide | omega) (by first | assumption | decide | omega)) fun v h_14 ⟨k_14, s⟩ => ?_
    obtain ⟨p_11, hp_11⟩ : ∃ p, p = dz (di (p_4.1.1, p_4.1.2) + di (p_10.1, p_10.2)) := ⟨_, rfl⟩
    rw [← hp_11] at s
    replace g := lift_let2 hp_11 g
    have w_11 := bzAdd p_4.1.1 p_4.1.2 p_10.1 p_10.2
    rw [← hp_11] at w_11
    obtain ⟨a_11, c_11, rfl, r_11⟩ := s
    refine gAgg_intro rfl (uncons_intro (gBool_intro rfl (uncons_intro (gSlice_intro rfl (unnil_intro (?_))))))
    have r_11 := r_11.from k0.le
    have m_14 := k_14.tame
    have bx_1 := bx_1.keep k_14
    have bx_2 := bx_2.keep k_14
    have bx_3 := bx_3.keep k_14
    have bx_5 := bx_5.keep k_14
    have bx_6 := bx_6.keep k_14
    have k0 := k0.trans k_14
    have kh := kh.trans k_14
    refine ⟨k_14.preLe (m_13).le, ?_⟩
    refine stA bx_3 (base_add _ _) rfl fun h_15 bx_3 k_15 m_15 => ?_
    have bx_1 := bx_1.keepB d_1q_3 k_15
    have bx_2 := bx_2.keepB d_2q_3 k_15
    have bx_5 := bx_5.keepB (Ne.symm d_3q_5) k_15
    have bx_6 := bx_6.keepB (Ne.symm d_3q_6) k_15
    have k0 := KeepB.keep k0 k_15 o_3
    have kh := KeepB.keep kh k_15 oh_3
    refine stA bx_3 (base_add _ _) rfl fun h_16 bx_3 k_16 m_16 => ?_
    have bx_1 := bx_1.keepB d_1q_3 k_16
    have bx_2 := bx_2.keepB d_2q_3 k_16
    have bx_5 := bx_5.keepB (Ne.symm d_3q_5) k_16
    have bx_6 := bx_6.keepB (Ne.symm d_3q_6) k_16
    have k0 := KeepB.keep k0 k_16 o_3
    have kh := KeepB.keep kh k_16 oh_3
    refine ldA bx_3 (base_add _ _) rfl ?_
    refine gBool_intro rfl ?_
    refine ldA bx_3 (base_add _ _) rfl ?_
    refine gSlice_intro rfl ?_
    exact g _ _ k0 ⟨_, _, rfl, (r_11.tame (m_15.trans m_16))⟩
  · refine lift_eq g (fun q_12 g => ?_) (fun q_12 g => ?_)
    · refine ldA bx_5 (base_add _ _) rfl ?_
      refine gBool_intro rfl ?_
      refine ldA bx_5 (base_add _ _) rfl ?_
      refine gSlice_intro rfl ?_
      refine hc_intro (gnomonref04_Even.hs (r_4_0.tame (m_5.trans (m_6.trans (m_7.trans (m_8.trans (m_9.trans (m_10.trans (m_11.trans m_12)))))))).rd rfl) fun v h_13 ⟨k_13, s⟩ => ?_
      obtain rfl := s
      refine gBool_intro rfl (?_)
      have m_13 := k_13.tame
      have bx_1 := bx_1.keep k_13
      have bx_2 := bx_2.keep k_13
      have bx_3 := bx_3.keep k_13
      have bx_5 := bx_5.keep k_13
      have bx_6 := bx_6.keep k_13
      have k0 := k0.trans k_13
      have kh := kh.trans k_13
      refine lift_not g (fun q_14 g => ?_) (fun q_14 g => ?_)
      · refine ⟨blkLt rfl ((m_6.trans (m_7.trans (m_8.trans (m_9.trans (m_10.trans (m_11.trans (m_12.trans m_13))))))).lt lt_5), ?_⟩
        refine ldA bx_5 (base_add _ _) rfl ?_
        refine gBool_intro rfl ?_
        refine ldA bx_5 (base_add _ _) rfl ?_
        refine gSlice_intro rfl ?_
        refine hc_intro (gnomonref04_Of.hs (show In .i64 (1 : Int) by decide)) fun v h_14 ⟨k_14, s⟩ => ?_
        obtain ⟨p_15, hp_15⟩ : ∃ p, p = dz (1 : Int) := ⟨_, rfl⟩
        rw [← hp_15] at s
        replace g := lift_let2 hp_15 g
        have w_15 := bzOf (show In .i64 (1 : Int) by decide)
        rw [← hp_15] at w_15
        obtain ⟨a_15, c_15, rfl, r_15⟩ := s
        refine gAgg_intro rfl (uncons_intro (gBool_intro rfl (uncons_intro (gSlice_intro rfl (unnil_intro (?_))))))
        have r_15 := r_15.from k0.le
        have m_14 := k_14.tame
        have bx_1 := bx_1.keep k_14
        have bx_2 := bx_2.keep k_14
        have bx_3 := bx_3.keep k_14
        have bx_5 := bx_5.keep k_14
        have bx_6 := bx_6.keep k_14
        have k0 := k0.trans k_14
        have kh := kh.trans k_14
        refine ⟨k_14.preLe (Nat.le_refl _), ?_⟩
        refine hc_intro (gnomonref04_Add.hs (r_4_0.tame (m_5.trans (m_6.trans (m_7.trans (m_8.trans (m_9.trans (m_10.trans (m_11.trans (m_12.trans (m_13.trans m_14)))))))))).rd rfl r_15.rd rfl (by first | assumption | decide | omega) (by first | assumption | decide | omega)) fun v h_15 ⟨k_15, s⟩ => ?_
        obtain ⟨p_16, hp_16⟩ : ∃ p, p = dz (di (p_4.1.1, p_4.1.2) + di (p_15.1, p_15.2)) := ⟨_, rfl⟩
        rw [← hp_16] at s
        replace g := lift_let2 hp_16 g
        have w_16 := bzAdd p_4.1.1 p_4.1.2 p_15.1 p_15.2
        rw [← hp_16] at w_16
        obtain ⟨a_16, c_16, rfl, r_16⟩ := s
        refine gAgg_intro rfl (uncons_intro (gBool_intro rfl (uncons_intro (gSlice_intro rfl (unnil_intro (?_))))))
        have r_16 := r_16.from k0.le
        have m_15 := k_15.tame
        have bx_1 := bx_1.keep k_15
        have bx_2 := bx_2.keep k_15
        have bx_3 := bx_3.keep k_15
        have bx_5 := bx_5.keep k_15
        have bx_6 := bx_6.keep k_15
        have k0 := k0.trans k_15
        have kh := kh.trans k_15
        refine ⟨k_15.preLe (m_14).le, ?_⟩
        refine stA bx_3 (base_add _ _) rfl fun h_16 bx_3 k_16 m_16 => ?_
        have bx_1 := bx_1.keepB d_1q_3 k_16
        have bx_2 := bx_2.keepB d_2q_3 k_16
        have bx_5 := bx_5.keepB (Ne.symm d_3q_5) k_16
        have bx_6 := bx_6.keepB (Ne.symm d_3q_6) k_16
        have k0 := KeepB.keep k0 k_16 o_3
        have kh := KeepB.keep kh k_16 oh_3
        refine stA bx_3 (base_add _ _) rfl fun h_17 bx_3 k_17 m_17 => ?_
        have bx_1 := bx_1.keepB d_1q_3 k_17
        have bx_2 := bx_2.keepB d_2q_3 k_17
        have bx_5 := bx_5.keepB (Ne.symm d_3q_5) k_17
        have bx_6 := bx_6.keepB (Ne.symm d_3q_6) k_17
        have k0 := KeepB.keep k0 k_17 o_3
        have kh := KeepB.keep kh k_17 oh_3
        refine ldA bx_3 (base_add _ _) rfl ?_
        refine gBool_intro rfl ?_
        refine ldA bx_3 (base_add _ _) rfl ?_
        refine gSlice_intro rfl ?_
        exact g _ _ k0 ⟨_, _, rfl, (r_16.tame (m_16.trans m_17))⟩
      · refine ldA bx_5 (base_add _ _) rfl ?_
        refine gBool_intro rfl ?_
        refine ldA bx_5 (base_add _ _) rfl ?_
        refine gSlice_intro rfl ?_
        refine stA bx_3 (base_add _ _) rfl fun h_14 bx_3 k_14 m_14 => ?_
        have bx_1 := bx_1.keepB d_1q_3 k_14
        have bx_2 := bx_2.keepB d_2q_3 k_14
        have bx_5 := bx_5.keepB (Ne.symm d_3q_5) k_14
        have bx_6 := bx_6.keepB (Ne.symm d_3q_6) k_14
        have k0 := KeepB.keep k0 k_14 o_3
        have kh := KeepB.keep kh k_14 oh_3
        refine stA bx_3 (base_add _ _) rfl fun h_15 bx_3 k_15 m_15 => ?_
        have bx_1 := bx_1.keepB d_1q_3 k_15
        have bx_2 := bx_2.keepB d_2q_3 k_15
        have bx_5 := bx_5.keepB (Ne.symm d_3q_5) k_15
        have bx_6 := bx_6.keepB (Ne.symm d_3q_6) k_15
        have k0 := KeepB.keep k0 k_15 o_3
        have kh := KeepB.keep kh k_15 oh_3
        refine ldA bx_3 (base_add _ _) rfl ?_
        refine gBool_intro rfl ?_
        refine ldA bx_3 (base_add _ _) rfl ?_
        refine gSlice_intro rfl ?_
        exact g _ _ k0 ⟨_, _, rfl, (r_4_0.tame (m_5.trans (m_6.trans (m_7.trans (m_8.trans (m_9.trans (m_10.trans (m_11.trans (m_12.trans (m_13.trans (m_14.trans m_15)))))))))))⟩
    · refine ldA bx_5 (base_add _ _) rfl ?_
      refine gBool_intro rfl ?_
      refine ldA bx_5 (base_add _ _) rfl ?_
      refine gSlice_intro rfl ?_
      refine stA bx_3 (base_add _ _) rfl fun h_13 bx_3 k_13 m_13 => ?_
      have bx_1 := bx_1.keepB d_1q_3 k_13
      have bx_2 := bx_2.keepB d_2q_3 k_13
      have bx_5 := bx_5.keepB (Ne.symm d_3q_5) k_13
      have bx_6 := bx_6.keepB (Ne.symm d_3q_6) k_13
      have k0 := KeepB.keep k0 k_13 o_3
      have kh := KeepB.keep kh k_13 oh_3
      refine stA bx_3 (base_add _ _) rfl fun h_14 bx_3 k_14 m_14 => ?_
      have bx_1 := bx_1.keepB d_1q_3 k_14
      have bx_2 := bx_2.keepB d_2q_3 k_14
      have bx_5 := bx_5.keepB (Ne.symm d_3q_5) k_14
      have bx_6 := bx_6.keepB (Ne.symm d_3q_6) k_14
      have k0 := KeepB.keep k0 k_14 o_3
      have kh := KeepB.keep kh k_14 oh_3
      refine ldA bx_3 (base_add _ _) rfl ?_
      refine gBool_intro rfl ?_
      refine ldA bx_3 (base_add _ _) rfl ?_
      refine gSlice_intro rfl ?_
      exact g _ _ k0 ⟨_, _, rfl, (r_4_0.tame (m_5.trans (m_6.trans (m_7.trans (m_8.trans (m_9.trans (m_10.trans (m_11.trans (m_12.trans (m_13.trans m_14))))))))))⟩
def v (b0_0 : Bool) (X0_1 : Nat) (b1_0 : Bool) (X1_1 : Nat) : (Bool × Nat) := D1.v b0_0 X0_1 b1_0 X1_1
theorem hv {h : Hp} {b0_0 : Bool} {a0_1 : Option Addr} {c0_1 l0_1 : Nat} {X0_1 : Nat} (r0_1 : RdE eU32 h a0_1 c0_1 (D.digs X0_1)) (e0_1 : l0_1 = (D.digs X0_1).length) (w0_1 : (D.digs X0_1).length ≤ 300000) {b1_0 : Bool} {a1_1 : Option Addr} {c1_1 l1_1 : Nat} {X1_1 : Nat} (r1_1 : RdE eU32 h a1_1 c1_1 (D.digs X1_1)) (e1_1 : l1_1 = (D.digs X1_1).length) (w1_1 : (D.digs X1_1).length ≤ 300000) : HC id #[.agg #[.bool b0_0, .slice a0_1 l0_1 c0_1], .agg #[.bool b1_0, .slice a1_1 l1_1 c1_1]] h fun v_ h_ => Keep h h_ ∧ sZD h h_ v_ (v b0_0 X0_1 b1_0 X1_1) :=
  ok (D1.hv (Keep.refl _) r0_1 e0_1 w0_1 r1_1 e1_1 w1_1 fun v h' k s => ⟨k, s⟩)
end gnomonref04_Near


end Go.Proofs.YtanlcacaihdceaaGreatDoor.G

/- The reference's whole numbers: to the nearest. -/
namespace Go.Proofs.YtanlcacaihdceaaGreatDoor.G
open Go.Gv
set_option linter.unusedVariables false
theorem di_dz' (i : Int) : di ((dz i).1, (dz i).2) = i := di_dz i
theorem cmpZ_gt {i j : Int} : decide (cmpZ i j > 0) = decide (j < i) := by rw [cmp_gt_iff]
theorem cmpZ_eq {i j : Int} : (cmpZ i j == 0) = decide (i = j) := by
  unfold cmpZ
  rcases Int.lt_trichotomy i j with h | h | h
  · rw [if_pos h]; have : i ≠ j := by omega
    simp [this]
  · subst h; simp
  · rw [if_neg (by omega), if_neg (by omega)]; have : i ≠ j := by omega
    simp [this]
theorem near_step {p : Bool} {A B : Nat} (hB : B ≠ 0) (hp : p = true → A ≠ 0) :
    nea (sg p A) (sg false B) = if (B : Int) < mo (sg p A) (sg false B) * 2 ∨ (mo (sg p A) (sg false B) * 2 = (B : Int) ∧ (flo (sg p A) (sg false B)).natAbs % 2 = 1) then flo (sg p A) (sg false B) + 1 else flo (sg p A) (sg false B) := by
  rw [nea_sg hB hp, flo_sg hB hp, mo_sg hB hp, Bool.xor_false, sg_abs]
  unfold nearN
  have hm := Nat.mod_lt A (show 0 < B by omega)
  generalize A % B = r at *
  generalize A / B = Q at *
  cases p
  · simp only [Bool.false_eq_true, false_and, if_false, sg_false]
    by_cases c : B < 2 * r ∨ (2 * r = B ∧ Q % 2 = 1)
    · rw [if_pos c, if_pos (by omega)]; omega
    · rw [if_neg c, if_neg (by omega)]
  · by_cases hr : r = 0
    · subst hr
      simp only [ne_eq, not_true_eq_false, and_false, if_false, sg_zero]
      rw [if_neg (by omega), if_neg (by omega)]
    · simp only [ne_eq, hr, not_false_eq_true, and_self, if_true, sg_false]
      have e : sg true (Q + 1) + 1 = sg true Q := by unfold sg; simp only [if_true]; omega
      by_cases c : B < 2 * r ∨ (2 * r = B ∧ Q % 2 = 1)
      · rw [if_pos c, if_neg (by omega)]
      · rw [if_neg c, if_pos (by omega), e]
theorem rNear_v (b c : Bool) (X Y : Nat) : gnomonref04_Near.v b X c Y = neaZ (di (b, X)) (di (c, Y)) := by
  unfold gnomonref04_Near.v gnomonref04_Near.D1.v
  by_cases h : di (c, Y) ≤ 0
  · have e : floZ (di (b, X)) (di (c, Y)) = ((false, 0), (false, 0)) := by unfold floZ; rw [if_pos h]
    rw [e]
    simp only [letV]
    have e1 : di (false, 0) * 2 ^ Int.toNat 1 = 0 := by rw [di_sg, sg_zero, Int.zero_mul]
    rw [e1, di_dz', cmpZ_gt, cmpZ_eq]
    unfold neaZ
    by_cases h2 : di (c, Y) < 0
    · simp only [h2, decide_true, cond_true, if_true]; rfl
    · have h3 : (0 : Int) = di (c, Y) := by omega
      rw [if_neg h2, if_pos h3.symm]
      simp only [h2, h3.symm, decide_false, decide_true, cond_false, cond_true]; rfl
  · have hc : c = false := by
      cases c
      · rfl
      · exfalso; apply h; rw [di_sg]; unfold sg; simp
    subst hc
    rw [floZ_pos (by omega)]
    simp only [letV]
    have e1 : (2 : Int) ^ Int.toNat 1 = 2 := rfl
    rw [di_dz', e1, di_dz', cmpZ_gt, cmpZ_eq]
    have hne : neaZ (di (b, X)) (di (false, Y)) = dz (nea (di (b, X)) (di (false, Y))) := by unfold neaZ; rw [if_neg (by omega), if_neg (by omega)]
    rw [hne]
    have hY : Y ≠ 0 := fun e => h (by subst e; rw [di_sg, sg_zero]; exact Int.le_refl _)
    obtain ⟨p, A, ea, hp, _⟩ := sg_of (di (b, X))
    have ey : di (false, Y) = sg false Y := rfl
    rw [ea, ey, near_step hY hp]
    generalize mo (sg p A) (sg false Y) = M
    generalize flo (sg p A) (sg false Y) = F
    have e2 : di ((dz F).1, (dz F).2) + di ((dz 1).1, (dz 1).2) = F + 1 := by rw [di_dz', di_dz']
    have e3 : decide ((dz F).2 % 2 = 0) = decide (F.natAbs % 2 = 0) := rfl
    have e4 : sg false Y = (Y : Int) := rfl
    simp only [e2, e3, e4]
    by_cases c1 : (Y : Int) < M * 2
    · simp only [c1, decide_true, cond_true, true_or, if_true]
    · simp only [c1, decide_false, cond_false, false_or]
      by_cases c2 : M * 2 = (Y : Int)
      · simp only [c2, decide_true, cond_true, true_and]
        rcases Nat.mod_two_eq_zero_or_one F.natAbs with e | e
        · simp only [e]; rfl
        · simp only [e]; rfl
      · simp only [c2, decide_false, cond_false, false_and, if_false]
section
variable {a b : Option Addr} {c d l m X Y : Nat} {xs ys : List Nat} {h : Hp} {x y : Int} {p q : Bool}
theorem gnomonref04_Near.hs (r : RdE eU32 h a c (D.digs X)) (e : l = (D.digs X).length) (s : RdE eU32 h b d (D.digs Y)) (f : m = (D.digs Y).length) (w1 : (D.digs X).length ≤ 300000) (w2 : (D.digs Y).length ≤ 300000) : HC gnomonref04_Near.id #[.agg #[.bool p, .slice a l c], .agg #[.bool q, .slice b m d]] h fun v h' => Keep h h' ∧ sZD h h' v (neaZ (di (p, X)) (di (q, Y))) := by rw [← rNear_v]; exact gnomonref04_Near.hv r e w1 s f w2
end
end Go.Proofs.YtanlcacaihdceaaGreatDoor.G

/- Functions without loops as functions of values. Written by a program of this work. -/
namespace Go.Proofs.YtanlcacaihdceaaGreatDoor.G
open Go.Gv
set_option linter.unusedVariables false
set_option maxRecDepth 100000
namespace gnomonref04_NearDiv
def D2.v (b2_0 : Bool) (X2_1 : Nat) (b3_0 : Bool) (X3_1 : Nat) (b4_0 : Bool) (X4_1 : Nat) : (Bool × Nat) :=
  letV (neaZ (di (b2_0, X2_1)) (di (b3_0, X3_1))) fun p_7 =>
  (p_7.1, p_7.2)
theorem D2.hv {R : Rt} {h0 h : Hp} (k0 : Keep h0 h) {b2_0 : Bool} {a2_1 : Option Addr} {c2_1 : Nat} {X2_1 : Nat} (r2_1 : RdE eU32 h a2_1 c2_1 (D.digs X2_1)) (w2_1 : (D.digs X2_1).length ≤ 300000) {B2 : Nat} (bx2 : BlkV h B2 [.bool b2_0, .slice a2_1 (D.digs X2_1).length c2_1]) (o2 : h0.size ≤ B2) {b3_0 : Bool} {a3_1 : Option Addr} {c3_1 : Nat} {X3_1 : Nat} (r3_1 : RdE eU32 h a3_1 c3_1 (D.digs X3_1)) (w3_1 : (D.digs X3_1).length ≤ 300000) {B3 : Nat} (bx3 : BlkV h B3 [.bool b3_0, .slice a3_1 (D.digs X3_1).length c3_1]) (o3 : h0.size ≤ B3) {b4_0 : Bool} {a4_1 : Option Addr} {c4_1 : Nat} {X4_1 : Nat} (r4_1 : RdE eU32 h a4_1 c4_1 (D.digs X4_1)) (w4_1 : (D.digs X4_1).length ≤ 300000) {B4 : Nat} (bx4 : BlkV h B4 [.bool b4_0, .slice a4_1 (D.digs X4_1).length c4_1]) (o4 : h0.size ≤ B4) (d2q3 : B2 ≠ B3) (d2q4 : B2 ≠ B4) (d3q4 : B3 ≠ B4) (g : Post sZD h0 R (D2.v b2_0 X2_1 b3_0 X3_1 b4_0 X4_1)) : D2.t R (⟨B2, 0, none⟩ : Addr) (⟨B3, 0, none⟩ : Addr) (⟨B4, 0, none⟩ : Addr) h := by
  have kh := Keep.refl h
  have lt2 := bx2.lt
  have lt3 := bx3.lt
  have lt4 := bx4.lt
  have w_z : (D.digs 0).length = 0 := by simp [D.digs_zero]
  unfold D2.v at g
  unfold D2.t
  refine ldA bx2 (base_add _ _) rfl ?_
  refine gBool_intro rfl ?_
  refine ldA bx2 (base_add _ _) rfl ?_
  refine gSlice_intro rfl ?_
  refine ldA bx3 (base_add _ _) rfl ?_
  refine gBool_intro rfl ?_
  refine ldA bx3 (base_add _ _) rfl ?_
  refine gSlice_intro rfl ?_
  refine hc_intro (gnomonref04_Near.hs r2_1 rfl r3_1 rfl (by first | assumption | decide | omega) (by first | assumption | decide | omega)) fun v h_1 ⟨k_1, s⟩ => ?_
  obtain ⟨p_7, hp_7⟩ : ∃ p, p = neaZ (di (b2_0, X2_1)) (di (b3_0, X3_1)) := ⟨_, rfl⟩
  rw [← hp_7] at s
  replace g := lift_let2 hp_7 g
  have w_7 := bzNea b2_0 X2_1 b3_0 X3_1
  rw [← hp_7] at w_7
  obtain ⟨a_7, c_7, rfl, r_7⟩ := s
  refine gAgg_intro rfl (uncons_intro (gBool_intro rfl (uncons_intro (gSlice_intro rfl (unnil_intro (?_))))))
  have r_7 := r_7.from k0.le
  have m_1 := k_1.tame
  have bx2 := bx2.keep k_1
  have bx3 := bx3.keep k_1
  have bx4 := bx4.keep k_1
  have k0 := k0.trans k_1
  have kh := kh.trans k_1
  refine stA bx4 (base_add _ _) rfl fun h_2 bx4 k_2 m_2 => ?_
  have bx2 := bx2.keepB d2q4 k_2
  have bx3 := bx3.keepB d3q4 k_2
  have k0 := KeepB.keep k0 k_2 o4
  refine stA bx4 (base_add _ _) rfl fun h_3 bx4 k_3 m_3 => ?_
  have bx2 := bx2.keepB d2q4 k_3
  have bx3 := bx3.keepB d3q4 k_3
  have k0 := KeepB.keep k0 k_3 o4
  refine ldA bx4 (base_add _ _) rfl ?_
  refine gBool_intro rfl ?_
  refine ldA bx4 (base_add _ _) rfl ?_
  refine gSlice_intro rfl ?_
  exact g _ _ k0 ⟨_, _, rfl, (r_7.tame (m_2.trans m_3))⟩
def D1.v (b0_0 : Bool) (X0_1 : Nat) (b1_0 : Bool) (X1_1 : Nat) : (Bool × Nat) :=
  bif b1_0 then
    letV (dz (-di (b0_0, X0_1))) fun p_5 =>
    letV (dz (-di (b1_0, X1_1))) fun p_6 =>
    D2.v p_5.1 p_5.2 p_6.1 p_6.2 false 0
  else
    D2.v b0_0 X0_1 b1_0 X1_1 false 0
theorem D1.hv {R : Rt} {h0 h : Hp} (k0 : Keep h0 h) {b0_0 : Bool} {a0_1 : Option Addr} {c0_1 l0_1 : Nat} {X0_1 : Nat} (r0_1 : RdE eU32 h a0_1 c0_1 (D.digs X0_1)) (e0_1 : l0_1 = (D.digs X0_1).length) (w0_1 : (D.digs X0_1).length ≤ 150000) {b1_0 : Bool} {a1_1 : Option Addr} {c1_1 l1_1 : Nat} {X1_1 : Nat} (r1_1 : RdE eU32 h a1_1 c1_1 (D.digs X1_1)) (e1_1 : l1_1 = (D.digs X1_1).length) (w1_1 : (D.digs X1_1).length ≤ 150000) (g : Post sZD h0 R (D1.v b0_0 X0_1 b1_0 X1_1)) : D1.t R b0_0 a0_1 l0_1 c0_1 b1_0 a1_1 l1_1 c1_1 h := by
  subst e0_1 e1_1
  have kh := Keep.refl h
  have w_z : (D.digs 0).length = 0 := by simp [D.digs_zero]
  unfold D1.v at g
  unfold D1.t
  refine boxV fun h_1 bx_1 k_1 => ?_
  have o_1 : h0.size ≤ h.size := k0.le
  have oh_1 : h.size ≤ h.size := kh.le
  have lt_1 := bx_1.lt
  have m_1 := k_1.tame
  have k0 := k0.trans k_1
  have kh := kh.trans k_1
  refine boxV fun h_2 bx_2 k_2 => ?_
  have d_1q_2 : h.size ≠ h_1.size := Nat.ne_of_lt bx_1.lt
  have o_2 : h0.size ≤ h_1.size := k0.le
  have oh_2 : h.size ≤ h_1.size := kh.le
  have lt_2 := bx_2.lt
  have m_2 := k_2.tame
  have bx_1 := bx_1.keep k_2
  have k0 := k0.trans k_2
  have kh := kh.trans k_2
  refine boxV fun h_3 bx_3 k_3 => ?_
  have d_1q_3 : h.size ≠ h_2.size := Nat.ne_of_lt bx_1.lt
  have d_2q_3 : h_1.size ≠ h_2.size := Nat.ne_of_lt bx_2.lt
  have bx_3 : BlkV h_3 (h_2.size) [.bool false, .slice none (D.digs 0).length 0] := by rw [D.digs_zero]; exact bx_3
  have o_3 : h0.size ≤ h_2.size := k0.le
  have oh_3 : h.size ≤ h_2.size := kh.le
  have lt_3 := bx_3.lt
  have m_3 := k_3.tame
  have bx_1 := bx_1.keep k_3
  have bx_2 := bx_2.keep k_3
  have k0 := k0.trans k_3
  have kh := kh.trans k_3
  refine ldA bx_2 (base_add _ _) rfl ?_
  refine gBool_intro rfl ?_
  refine lift_bool g (fun q_4 g => ?_) (fun q_4 g => ?_)
  · refine ⟨blkLt rfl ((m_2.trans m_3).lt lt_1), ?_⟩
    refine ldA bx_1 (base_add _ _) rfl ?_
    refine gBool_intro rfl ?_
    refine ldA bx_1 (base_add _ _) rfl ?_
    refine gSlice_intro rfl ?_
    refine hc_intro (gnomonref04_Flip.hs (r0_1.tame (m_1.trans (m_2.trans m_3))) rfl) fun v h_4 ⟨k_4, s⟩ => ?_
    obtain ⟨p_5, hp_5⟩ : ∃ p, p = dz (-di (b0_0, X0_1)) := ⟨_, rfl⟩
    rw [← hp_5] at s
    replace g := lift_let2 hp_5 g
    have w_5 := bzNeg b0_0 X0_1
    rw [← hp_5] at w_5
    obtain ⟨a_5, c_5, rfl, r_5⟩ := s
    refine gAgg_intro rfl (uncons_intro (gBool_intro rfl (uncons_intro (gSlice_intro rfl (unnil_intro (?_))))))
    have r_5 := r_5.from k0.le
    have m_4 := k_4.tame
    have bx_1 := bx_1.keep k_4
    have bx_2 := bx_2.keep k_4
    have bx_3 := bx_3.keep k_4
    have k0 := k0.trans k_4
    have kh := kh.trans k_4
    refine ⟨k_4.preLe (Nat.le_refl _), ?_⟩
    refine ⟨blkLt rfl ((m_3).lt lt_2), ?_⟩
    refine ldA bx_2 (base_add _ _) rfl ?_
    refine gBool_intro rfl ?_
    refine ldA bx_2 (base_add _ _) rfl ?_
    refine gSlice_intro rfl ?_
    refine hc_intro (gnomonref04_Flip.hs (r1_1.tame (m_1.trans (m_2.trans (m_3.trans m_4)))) rfl) fun v h_5 ⟨k_5, s⟩ => ?_
    obtain ⟨p_6, hp_6⟩ : ∃ p, p = dz (-di (b1_0, X1_1)) := ⟨_, rfl⟩
    rw [← hp_6] at s
    replace g := lift_let2 hp_6 g
    have w_6 := bzNeg b1_0 X1_1
    rw [← hp_6] at w_6
    obtain ⟨a_6, c_6, rfl, r_6⟩ := s
    refine gAgg_intro rfl (uncons_intro (gBool_intro rfl (uncons_intro (gSlice_intro rfl (unnil_intro (?_))))))
    have r_6 := r_6.from k0.le
    have m_5 := k_5.tame
    have bx_1 := bx_1.keep k_5
    have bx_2 := bx_2.keep k_5
    have bx_3 := bx_3.keep k_5
    have k0 := k0.trans k_5
    have kh := kh.trans k_5
    refine ⟨k_5.preLe (m_4).le, ?_⟩
    refine stA bx_1 (base_add _ _) rfl fun h_6 bx_1 k_6 m_6 => ?_
    have bx_2 := bx_2.keepB (Ne.symm d_1q_2) k_6
    have bx_3 := bx_3.keepB (Ne.symm d_1q_3) k_6
    have k0 := KeepB.keep k0 k_6 o_1
    have kh := KeepB.keep kh k_6 oh_1
    refine stA bx_1 (base_add _ _) rfl fun h_7 bx_1 k_7 m_7 => ?_
    have bx_2 := bx_2.keepB (Ne.symm d_1q_2) k_7
    have bx_3 := bx_3.keepB (Ne.symm d_1q_3) k_7
    have k0 := KeepB.keep k0 k_7 o_1
    have kh := KeepB.keep kh k_7 oh_1
    refine stA bx_2 (base_add _ _) rfl fun h_8 bx_2 k_8 m_8 => ?_
    have bx_1 := bx_1.keepB d_1q_2 k_8
    have bx_3 := bx_3.keepB (Ne.symm d_2q_3) k_8
    have k0 := KeepB.keep k0 k_8 o_2
    have kh := KeepB.keep kh k_8 oh_2
    refine stA bx_2 (base_add _ _) rfl fun h_9 bx_2 k_9 m_9 => ?_
    have bx_1 := bx_1.keepB d_1q_2 k_9
    have bx_3 := bx_3.keepB (Ne.symm d_2q_3) k_9
    have k0 := KeepB.keep k0 k_9 o_2
    have kh := KeepB.keep kh k_9 oh_2
    exact D2.hv k0 (r_5.tame (m_5.trans (m_6.trans (m_7.trans (m_8.trans m_9))))).rd (by first | assumption | decide | omega) bx_1 o_1 (r_6.tame (m_6.trans (m_7.trans (m_8.trans m_9)))).rd (by first | assumption | decide | omega) bx_2 o_2 (rdD0 _ _ _) (by first | assumption | decide | omega) bx_3 o_3 d_1q_2 d_1q_3 d_2q_3 g
  · exact D2.hv k0 (r0_1.tame (m_1.trans (m_2.trans m_3))) (by first | assumption | decide | omega) bx_1 o_1 (r1_1.tame (m_1.trans (m_2.trans m_3))) (by first | assumption | decide | omega) bx_2 o_2 (rdD0 _ _ _) (by first | assumption | decide | omega) bx_3 o_3 d_1q_2 d_1q_3 d_2q_3 g
def v (b0_0 : Bool) (X0_1 : Nat) (b1_0 : Bool) (X1_1 : Nat) : (Bool × Nat) := D1.v b0_0 X0_1 b1_0 X1_1
theorem hv {h : Hp} {b0_0 : Bool} {a0_1 : Option Addr} {c0_1 l0_1 : Nat} {X0_1 : Nat} (r0_1 : RdE eU32 h a0_1 c0_1 (D.digs X0_1)) (e0_1 : l0_1 = (D.digs X0_1).length) (w0_1 : (D.digs X0_1).length ≤ 150000) {b1_0 : Bool} {a1_1 : Option Addr} {c1_1 l1_1 : Nat} {X1_1 : Nat} (r1_1 : RdE eU32 h a1_1 c1_1 (D.digs X1_1)) (e1_1 : l1_1 = (D.digs X1_1).length) (w1_1 : (D.digs X1_1).length ≤ 150000) : HC id #[.agg #[.bool b0_0, .slice a0_1 l0_1 c0_1], .agg #[.bool b1_0, .slice a1_1 l1_1 c1_1]] h fun v_ h_ => Keep h h_ ∧ sZD h h_ v_ (v b0_0 X0_1 b1_0 X1_1) :=
  ok (D1.hv (Keep.refl _) r0_1 e0_1 w0_1 r1_1 e1_1 w1_1 fun v h' k s => ⟨k, s⟩)
end gnomonref04_NearDiv






end Go.Proofs.YtanlcacaihdceaaGreatDoor.G

/- The document's calls of one number, and the rest of the quotients. -/
namespace Go.Proofs.YtanlcacaihdceaaGreatDoor.G
open Go.Gv
set_option linter.unusedVariables false
theorem nea_neg2 {a b : Int} (hb : b ≠ 0) : nea (-a) (-b) = nea a b := by
  rw [nea_neg]
  unfold nea
  rw [neg_sg, Int.natAbs_neg]
  have : decide (-b < 0) = !decide (b < 0) := by
    by_cases h2 : b < 0
    · simp [h2]; omega
    · simp [h2]; omega
  rw [this]; congr 1
  cases decide (a < 0) <;> cases decide (b < 0) <;> rfl
theorem rNearDiv_v (b c : Bool) (X Y : Nat) : gnomonref04_NearDiv.v b X c Y = nedZ (di (b, X)) (di (c, Y)) := by
  unfold gnomonref04_NearDiv.v gnomonref04_NearDiv.D1.v gnomonref04_NearDiv.D2.v
  simp only [letV, di_dz']
  cases c
  · rw [cond_false]
    have h : ¬ di (false, Y) < 0 := by rw [di_sg]; unfold sg; simp
    show neaZ (di (b, X)) (di (false, Y)) = _
    unfold neaZ nedZ; rw [if_neg h]
  · rw [cond_true]
    have h : ¬ -di (true, Y) < 0 := by rw [di_sg]; unfold sg; simp
    show neaZ (-di (b, X)) (-di (true, Y)) = _
    unfold neaZ nedZ; rw [if_neg h]
    by_cases h0 : di (true, Y) = 0
    · rw [if_pos (by omega), if_pos h0]
    · rw [if_neg (by omega), if_neg h0, nea_neg2 h0]
section
variable {a b : Option Addr} {c d l m X Y : Nat} {xs ys : List Nat} {h : Hp} {x y : Int} {p q : Bool}
theorem gnomonref04_NearDiv.hs (r : RdE eU32 h a c (D.digs X)) (e : l = (D.digs X).length) (s : RdE eU32 h b d (D.digs Y)) (f : m = (D.digs Y).length) (w1 : (D.digs X).length ≤ 150000) (w2 : (D.digs Y).length ≤ 150000) : HC gnomonref04_NearDiv.id #[.agg #[.bool p, .slice a l c], .agg #[.bool q, .slice b m d]] h fun v h' => Keep h h' ∧ sZD h h' v (nedZ (di (p, X)) (di (q, Y))) := by rw [← rNearDiv_v]; exact gnomonref04_NearDiv.hv r e w1 s f w2
end
end Go.Proofs.YtanlcacaihdceaaGreatDoor.G

/- Functions without loops as functions of values. Written by a program of this work. -/
namespace Go.Proofs.YtanlcacaihdceaaGreatDoor.G
open Go.Gv
set_option linter.unusedVariables false
set_option maxRecDepth 100000
namespace gnomonlaw04_twin
def D1.v (b0_0 : Bool) (xs0_1 : List Nat) : (Bool × List Nat) :=
  (b0_0, (xs0_1))
theorem D1.hv {R : Rt} {h0 h : Hp} (k0 : Keep h0 h) {b0_0 : Bool} {a0_1 : Option Addr} {c0_1 l0_1 : Nat} {xs0_1 : List Nat} (r0_1 : Rd h a0_1 c0_1 xs0_1) (e0_1 : l0_1 = xs0_1.length) (g : Post sZW h0 R (D1.v b0_0 xs0_1)) : D1.t R b0_0 a0_1 l0_1 c0_1 h := by
  subst e0_1
  unfold D1.v at g
  unfold D1.t
  refine boxV fun h_1 bx_1 k_1 => ?_
  have o_1 := k0.le
  have lt_1 := bx_1.lt
  have m_1 := k_1.tame
  refine boxV fun h_2 bx_2 k_2 => ?_
  have o_2 := (k0.trans k_1).le
  have lt_2 := bx_2.lt
  have m_2 := k_2.tame
  have bx_1 := (bx_1.keep k_2)
  refine ⟨blkLt (base_add _ _) ((m_2).lt lt_1), ?_⟩
  refine ldA bx_1 (base_add _ _) rfl (gBool_intro rfl ?_)
  refine ⟨blkLt (base_add _ _) ((m_2).lt lt_1), ?_⟩
  refine ldA bx_1 (base_add _ _) rfl (gSlice_intro rfl ?_)
  refine hc_intro (gnomonref01_Twin.hv (r0_1.tame (m_1.trans m_2)) rfl) fun v h_3 ⟨k_3, s⟩ => ?_
  obtain ⟨a_3, c_3, rfl, r_3⟩ := s
  refine gSlice_intro rfl (?_)
  have m_3 := k_3.tame
  refine ⟨k_3.preLe (Nat.le_refl _), ?_⟩
  have bx_2 := (bx_2.keep k_3)
  refine stA bx_2 (base_add _ _) rfl fun h_4 bx_2 k_4 m_4 => ?_
  refine stA bx_2 (base_add _ _) rfl fun h_5 bx_2 k_5 m_5 => ?_
  refine ldA bx_2 (base_add _ _) rfl (gBool_intro rfl ?_)
  refine ldA bx_2 (base_add _ _) rfl (gSlice_intro rfl ?_)
  exact g _ _ (KeepB.keep (KeepB.keep (((k0.trans k_1).trans k_2).trans k_3) k_4 o_2) k_5 o_2) ⟨_, _, rfl, ((r_3.tame (m_4.trans m_5)).from ((k0.trans k_1).trans k_2).le)⟩
def v (b0_0 : Bool) (xs0_1 : List Nat) : (Bool × List Nat) := D1.v b0_0 xs0_1
theorem hv {h : Hp} {b0_0 : Bool} {a0_1 : Option Addr} {c0_1 l0_1 : Nat} {xs0_1 : List Nat} (r0_1 : Rd h a0_1 c0_1 xs0_1) (e0_1 : l0_1 = xs0_1.length) : HC id #[.agg #[.bool b0_0, .slice a0_1 l0_1 c0_1]] h fun v_ h_ => Keep h h_ ∧ sZW h h_ v_ (v b0_0 xs0_1) :=
  ok (D1.hv (Keep.refl _) r0_1 e0_1 fun v h' k s => ⟨k, s⟩)
end gnomonlaw04_twin

namespace gnomonlaw04_told
def D1.v (b0_0 : Bool) (xs0_1 : List Nat) (x1 : Int) (b2_0 : Bool) (xs2_1 : List Nat) (x3 : Int) : Bool :=
  bif (decide ((b0_0, xs0_1) = (b2_0, xs2_1))) then
    (x1 == x3)
  else
    false
theorem D1.hv {R : Rt} {h0 h : Hp} (k0 : Keep h0 h) {b0_0 : Bool} {a0_1 : Option Addr} {c0_1 l0_1 : Nat} {xs0_1 : List Nat} (r0_1 : Rd h a0_1 c0_1 xs0_1) (e0_1 : l0_1 = xs0_1.length) {x1 : Int} (i1 : In .i64 x1) {b2_0 : Bool} {a2_1 : Option Addr} {c2_1 l2_1 : Nat} {xs2_1 : List Nat} (r2_1 : Rd h a2_1 c2_1 xs2_1) (e2_1 : l2_1 = xs2_1.length) {x3 : Int} (i3 : In .i64 x3) (g : Post sBool h0 R (D1.v b0_0 xs0_1 x1 b2_0 xs2_1 x3)) : D1.t R b0_0 a0_1 l0_1 c0_1 x1 b2_0 a2_1 l2_1 c2_1 x3 h := by
  subst e0_1 e2_1
  unfold D1.v at g
  unfold D1.t
  refine boxV fun h_1 bx_1 k_1 => ?_
  have o_1 := k0.le
  have lt_1 := bx_1.lt
  have m_1 := k_1.tame
  refine boxV fun h_2 bx_2 k_2 => ?_
  have o_2 := (k0.trans k_1).le
  have lt_2 := bx_2.lt
  have m_2 := k_2.tame
  have bx_1 := (bx_1.keep k_2)
  refine ldA bx_1 (base_add _ _) rfl (gBool_intro rfl ?_)
  refine ldA bx_1 (base_add _ _) rfl (gSlice_intro rfl ?_)
  refine ldA bx_2 (base_add _ _) rfl (gBool_intro rfl ?_)
  refine ldA bx_2 (base_add _ _) rfl (gSlice_intro rfl ?_)
  refine hc_intro (gnomonlaw04_same.hs (r0_1.tame (m_1.trans m_2)) rfl (r2_1.tame (m_1.trans m_2)) rfl) fun v h_3 ⟨k_3, s⟩ => ?_
  obtain rfl := s
  refine gBool_intro rfl (?_)
  have m_3 := k_3.tame
  refine lift_dec g (fun q_4 g => ?_) (fun q_4 g => ?_)
  · exact g _ _ (((k0.trans k_1).trans k_2).trans k_3) rfl
  exact g _ _ (((k0.trans k_1).trans k_2).trans k_3) rfl
def v (b0_0 : Bool) (xs0_1 : List Nat) (x1 : Int) (b2_0 : Bool) (xs2_1 : List Nat) (x3 : Int) : Bool := D1.v b0_0 xs0_1 x1 b2_0 xs2_1 x3
theorem hv {h : Hp} {b0_0 : Bool} {a0_1 : Option Addr} {c0_1 l0_1 : Nat} {xs0_1 : List Nat} (r0_1 : Rd h a0_1 c0_1 xs0_1) (e0_1 : l0_1 = xs0_1.length) {x1 : Int} (i1 : In .i64 x1) {b2_0 : Bool} {a2_1 : Option Addr} {c2_1 l2_1 : Nat} {xs2_1 : List Nat} (r2_1 : Rd h a2_1 c2_1 xs2_1) (e2_1 : l2_1 = xs2_1.length) {x3 : Int} (i3 : In .i64 x3) : HC id #[.agg #[.bool b0_0, .slice a0_1 l0_1 c0_1], .int .i64 x1, .agg #[.bool b2_0, .slice a2_1 l2_1 c2_1], .int .i64 x3] h fun v_ h_ => Keep h h_ ∧ sBool h h_ v_ (v b0_0 xs0_1 x1 b2_0 xs2_1 x3) :=
  ok (D1.hv (Keep.refl _) r0_1 e0_1 i1 r2_1 e2_1 i3 fun v h' k s => ⟨k, s⟩)
end gnomonlaw04_told

end Go.Proofs.YtanlcacaihdceaaGreatDoor.G

/- Copies of numbers; what the document answers. -/
namespace Go.Proofs.YtanlcacaihdceaaGreatDoor.G
open Go.Gv
set_option linter.unusedVariables false
set_option maxRecDepth 100000
def opZ (k : Int) : Int → Int → Int := if k = 0 then addI else if k = 1 then subI else if k = 2 then mulI else if k = 3 then flo else if k = 4 then cei else if k = 5 then nea else mo
def docTwoS (k : Int) (x y : Zw) : Zw × Int := if FrmZ x ∧ FrmZ y then (if 3 ≤ k ∧ zi y = 0 then (nz, 4) else zlim (opZ k (zi x) (zi y))) else (nz, 2)
section
variable {a : Option Addr} {c l : Nat} {xs : List Nat} {h : Hp} {p : Bool}
theorem gnomonlaw04_twin.hs (r : Rd h a c xs) (e : l = xs.length) : HC gnomonlaw04_twin.id #[.agg #[.bool p, .slice a l c]] h fun v h' => Keep h h' ∧ sZW h h' v (p, xs) := gnomonlaw04_twin.hv r e
end
theorem quo_doc (k : Int) (x y : Zw) (f : Int → Int → Int) (h : 3 ≤ k) (e : opZ k = f) : docTwoS k x y = quoZ f x y := by
  unfold docTwoS quoZ
  subst e
  by_cases g : FrmZ x ∧ FrmZ y
  · rw [if_pos g, if_pos g]
    by_cases z : zi y = 0
    · rw [if_pos ⟨h, z⟩, if_pos z]
    · rw [if_neg (fun h => z h.2), if_neg z]
  · rw [if_neg g, if_neg g]
theorem told4_same (x : Zw) (e : Int) : gnomonlaw04_told.v x.1 x.2 e x.1 x.2 e = true := by
  unfold gnomonlaw04_told.v gnomonlaw04_told.D1.v; simp
end Go.Proofs.YtanlcacaihdceaaGreatDoor.G

/- Functions without loops as functions of values. Written by a program of this work. -/
namespace Go.Proofs.YtanlcacaihdceaaGreatDoor.G
open Go.Gv
set_option linter.unusedVariables false
set_option maxRecDepth 100000
namespace gnomonref04_DocTwo
def D4.v (x0 : Int) (b6_0 : Bool) (xs6_1 : List Nat) (b8_0 : Bool) (X8_1 : Nat) (b9_0 : Bool) (X9_1 : Nat) : ((Bool × List Nat) × Int) :=
  bif (x0 == (3 : Int)) then
    letV (dz (flo (di (b8_0, X8_1)) (di (b9_0, X9_1)))) fun p_15 =>
    letV (zlim (di (p_15.1, p_15.2))) fun p_16 =>
    ((p_16.1.1, p_16.1.2), p_16.2)
  else
    bif (x0 == (4 : Int)) then
      letV (dz (cei (di (b8_0, X8_1)) (di (b9_0, X9_1)))) fun p_18 =>
      letV (zlim (di (p_18.1, p_18.2))) fun p_19 =>
      ((p_19.1.1, p_19.1.2), p_19.2)
    else
      bif (x0 == (5 : Int)) then
        letV (nedZ (di (b8_0, X8_1)) (di (b9_0, X9_1))) fun p_21 =>
        letV (zlim (di (p_21.1, p_21.2))) fun p_22 =>
        ((p_22.1.1, p_22.1.2), p_22.2)
      else
        letV (dz (mo (di (b8_0, X8_1)) (di (b9_0, X9_1)))) fun p_23 =>
        letV (zlim (di (p_23.1, p_23.2))) fun p_24 =>
        ((p_24.1.1, p_24.1.2), p_24.2)
theorem D4.hv {R : Rt} {h0 h : Hp} (k0 : Keep h0 h) {x0 : Int} (i0 : In .i64 x0) (rl0 : 3 ≤ x0) (rh0 : x0 ≤ 6) {b6_0 : Bool} {a6_1 : Option Addr} {c6_1 : Nat} {xs6_1 : List Nat} (r6_1 : GotE eU64 h0 h a6_1 c6_1 xs6_1) {B6 : Nat} (bx6 : BlkV h B6 [.bool b6_0, .slice a6_1 xs6_1.length c6_1]) (o6 : h0.size ≤ B6) {b8_0 : Bool} {a8_1 : Option Addr} {c8_1 : Nat} {X8_1 : Nat} (r8_1 : GotE eU32 h0 h a8_1 c8_1 (D.digs X8_1)) (w8_1 : (D.digs X8_1).length ≤ 20000) {B8 : Nat} (bx8 : BlkV h B8 [.bool b8_0, .slice a8_1 (D.digs X8_1).length c8_1]) (o8 : h0.size ≤ B8) {b9_0 : Bool} {a9_1 : Option Addr} {c9_1 : Nat} {X9_1 : Nat} (r9_1 : GotE eU32 h0 h a9_1 c9_1 (D.digs X9_1)) (w9_1 : (D.digs X9_1).length ≤ 20000) {B9 : Nat} (bx9 : BlkV h B9 [.bool b9_0, .slice a9_1 (D.digs X9_1).length c9_1]) (o9 : h0.size ≤ B9) (d6q8 : B6 ≠ B8) (d6q9 : B6 ≠ B9) (d8q9 : B8 ≠ B9) (g : Post (s2 sZW (sI .i64)) h0 R (D4.v x0 b6_0 xs6_1 b8_0 X8_1 b9_0 X9_1)) : D4.t R x0 (⟨B6, 0, none⟩ : Addr) (⟨B8, 0, none⟩ : Addr) (⟨B9, 0, none⟩ : Addr) h := by
  have lt6 := bx6.lt
  have lt8 := bx8.lt
  have lt9 := bx9.lt
  have w_z : (D.digs 0).length = 0 := by simp [D.digs_zero]
  unfold D4.v at g
  unfold D4.t
  refine c_eq (fun q => absurd q (by omega)) fun _ => ?_
  refine c_eq (fun q => absurd q (by omega)) fun _ => ?_
  refine c_eq (fun q => absurd q (by omega)) fun _ => ?_
  refine lift_eq g (fun q_14 g => ?_) (fun q_14 g => ?_)
  · have gq := g
    subst q_14
    have g := gq
    clear gq
    refine ldA bx8 (base_add _ _) rfl (gBool_intro rfl ?_)
    refine ldA bx8 (base_add _ _) rfl (gSlice_intro rfl ?_)
    refine ldA bx9 (base_add _ _) rfl (gBool_intro rfl ?_)
    refine ldA bx9 (base_add _ _) rfl (gSlice_intro rfl ?_)
    refine hc_intro (gnomonref04_FloorDiv.hs r8_1.rd rfl r9_1.rd rfl (by first | assumption | decide | omega) (by first | assumption | decide | omega)) fun v h_1 ⟨k_1, s⟩ => ?_
    obtain ⟨p_15, hp_15⟩ : ∃ p, p = dz (flo (di (b8_0, X8_1)) (di (b9_0, X9_1))) := ⟨_, rfl⟩
    rw [← hp_15] at s
    replace g := lift_let2 hp_15 g
    have w_15 := bzFloorDiv b8_0 X8_1 b9_0 X9_1
    rw [← hp_15] at w_15
    obtain ⟨a_15, c_15, rfl, r_15⟩ := s
    refine gAgg_intro rfl (uncons_intro (gBool_intro rfl (uncons_intro (gSlice_intro rfl (unnil_intro (?_))))))
    have m_1 := k_1.tame
    refine hc_intro (gnomonref04_Told.hs r_15.rd rfl) fun v h_2 ⟨k_2, s⟩ => ?_
    obtain ⟨p_16, hp_16⟩ : ∃ p, p = zlim (di (p_15.1, p_15.2)) := ⟨_, rfl⟩
    rw [← hp_16] at s
    replace g := lift_let2 hp_16 g
    obtain ⟨_, _, rfl, ⟨a_16_0, c_16_0, rfl, r_16_0⟩, ⟨rfl, i_16_1⟩⟩ := s
    refine gTup_intro rfl (uncons_intro (gAgg_intro rfl (uncons_intro (gBool_intro rfl (uncons_intro (gSlice_intro rfl (unnil_intro (uncons_intro (gInt_intro rfl (unnil_intro (?_)))))))))))
    have m_2 := k_2.tame
    have bx6 := ((bx6.keep k_1).keep k_2)
    refine stA bx6 (base_add _ _) rfl fun h_3 bx6 k_3 m_3 => ?_
    refine stA bx6 (base_add _ _) rfl fun h_4 bx6 k_4 m_4 => ?_
    refine ldA bx6 (base_add _ _) rfl (gBool_intro rfl ?_)
    refine ldA bx6 (base_add _ _) rfl (gSlice_intro rfl ?_)
    exact g _ _ (KeepB.keep (KeepB.keep ((k0.trans k_1).trans k_2) k_3 o6) k_4 o6) ⟨_, _, rfl, ⟨_, _, rfl, ((r_16_0.tame (m_3.trans m_4)).from (k0.trans k_1).le)⟩, ⟨rfl, i_16_1⟩⟩
  refine lift_eq g (fun q_17 g => ?_) (fun q_17 g => ?_)
  · have gq := g
    subst q_17
    have g := gq
    clear gq
    refine ldA bx8 (base_add _ _) rfl (gBool_intro rfl ?_)
    refine ldA bx8 (base_add _ _) rfl (gSlice_intro rfl ?_)
    refine ldA bx9 (base_add _ _) rfl (gBool_intro rfl ?_)
    refine ldA bx9 (base_add _ _) rfl (gSlice_intro rfl ?_)
    refine hc_intro (gnomonref04_CeilDiv.hs r8_1.rd rfl r9_1.rd rfl (by first | assumption | decide | omega) (by first | assumption | decide | omega)) fun v h_1 ⟨k_1, s⟩ => ?_
    obtain ⟨p_18, hp_18⟩ : ∃ p, p = dz (cei (di (b8_0, X8_1)) (di (b9_0, X9_1))) := ⟨_, rfl⟩
    rw [← hp_18] at s
    replace g := lift_let2 hp_18 g
    have w_18 := bzCeilDiv b8_0 X8_1 b9_0 X9_1
    rw [← hp_18] at w_18
    obtain ⟨a_18, c_18, rfl, r_18⟩ := s
    refine gAgg_intro rfl (uncons_intro (gBool_intro rfl (uncons_intro (gSlice_intro rfl (unnil_intro (?_))))))
    have m_1 := k_1.tame
    refine hc_intro (gnomonref04_Told.hs r_18.rd rfl) fun v h_2 ⟨k_2, s⟩ => ?_
    obtain ⟨p_19, hp_19⟩ : ∃ p, p = zlim (di (p_18.1, p_18.2)) := ⟨_, rfl⟩
    rw [← hp_19] at s
    replace g := lift_let2 hp_19 g
    obtain ⟨_, _, rfl, ⟨a_19_0, c_19_0, rfl, r_19_0⟩, ⟨rfl, i_19_1⟩⟩ := s
    refine gTup_intro rfl (uncons_intro (gAgg_intro rfl (uncons_intro (gBool_intro rfl (uncons_intro (gSlice_intro rfl (unnil_intro (uncons_intro (gInt_intro rfl (unnil_intro (?_)))))))))))
    have m_2 := k_2.tame
    have bx6 := ((bx6.keep k_1).keep k_2)
    refine stA bx6 (base_add _ _) rfl fun h_3 bx6 k_3 m_3 => ?_
    refine stA bx6 (base_add _ _) rfl fun h_4 bx6 k_4 m_4 => ?_
    refine ldA bx6 (base_add _ _) rfl (gBool_intro rfl ?_)
    refine ldA bx6 (base_add _ _) rfl (gSlice_intro rfl ?_)
    exact g _ _ (KeepB.keep (KeepB.keep ((k0.trans k_1).trans k_2) k_3 o6) k_4 o6) ⟨_, _, rfl, ⟨_, _, rfl, ((r_19_0.tame (m_3.trans m_4)).from (k0.trans k_1).le)⟩, ⟨rfl, i_19_1⟩⟩
  refine lift_eq g (fun q_20 g => ?_) (fun q_20 g => ?_)
  · have gq := g
    subst q_20
    have g := gq
    clear gq
    refine ldA bx8 (base_add _ _) rfl (gBool_intro rfl ?_)
    refine ldA bx8 (base_add _ _) rfl (gSlice_intro rfl ?_)
    refine ldA bx9 (base_add _ _) rfl (gBool_intro rfl ?_)
    refine ldA bx9 (base_add _ _) rfl (gSlice_intro rfl ?_)
    refine hc_intro (gnomonref04_NearDiv.hs r8_1.rd rfl r9_1.rd rfl (by first | assumption | decide | omega) (by first | assumption | decide | omega)) fun v h_1 ⟨k_1, s⟩ => ?_
    obtain ⟨p_21, hp_21⟩ : ∃ p, p = nedZ (di (b8_0, X8_1)) (di (b9_0, X9_1)) := ⟨_, rfl⟩
    rw [← hp_21] at s
    replace g := lift_let2 hp_21 g
    have w_21 := bzNearDiv b8_0 X8_1 b9_0 X9_1
    rw [← hp_21] at w_21
    obtain ⟨a_21, c_21, rfl, r_21⟩ := s
    refine gAgg_intro rfl (uncons_intro (gBool_intro rfl (uncons_intro (gSlice_intro rfl (unnil_intro (?_))))))
    have m_1 := k_1.tame
    refine hc_intro (gnomonref04_Told.hs r_21.rd rfl) fun v h_2 ⟨k_2, s⟩ => ?_
    obtain ⟨p_22, hp_22⟩ : ∃ p, p = zlim (di (p_21.1, p_21.2)) := ⟨_, rfl⟩
    rw [← hp_22] at s
    replace g := lift_let2 hp_22 g
    obtain ⟨_, _, rfl, ⟨a_22_0, c_22_0, rfl, r_22_0⟩, ⟨rfl, i_22_1⟩⟩ := s
    refine gTup_intro rfl (uncons_intro (gAgg_intro rfl (uncons_intro (gBool_intro rfl (uncons_intro (gSlice_intro rfl (unnil_intro (uncons_intro (gInt_intro rfl (unnil_intro (?_)))))))))))
    have m_2 := k_2.tame
    have bx6 := ((bx6.keep k_1).keep k_2)
    refine stA bx6 (base_add _ _) rfl fun h_3 bx6 k_3 m_3 => ?_
    refine stA bx6 (base_add _ _) rfl fun h_4 bx6 k_4 m_4 => ?_
    refine ldA bx6 (base_add _ _) rfl (gBool_intro rfl ?_)
    refine ldA bx6 (base_add _ _) rfl (gSlice_intro rfl ?_)
    exact g _ _ (KeepB.keep (KeepB.keep ((k0.trans k_1).trans k_2) k_3 o6) k_4 o6) ⟨_, _, rfl, ⟨_, _, rfl, ((r_22_0.tame (m_3.trans m_4)).from (k0.trans k_1).le)⟩, ⟨rfl, i_22_1⟩⟩
  refine ldA bx8 (base_add _ _) rfl (gBool_intro rfl ?_)
  refine ldA bx8 (base_add _ _) rfl (gSlice_intro rfl ?_)
  refine ldA bx9 (base_add _ _) rfl (gBool_intro rfl ?_)
  refine ldA bx9 (base_add _ _) rfl (gSlice_intro rfl ?_)
  refine hc_intro (gnomonref04_Mod.hs r8_1.rd rfl r9_1.rd rfl (by first | assumption | decide | omega) (by first | assumption | decide | omega)) fun v h_1 ⟨k_1, s⟩ => ?_
  obtain ⟨p_23, hp_23⟩ : ∃ p, p = dz (mo (di (b8_0, X8_1)) (di (b9_0, X9_1))) := ⟨_, rfl⟩
  rw [← hp_23] at s
  replace g := lift_let2 hp_23 g
  have w_23 := bzMod b8_0 X8_1 b9_0 X9_1
  rw [← hp_23] at w_23
  obtain ⟨a_23, c_23, rfl, r_23⟩ := s
  refine gAgg_intro rfl (uncons_intro (gBool_intro rfl (uncons_intro (gSlice_intro rfl (unnil_intro (?_))))))
  have m_1 := k_1.tame
  refine hc_intro (gnomonref04_Told.hs r_23.rd rfl) fun v h_2 ⟨k_2, s⟩ => ?_
  obtain ⟨p_24, hp_24⟩ : ∃ p, p = zlim (di (p_23.1, p_23.2)) := ⟨_, rfl⟩
  rw [← hp_24] at s
  replace g := lift_let2 hp_24 g
  obtain ⟨_, _, rfl, ⟨a_24_0, c_24_0, rfl, r_24_0⟩, ⟨rfl, i_24_1⟩⟩ := s
  refine gTup_intro rfl (uncons_intro (gAgg_intro rfl (uncons_intro (gBool_intro rfl (uncons_intro (gSlice_intro rfl (unnil_intro (uncons_intro (gInt_intro rfl (unnil_intro (?_)))))))))))
  have m_2 := k_2.tame
  have bx6 := ((bx6.keep k_1).keep k_2)
  refine stA bx6 (base_add _ _) rfl fun h_3 bx6 k_3 m_3 => ?_
  refine stA bx6 (base_add _ _) rfl fun h_4 bx6 k_4 m_4 => ?_
  refine ldA bx6 (base_add _ _) rfl (gBool_intro rfl ?_)
  refine ldA bx6 (base_add _ _) rfl (gSlice_intro rfl ?_)
  exact g _ _ (KeepB.keep (KeepB.keep ((k0.trans k_1).trans k_2) k_3 o6) k_4 o6) ⟨_, _, rfl, ⟨_, _, rfl, ((r_24_0.tame (m_3.trans m_4)).from (k0.trans k_1).le)⟩, ⟨rfl, i_24_1⟩⟩
def D3.v (x0 : Int) (b6_0 : Bool) (xs6_1 : List Nat) (b8_0 : Bool) (X8_1 : Nat) (b9_0 : Bool) (X9_1 : Nat) : ((Bool × List Nat) × Int) :=
  bif (((cmpZ (di (b9_0, X9_1)) 0)) == (0 : Int)) then
    ((false, ([] : List Nat)), (4 : Int))
  else
    D4.v x0 b6_0 xs6_1 b8_0 X8_1 b9_0 X9_1
theorem D3.hv {R : Rt} {h0 h : Hp} (k0 : Keep h0 h) {x0 : Int} (i0 : In .i64 x0) (rl0 : 3 ≤ x0) (rh0 : x0 ≤ 6) {b6_0 : Bool} {a6_1 : Option Addr} {c6_1 : Nat} {xs6_1 : List Nat} (r6_1 : GotE eU64 h0 h a6_1 c6_1 xs6_1) {B6 : Nat} (bx6 : BlkV h B6 [.bool b6_0, .slice a6_1 xs6_1.length c6_1]) (o6 : h0.size ≤ B6) {b8_0 : Bool} {a8_1 : Option Addr} {c8_1 : Nat} {X8_1 : Nat} (r8_1 : GotE eU32 h0 h a8_1 c8_1 (D.digs X8_1)) (w8_1 : (D.digs X8_1).length ≤ 20000) {B8 : Nat} (bx8 : BlkV h B8 [.bool b8_0, .slice a8_1 (D.digs X8_1).length c8_1]) (o8 : h0.size ≤ B8) {b9_0 : Bool} {a9_1 : Option Addr} {c9_1 : Nat} {X9_1 : Nat} (r9_1 : GotE eU32 h0 h a9_1 c9_1 (D.digs X9_1)) (w9_1 : (D.digs X9_1).length ≤ 20000) {B9 : Nat} (bx9 : BlkV h B9 [.bool b9_0, .slice a9_1 (D.digs X9_1).length c9_1]) (o9 : h0.size ≤ B9) (d6q8 : B6 ≠ B8) (d6q9 : B6 ≠ B9) (d8q9 : B8 ≠ B9) (g : Post (s2 sZW (sI .i64)) h0 R (D3.v x0 b6_0 xs6_1 b8_0 X8_1 b9_0 X9_1)) : D3.t R x0 (⟨B6, 0, none⟩ : Addr) (⟨B8, 0, none⟩ : Addr) (⟨B9, 0, none⟩ : Addr) h := by
  have lt6 := bx6.lt
  have lt8 := bx8.lt
  have lt9 := bx9.lt
  have w_z : (D.digs 0).length = 0 := by simp [D.digs_zero]
  unfold D3.v at g
  unfold D3.t
  refine c_dec (fun _ => ?_) fun q => absurd (by omega) q
  refine ldA bx9 (base_add _ _) rfl (gBool_intro rfl ?_)
  refine ldA bx9 (base_add _ _) rfl (gSlice_intro rfl ?_)
  refine hc_intro (gnomonref04_Sign.hs r9_1.rd rfl) fun v h_1 ⟨k_1, s⟩ => ?_
  obtain ⟨rfl, i_12⟩ := s
  refine gInt_intro rfl (?_)
  have m_1 := k_1.tame
  refine lift_eq g (fun q_13 g => ?_) (fun q_13 g => ?_)
  · have bx6 := (bx6.keep k_1)
    refine stA bx6 (base_add _ _) rfl fun h_2 bx6 k_2 m_2 => ?_
    refine stA bx6 (base_add _ _) rfl fun h_3 bx6 k_3 m_3 => ?_
    refine ldA bx6 (base_add _ _) rfl (gBool_intro rfl ?_)
    refine ldA bx6 (base_add _ _) rfl (gSlice_intro rfl ?_)
    exact g _ _ (KeepB.keep (KeepB.keep (k0.trans k_1) k_2 o6) k_3 o6) ⟨_, _, rfl, ⟨_, _, rfl, (GotE.nil _ _)⟩, ⟨rfl, (show In .i64 (4 : Int) by decide)⟩⟩
  have bx6 := (bx6.keep k_1)
  have bx8 := (bx8.keep k_1)
  have bx9 := (bx9.keep k_1)
  exact D4.hv (k0.trans k_1) i0 (by first | assumption | decide | omega) (by first | assumption | decide | omega) (r6_1.tame (m_1)) bx6 o6 (r8_1.tame (m_1)) (by first | assumption | decide | omega) bx8 o8 (r9_1.tame (m_1)) (by first | assumption | decide | omega) bx9 o9 d6q8 d6q9 d8q9 g
def D2.v (x0 : Int) (b4_0 : Bool) (xs4_1 : List Nat) (b5_0 : Bool) (xs5_1 : List Nat) (b6_0 : Bool) (xs6_1 : List Nat) : ((Bool × List Nat) × Int) :=
  letV (dz (zi (b4_0, xs4_1))) fun p_8 =>
  letV (dz (zi (b5_0, xs5_1))) fun p_9 =>
  D3.v x0 b6_0 xs6_1 p_8.1 p_8.2 p_9.1 p_9.2
theorem D2.hv {R : Rt} {h0 h : Hp} (k0 : Keep h0 h) {x0 : Int} (i0 : In .i64 x0) (rl0 : 3 ≤ x0) (rh0 : x0 ≤ 6) {b4_0 : Bool} {a4_1 : Option Addr} {c4_1 : Nat} {xs4_1 : List Nat} (r4_1 : Rd h a4_1 c4_1 xs4_1) {B4 : Nat} (bx4 : BlkV h B4 [.bool b4_0, .slice a4_1 xs4_1.length c4_1]) (o4 : h0.size ≤ B4) {b5_0 : Bool} {a5_1 : Option Addr} {c5_1 : Nat} {xs5_1 : List Nat} (r5_1 : Rd h a5_1 c5_1 xs5_1) {B5 : Nat} (bx5 : BlkV h B5 [.bool b5_0, .slice a5_1 xs5_1.length c5_1]) (o5 : h0.size ≤ B5) {b6_0 : Bool} {a6_1 : Option Addr} {c6_1 : Nat} {xs6_1 : List Nat} (r6_1 : GotE eU64 h0 h a6_1 c6_1 xs6_1) {B6 : Nat} (bx6 : BlkV h B6 [.bool b6_0, .slice a6_1 xs6_1.length c6_1]) (o6 : h0.size ≤ B6) (d4q5 : B4 ≠ B5) (d4q6 : B4 ≠ B6) (d5q6 : B5 ≠ B6) (v4 : xs4_1.length ≤ 8192) (v5 : xs5_1.length ≤ 8192) (g : Post (s2 sZW (sI .i64)) h0 R (D2.v x0 b4_0 xs4_1 b5_0 xs5_1 b6_0 xs6_1)) : D2.t R x0 (⟨B4, 0, none⟩ : Addr) (⟨B5, 0, none⟩ : Addr) (⟨B6, 0, none⟩ : Addr) h := by
  have lt4 := bx4.lt
  have lt5 := bx5.lt
  have lt6 := bx6.lt
  have w_z : (D.digs 0).length = 0 := by simp [D.digs_zero]
  unfold D2.v at g
  unfold D2.t
  refine ⟨blkLt rfl (lt4), ?_⟩
  refine ldA bx4 (base_add _ _) rfl (gBool_intro rfl ?_)
  refine ldA bx4 (base_add _ _) rfl (gSlice_intro rfl ?_)
  refine ⟨blkLt rfl (lt5), ?_⟩
  refine ldA bx5 (base_add _ _) rfl (gBool_intro rfl ?_)
  refine ldA bx5 (base_add _ _) rfl (gSlice_intro rfl ?_)
  refine ⟨?_, ?_, ?_⟩
  · refine hc_intro (gnomonref04_From.hs r4_1 rfl) fun v h_1 ⟨k_1, s⟩ => ?_
    obtain ⟨p_8, hp_8⟩ : ∃ p, p = dz (zi (b4_0, xs4_1)) := ⟨_, rfl⟩
    rw [← hp_8] at s
    replace g := lift_let2 hp_8 g
    have w_8 := bzFrom b4_0 (r4_1).words
    rw [← hp_8] at w_8
    obtain ⟨a_8, c_8, rfl, r_8⟩ := s
    refine gAgg_intro rfl (uncons_intro (gBool_intro rfl (uncons_intro (gSlice_intro rfl (unnil_intro (?_))))))
    have m_1 := k_1.tame
    refine ⟨k_1.preLe (Nat.le_refl _), ?_⟩
    refine ⟨?_, ?_, ?_⟩
    · refine hc_intro (gnomonref04_From.hs (r5_1.tame (m_1)) rfl) fun v h_2 ⟨k_2, s⟩ => ?_
      obtain ⟨p_9, hp_9⟩ : ∃ p, p = dz (zi (b5_0, xs5_1)) := ⟨_, rfl⟩
      rw [← hp_9] at s
      replace g := lift_let2 hp_9 g
      have w_9 := bzFrom b5_0 ((r5_1.tame (m_1))).words
      rw [← hp_9] at w_9
      obtain ⟨a_9, c_9, rfl, r_9⟩ := s
      refine gAgg_intro rfl (uncons_intro (gBool_intro rfl (uncons_intro (gSlice_intro rfl (unnil_intro (?_))))))
      have m_2 := k_2.tame
      refine ⟨k_2.preLe (m_1).le, ?_⟩
      refine ⟨?_, ?_⟩
      · refine boxV fun h_3 bx_10 k_3 => ?_
        have bx_10 : BlkV h_3 (h_2.size) [.bool false, .slice none (D.digs 0).length 0] := by rw [D.digs_zero]; exact bx_10
        have o_10 := ((k0.trans k_1).trans k_2).le
        have lt_10 := bx_10.lt
        have m_3 := k_3.tame
        refine ⟨k_3.preLe (m_1.trans m_2).le, ?_⟩
        refine boxV fun h_4 bx_11 k_4 => ?_
        have bx_11 : BlkV h_4 (h_3.size) [.bool false, .slice none (D.digs 0).length 0] := by rw [D.digs_zero]; exact bx_11
        have o_11 := (((k0.trans k_1).trans k_2).trans k_3).le
        have lt_11 := bx_11.lt
        have m_4 := k_4.tame
        refine ⟨k_4.preLe (m_1.trans (m_2.trans m_3)).le, ?_⟩
        have bx_10 := (bx_10.keep k_4)
        refine stA bx_10 (base_add _ _) rfl fun h_5 bx_10 k_5 m_5 => ?_
        refine stA bx_10 (base_add _ _) rfl fun h_6 bx_10 k_6 m_6 => ?_
        have bx_11 := ((bx_11.keepB (Ne.symm (Nat.ne_of_lt lt_10)) k_5).keepB (Ne.symm (Nat.ne_of_lt lt_10)) k_6)
        refine stA bx_11 (base_add _ _) rfl fun h_7 bx_11 k_7 m_7 => ?_
        refine stA bx_11 (base_add _ _) rfl fun h_8 bx_11 k_8 m_8 => ?_
        have bx6 := ((((((((bx6.keep k_1).keep k_2).keep k_3).keep k_4).keepB (Nat.ne_of_lt ((m_1.trans m_2).lt lt6)) k_5).keepB (Nat.ne_of_lt ((m_1.trans m_2).lt lt6)) k_6).keepB (Nat.ne_of_lt ((m_1.trans (m_2.trans m_3)).lt lt6)) k_7).keepB (Nat.ne_of_lt ((m_1.trans (m_2.trans m_3)).lt lt6)) k_8)
        have bx_10 := ((bx_10.keepB (Nat.ne_of_lt lt_10) k_7).keepB (Nat.ne_of_lt lt_10) k_8)
        exact D3.hv (KeepB.keep (KeepB.keep (KeepB.keep (KeepB.keep ((((k0.trans k_1).trans k_2).trans k_3).trans k_4) k_5 o_10) k_6 o_10) k_7 o_11) k_8 o_11) i0 (by first | assumption | decide | omega) (by first | assumption | decide | omega) (r6_1.tame (m_1.trans (m_2.trans (m_3.trans (m_4.trans (m_5.trans (m_6.trans (m_7.trans m_8)))))))) bx6 o6 ((r_8.tame (m_2.trans (m_3.trans (m_4.trans (m_5.trans (m_6.trans (m_7.trans m_8))))))).from k0.le) (by first | assumption | decide | omega) bx_10 o_10 ((r_9.tame (m_3.trans (m_4.trans (m_5.trans (m_6.trans (m_7.trans m_8)))))).from (k0.trans k_1).le) (by first | assumption | decide | omega) bx_11 o_11 (Nat.ne_of_lt ((m_1.trans m_2).lt lt6)) (Nat.ne_of_lt ((m_1.trans (m_2.trans m_3)).lt lt6)) (Nat.ne_of_lt lt_10) g
      refine boxV fun h_3 bx_25 k_3 => ?_
      have bx_25 : BlkV h_3 (h_2.size) [.bool false, .slice none (D.digs 0).length 0] := by rw [D.digs_zero]; exact bx_25
      have o_25 := ((k0.trans k_1).trans k_2).le
      have lt_25 := bx_25.lt
      have m_3 := k_3.tame
      refine ⟨k_3.preLe (m_1.trans m_2).le, ?_⟩
      refine boxV fun h_4 bx_26 k_4 => ?_
      have bx_26 : BlkV h_4 (h_3.size) [.bool false, .slice none (D.digs 0).length 0] := by rw [D.digs_zero]; exact bx_26
      have o_26 := (((k0.trans k_1).trans k_2).trans k_3).le
      have lt_26 := bx_26.lt
      have m_4 := k_4.tame
      refine ⟨k_4.preLe (m_1.trans (m_2.trans m_3)).le, ?_⟩
      refine stA bx_26 (base_add _ _) rfl fun h_5 bx_26 k_5 m_5 => ?_
      refine stA bx_26 (base_add _ _) rfl fun h_6 bx_26 k_6 m_6 => ?_
      have bx_25 := (((bx_25.keep k_4).keepB (Nat.ne_of_lt lt_25) k_5).keepB (Nat.ne_of_lt lt_25) k_6)
      refine stA bx_25 (base_add _ _) rfl fun h_7 bx_25 k_7 m_7 => ?_
      refine stA bx_25 (base_add _ _) rfl fun h_8 bx_25 k_8 m_8 => ?_
      have bx6 := ((((((((bx6.keep k_1).keep k_2).keep k_3).keep k_4).keepB (Nat.ne_of_lt ((m_1.trans (m_2.trans m_3)).lt lt6)) k_5).keepB (Nat.ne_of_lt ((m_1.trans (m_2.trans m_3)).lt lt6)) k_6).keepB (Nat.ne_of_lt ((m_1.trans m_2).lt lt6)) k_7).keepB (Nat.ne_of_lt ((m_1.trans m_2).lt lt6)) k_8)
      have bx_26 := ((bx_26.keepB (Ne.symm (Nat.ne_of_lt lt_25)) k_7).keepB (Ne.symm (Nat.ne_of_lt lt_25)) k_8)
      exact D3.hv (KeepB.keep (KeepB.keep (KeepB.keep (KeepB.keep ((((k0.trans k_1).trans k_2).trans k_3).trans k_4) k_5 o_26) k_6 o_26) k_7 o_25) k_8 o_25) i0 (by first | assumption | decide | omega) (by first | assumption | decide | omega) (r6_1.tame (m_1.trans (m_2.trans (m_3.trans (m_4.trans (m_5.trans (m_6.trans (m_7.trans m_8)))))))) bx6 o6 ((r_8.tame (m_2.trans (m_3.trans (m_4.trans (m_5.trans (m_6.trans (m_7.trans m_8))))))).from k0.le) (by first | assumption | decide | omega) bx_26 o_26 ((r_9.tame (m_3.trans (m_4.trans (m_5.trans (m_6.trans (m_7.trans m_8)))))).from (k0.trans k_1).le) (by first | assumption | decide | omega) bx_25 o_25 (Nat.ne_of_lt ((m_1.trans (m_2.trans m_3)).lt lt6)) (Nat.ne_of_lt ((m_1.trans m_2).lt lt6)) (Ne.symm (Nat.ne_of_lt lt_25)) g
    · refine boxV fun h_2 bx_27 k_2 => ?_
      have bx_27 : BlkV h_2 (h_1.size) [.bool false, .slice none (D.digs 0).length 0] := by rw [D.digs_zero]; exact bx_27
      have o_27 := (k0.trans k_1).le
      have lt_27 := bx_27.lt
      have m_2 := k_2.tame
      refine ⟨k_2.preLe (m_1).le, ?_⟩
      refine ⟨?_, ?_⟩
      · refine hc_intro (gnomonref04_From.hs (r5_1.tame (m_1.trans m_2)) rfl) fun v h_3 ⟨k_3, s⟩ => ?_
        obtain ⟨p_28, hp_28⟩ : ∃ p, p = dz (zi (b5_0, xs5_1)) := ⟨_, rfl⟩
        rw [← hp_28] at s
        replace g := lift_let2 hp_28 g
        have w_28 := bzFrom b5_0 ((r5_1.tame (m_1.trans m_2))).words
        rw [← hp_28] at w_28
        obtain ⟨a_28, c_28, rfl, r_28⟩ := s
        refine gAgg_intro rfl (uncons_intro (gBool_intro rfl (uncons_intro (gSlice_intro rfl (unnil_intro (?_))))))
        have m_3 := k_3.tame
        refine ⟨k_3.preLe (m_1.trans m_2).le, ?_⟩
        refine boxV fun h_4 bx_29 k_4 => ?_
        have bx_29 : BlkV h_4 (h_3.size) [.bool false, .slice none (D.digs 0).length 0] := by rw [D.digs_zero]; exact bx_29
        have o_29 := (((k0.trans k_1).trans k_2).trans k_3).le
        have lt_29 := bx_29.lt
        have m_4 := k_4.tame
        refine ⟨k_4.preLe (m_1.trans (m_2.trans m_3)).le, ?_⟩
        have bx_27 := ((bx_27.keep k_3).keep k_4)
        refine stA bx_27 (base_add _ _) rfl fun h_5 bx_27 k_5 m_5 => ?_
        refine stA bx_27 (base_add _ _) rfl fun h_6 bx_27 k_6 m_6 => ?_
        have bx_29 := ((bx_29.keepB (Ne.symm (Nat.ne_of_lt ((m_3).lt lt_27))) k_5).keepB (Ne.symm (Nat.ne_of_lt ((m_3).lt lt_27))) k_6)
        refine stA bx_29 (base_add _ _) rfl fun h_7 bx_29 k_7 m_7 => ?_
        refine stA bx_29 (base_add _ _) rfl fun h_8 bx_29 k_8 m_8 => ?_
        have bx6 := ((((((((bx6.keep k_1).keep k_2).keep k_3).keep k_4).keepB (Nat.ne_of_lt ((m_1).lt lt6)) k_5).keepB (Nat.ne_of_lt ((m_1).lt lt6)) k_6).keepB (Nat.ne_of_lt ((m_1.trans (m_2.trans m_3)).lt lt6)) k_7).keepB (Nat.ne_of_lt ((m_1.trans (m_2.trans m_3)).lt lt6)) k_8)
        have bx_27 := ((bx_27.keepB (Nat.ne_of_lt ((m_3).lt lt_27)) k_7).keepB (Nat.ne_of_lt ((m_3).lt lt_27)) k_8)
        exact D3.hv (KeepB.keep (KeepB.keep (KeepB.keep (KeepB.keep ((((k0.trans k_1).trans k_2).trans k_3).trans k_4) k_5 o_27) k_6 o_27) k_7 o_29) k_8 o_29) i0 (by first | assumption | decide | omega) (by first | assumption | decide | omega) (r6_1.tame (m_1.trans (m_2.trans (m_3.trans (m_4.trans (m_5.trans (m_6.trans (m_7.trans m_8)))))))) bx6 o6 ((r_8.tame (m_2.trans (m_3.trans (m_4.trans (m_5.trans (m_6.trans (m_7.trans m_8))))))).from k0.le) (by first | assumption | decide | omega) bx_27 o_27 ((r_28.tame (m_4.trans (m_5.trans (m_6.trans (m_7.trans m_8))))).from ((k0.trans k_1).trans k_2).le) (by first | assumption | decide | omega) bx_29 o_29 (Nat.ne_of_lt ((m_1).lt lt6)) (Nat.ne_of_lt ((m_1.trans (m_2.trans m_3)).lt lt6)) (Nat.ne_of_lt ((m_3).lt lt_27)) g
      refine boxV fun h_3 bx_30 k_3 => ?_
      have bx_30 : BlkV h_3 (h_2.size) [.bool false, .slice none (D.digs 0).length 0] := by rw [D.digs_zero]; exact bx_30
      have o_30 := ((k0.trans k_1).trans k_2).le
      have lt_30 := bx_30.lt
      have m_3 := k_3.tame
      refine ⟨k_3.preLe (m_1.trans m_2).le, ?_⟩
      refine hc_intro (gnomonref04_From.hs (r5_1.tame (m_1.trans (m_2.trans m_3))) rfl) fun v h_4 ⟨k_4, s⟩ => ?_
      obtain ⟨p_31, hp_31⟩ : ∃ p, p = dz (zi (b5_0, xs5_1)) := ⟨_, rfl⟩
      rw [← hp_31] at s
      replace g := lift_let2 hp_31 g
      have w_31 := bzFrom b5_0 ((r5_1.tame (m_1.trans (m_2.trans m_3)))).words
      rw [← hp_31] at w_31
      obtain ⟨a_31, c_31, rfl, r_31⟩ := s
      refine gAgg_intro rfl (uncons_intro (gBool_intro rfl (uncons_intro (gSlice_intro rfl (unnil_intro (?_))))))
      have m_4 := k_4.tame
      refine ⟨k_4.preLe (m_1.trans (m_2.trans m_3)).le, ?_⟩
      have bx_27 := ((bx_27.keep k_3).keep k_4)
      refine stA bx_27 (base_add _ _) rfl fun h_5 bx_27 k_5 m_5 => ?_
      refine stA bx_27 (base_add _ _) rfl fun h_6 bx_27 k_6 m_6 => ?_
      have bx_30 := (((bx_30.keep k_4).keepB (Ne.symm (Nat.ne_of_lt lt_27)) k_5).keepB (Ne.symm (Nat.ne_of_lt lt_27)) k_6)
      refine stA bx_30 (base_add _ _) rfl fun h_7 bx_30 k_7 m_7 => ?_
      refine stA bx_30 (base_add _ _) rfl fun h_8 bx_30 k_8 m_8 => ?_
      have bx6 := ((((((((bx6.keep k_1).keep k_2).keep k_3).keep k_4).keepB (Nat.ne_of_lt ((m_1).lt lt6)) k_5).keepB (Nat.ne_of_lt ((m_1).lt lt6)) k_6).keepB (Nat.ne_of_lt ((m_1.trans m_2).lt lt6)) k_7).keepB (Nat.ne_of_lt ((m_1.trans m_2).lt lt6)) k_8)
      have bx_27 := ((bx_27.keepB (Nat.ne_of_lt lt_27) k_7).keepB (Nat.ne_of_lt lt_27) k_8)
      exact D3.hv (KeepB.keep (KeepB.keep (KeepB.keep (KeepB.keep ((((k0.trans k_1).trans k_2).trans k_3).trans k_4) k_5 o_27) k_6 o_27) k_7 o_30) k_8 o_30) i0 (by first | assumption | decide | omega) (by first | assumption | decide | omega) (r6_1.tame (m_1.trans (m_2.trans (m_3.trans (m_4.trans (m_5.trans (m_6.trans (m_7.trans m_8)))))))) bx6 o6 ((r_8.tame (m_2.trans (m_3.trans (m_4.trans (m_5.trans (m_6.trans (m_7.trans m_8))))))).from k0.le) (by first | assumption | decide | omega) bx_27 o_27 ((r_31.tame (m_5.trans (m_6.trans (m_7.trans m_8)))).from (((k0.trans k_1).trans k_2).trans k_3).le) (by first | assumption | decide | omega) bx_30 o_30 (Nat.ne_of_lt ((m_1).lt lt6)) (Nat.ne_of_lt ((m_1.trans m_2).lt lt6)) (Nat.ne_of_lt lt_27) g
    refine boxV fun h_2 bx_32 k_2 => ?_
    have bx_32 : BlkV h_2 (h_1.size) [.bool false, .slice none (D.digs 0).length 0] := by rw [D.digs_zero]; exact bx_32
    have o_32 := (k0.trans k_1).le
    have lt_32 := bx_32.lt
    have m_2 := k_2.tame
    refine ⟨k_2.preLe (m_1).le, ?_⟩
    refine ⟨?_, ?_⟩
    · refine hc_intro (gnomonref04_From.hs (r5_1.tame (m_1.trans m_2)) rfl) fun v h_3 ⟨k_3, s⟩ => ?_
      obtain ⟨p_33, hp_33⟩ : ∃ p, p = dz (zi (b5_0, xs5_1)) := ⟨_, rfl⟩
      rw [← hp_33] at s
      replace g := lift_let2 hp_33 g
      have w_33 := bzFrom b5_0 ((r5_1.tame (m_1.trans m_2))).words
      rw [← hp_33] at w_33
      obtain ⟨a_33, c_33, rfl, r_33⟩ := s
      refine gAgg_intro rfl (uncons_intro (gBool_intro rfl (uncons_intro (gSlice_intro rfl (unnil_intro (?_))))))
      have m_3 := k_3.tame
      refine ⟨k_3.preLe (m_1.trans m_2).le, ?_⟩
      refine boxV fun h_4 bx_34 k_4 => ?_
      have bx_34 : BlkV h_4 (h_3.size) [.bool false, .slice none (D.digs 0).length 0] := by rw [D.digs_zero]; exact bx_34
      have o_34 := (((k0.trans k_1).trans k_2).trans k_3).le
      have lt_34 := bx_34.lt
      have m_4 := k_4.tame
      refine ⟨k_4.preLe (m_1.trans (m_2.trans m_3)).le, ?_⟩
      refine stA bx_34 (base_add _ _) rfl fun h_5 bx_34 k_5 m_5 => ?_
      refine stA bx_34 (base_add _ _) rfl fun h_6 bx_34 k_6 m_6 => ?_
      have bx_32 := ((((bx_32.keep k_3).keep k_4).keepB (Nat.ne_of_lt ((m_3).lt lt_32)) k_5).keepB (Nat.ne_of_lt ((m_3).lt lt_32)) k_6)
      refine stA bx_32 (base_add _ _) rfl fun h_7 bx_32 k_7 m_7 => ?_
      refine stA bx_32 (base_add _ _) rfl fun h_8 bx_32 k_8 m_8 => ?_
      have bx6 := ((((((((bx6.keep k_1).keep k_2).keep k_3).keep k_4).keepB (Nat.ne_of_lt ((m_1.trans (m_2.trans m_3)).lt lt6)) k_5).keepB (Nat.ne_of_lt ((m_1.trans (m_2.trans m_3)).lt lt6)) k_6).keepB (Nat.ne_of_lt ((m_1).lt lt6)) k_7).keepB (Nat.ne_of_lt ((m_1).lt lt6)) k_8)
      have bx_34 := ((bx_34.keepB (Ne.symm (Nat.ne_of_lt ((m_3).lt lt_32))) k_7).keepB (Ne.symm (Nat.ne_of_lt ((m_3).lt lt_32))) k_8)
      exact D3.hv (KeepB.keep (KeepB.keep (KeepB.keep (KeepB.keep ((((k0.trans k_1).trans k_2).trans k_3).trans k_4) k_5 o_34) k_6 o_34) k_7 o_32) k_8 o_32) i0 (by first | assumption | decide | omega) (by first | assumption | decide | omega) (r6_1.tame (m_1.trans (m_2.trans (m_3.trans (m_4.trans (m_5.trans (m_6.trans (m_7.trans m_8)))))))) bx6 o6 ((r_8.tame (m_2.trans (m_3.trans (m_4.trans (m_5.trans (m_6.trans (m_7.trans m_8))))))).from k0.le) (by first | assumption | decide | omega) bx_34 o_34 ((r_33.tame (m_4.trans (m_5.trans (m_6.trans (m_7.trans m_8))))).from ((k0.trans k_1).trans k_2).le) (by first | assumption | decide | omega) bx_32 o_32 (Nat.ne_of_lt ((m_1.trans (m_2.trans m_3)).lt lt6)) (Nat.ne_of_lt ((m_1).lt lt6)) (Ne.symm (Nat.ne_of_lt ((m_3).lt lt_32))) g
    refine boxV fun h_3 bx_35 k_3 => ?_
    have bx_35 : BlkV h_3 (h_2.size) [.bool false, .slice none (D.digs 0).length 0] := by rw [D.digs_zero]; exact bx_35
    have o_35 := ((k0.trans k_1).trans k_2).le
    have lt_35 := bx_35.lt
    have m_3 := k_3.tame
    refine ⟨k_3.preLe (m_1.trans m_2).le, ?_⟩
    refine hc_intro (gnomonref04_From.hs (r5_1.tame (m_1.trans (m_2.trans m_3))) rfl) fun v h_4 ⟨k_4, s⟩ => ?_
    obtain ⟨p_36, hp_36⟩ : ∃ p, p = dz (zi (b5_0, xs5_1)) := ⟨_, rfl⟩
    rw [← hp_36] at s
    replace g := lift_let2 hp_36 g
    have w_36 := bzFrom b5_0 ((r5_1.tame (m_1.trans (m_2.trans m_3)))).words
    rw [← hp_36] at w_36
    obtain ⟨a_36, c_36, rfl, r_36⟩ := s
    refine gAgg_intro rfl (uncons_intro (gBool_intro rfl (uncons_intro (gSlice_intro rfl (unnil_intro (?_))))))
    have m_4 := k_4.tame
    refine ⟨k_4.preLe (m_1.trans (m_2.trans m_3)).le, ?_⟩
    have bx_35 := (bx_35.keep k_4)
    refine stA bx_35 (base_add _ _) rfl fun h_5 bx_35 k_5 m_5 => ?_
    refine stA bx_35 (base_add _ _) rfl fun h_6 bx_35 k_6 m_6 => ?_
    have bx_32 := ((((bx_32.keep k_3).keep k_4).keepB (Nat.ne_of_lt lt_32) k_5).keepB (Nat.ne_of_lt lt_32) k_6)
    refine stA bx_32 (base_add _ _) rfl fun h_7 bx_32 k_7 m_7 => ?_
    refine stA bx_32 (base_add _ _) rfl fun h_8 bx_32 k_8 m_8 => ?_
    have bx6 := ((((((((bx6.keep k_1).keep k_2).keep k_3).keep k_4).keepB (Nat.ne_of_lt ((m_1.trans m_2).lt lt6)) k_5).keepB (Nat.ne_of_lt ((m_1.trans m_2).lt lt6)) k_6).keepB (Nat.ne_of_lt ((m_1).lt lt6)) k_7).keepB (Nat.ne_of_lt ((m_1).lt lt6)) k_8)
    have bx_35 := ((bx_35.keepB (Ne.symm (Nat.ne_of_lt lt_32)) k_7).keepB (Ne.symm (Nat.ne_of_lt lt_32)) k_8)
    exact D3.hv (KeepB.keep (KeepB.keep (KeepB.keep (KeepB.keep ((((k0.trans k_1).trans k_2).trans k_3).trans k_4) k_5 o_35) k_6 o_35) k_7 o_32) k_8 o_32) i0 (by first | assumption | decide | omega) (by first | assumption | decide | omega) (r6_1.tame (m_1.trans (m_2.trans (m_3.trans (m_4.trans (m_5.trans (m_6.trans (m_7.trans m_8)))))))) bx6 o6 ((r_8.tame (m_2.trans (m_3.trans (m_4.trans (m_5.trans (m_6.trans (m_7.trans m_8))))))).from k0.le) (by first | assumption | decide | omega) bx_35 o_35 ((r_36.tame (m_5.trans (m_6.trans (m_7.trans m_8)))).from (((k0.trans k_1).trans k_2).trans k_3).le) (by first | assumption | decide | omega) bx_32 o_32 (Nat.ne_of_lt ((m_1.trans m_2).lt lt6)) (Nat.ne_of_lt ((m_1).lt lt6)) (Ne.symm (Nat.ne_of_lt lt_32)) g
  · refine boxV fun h_1 bx_37 k_1 => ?_
    have bx_37 : BlkV h_1 (h.size) [.bool false, .slice none (D.digs 0).length 0] := by rw [D.digs_zero]; exact bx_37
    have o_37 := k0.le
    have lt_37 := bx_37.lt
    have m_1 := k_1.tame
    refine ⟨k_1.preLe (Nat.le_refl _), ?_⟩
    refine ⟨?_, ?_⟩
    · refine hc_intro (gnomonref04_From.hs (r4_1.tame (m_1)) rfl) fun v h_2 ⟨k_2, s⟩ => ?_
      obtain ⟨p_38, hp_38⟩ : ∃ p, p = dz (zi (b4_0, xs4_1)) := ⟨_, rfl⟩
      rw [← hp_38] at s
      replace g := lift_let2 hp_38 g
      have w_38 := bzFrom b4_0 ((r4_1.tame (m_1))).words
      rw [← hp_38] at w_38
      obtain ⟨a_38, c_38, rfl, r_38⟩ := s
      refine gAgg_intro rfl (uncons_intro (gBool_intro rfl (uncons_intro (gSlice_intro rfl (unnil_intro (?_))))))
      have m_2 := k_2.tame
      refine ⟨k_2.preLe (m_1).le, ?_⟩
      refine ⟨?_, ?_⟩
      · refine hc_intro (gnomonref04_From.hs (r5_1.tame (m_1.trans m_2)) rfl) fun v h_3 ⟨k_3, s⟩ => ?_
        obtain ⟨p_39, hp_39⟩ : ∃ p, p = dz (zi (b5_0, xs5_1)) := ⟨_, rfl⟩
        rw [← hp_39] at s
        replace g := lift_let2 hp_39 g
        have w_39 := bzFrom b5_0 ((r5_1.tame (m_1.trans m_2))).words
        rw [← hp_39] at w_39
        obtain ⟨a_39, c_39, rfl, r_39⟩ := s
        refine gAgg_intro rfl (uncons_intro (gBool_intro rfl (uncons_intro (gSlice_intro rfl (unnil_intro (?_))))))
        have m_3 := k_3.tame
        refine ⟨k_3.preLe (m_1.trans m_2).le, ?_⟩
        refine boxV fun h_4 bx_40 k_4 => ?_
        have bx_40 : BlkV h_4 (h_3.size) [.bool false, .slice none (D.digs 0).length 0] := by rw [D.digs_zero]; exact bx_40
        have o_40 := (((k0.trans k_1).trans k_2).trans k_3).le
        have lt_40 := bx_40.lt
        have m_4 := k_4.tame
        refine ⟨k_4.preLe (m_1.trans (m_2.trans m_3)).le, ?_⟩
        have bx_37 := (((bx_37.keep k_2).keep k_3).keep k_4)
        refine stA bx_37 (base_add _ _) rfl fun h_5 bx_37 k_5 m_5 => ?_
        refine stA bx_37 (base_add _ _) rfl fun h_6 bx_37 k_6 m_6 => ?_
        have bx_40 := ((bx_40.keepB (Ne.symm (Nat.ne_of_lt ((m_2.trans m_3).lt lt_37))) k_5).keepB (Ne.symm (Nat.ne_of_lt ((m_2.trans m_3).lt lt_37))) k_6)
        refine stA bx_40 (base_add _ _) rfl fun h_7 bx_40 k_7 m_7 => ?_
        refine stA bx_40 (base_add _ _) rfl fun h_8 bx_40 k_8 m_8 => ?_
        have bx6 := ((((((((bx6.keep k_1).keep k_2).keep k_3).keep k_4).keepB (Nat.ne_of_lt lt6) k_5).keepB (Nat.ne_of_lt lt6) k_6).keepB (Nat.ne_of_lt ((m_1.trans (m_2.trans m_3)).lt lt6)) k_7).keepB (Nat.ne_of_lt ((m_1.trans (m_2.trans m_3)).lt lt6)) k_8)
        have bx_37 := ((bx_37.keepB (Nat.ne_of_lt ((m_2.trans m_3).lt lt_37)) k_7).keepB (Nat.ne_of_lt ((m_2.trans m_3).lt lt_37)) k_8)
        exact D3.hv (KeepB.keep (KeepB.keep (KeepB.keep (KeepB.keep ((((k0.trans k_1).trans k_2).trans k_3).trans k_4) k_5 o_37) k_6 o_37) k_7 o_40) k_8 o_40) i0 (by first | assumption | decide | omega) (by first | assumption | decide | omega) (r6_1.tame (m_1.trans (m_2.trans (m_3.trans (m_4.trans (m_5.trans (m_6.trans (m_7.trans m_8)))))))) bx6 o6 ((r_38.tame (m_3.trans (m_4.trans (m_5.trans (m_6.trans (m_7.trans m_8)))))).from (k0.trans k_1).le) (by first | assumption | decide | omega) bx_37 o_37 ((r_39.tame (m_4.trans (m_5.trans (m_6.trans (m_7.trans m_8))))).from ((k0.trans k_1).trans k_2).le) (by first | assumption | decide | omega) bx_40 o_40 (Nat.ne_of_lt lt6) (Nat.ne_of_lt ((m_1.trans (m_2.trans m_3)).lt lt6)) (Nat.ne_of_lt ((m_2.trans m_3).lt lt_37)) g
      refine boxV fun h_3 bx_41 k_3 => ?_
      have bx_41 : BlkV h_3 (h_2.size) [.bool false, .slice none (D.digs 0).length 0] := by rw [D.digs_zero]; exact bx_41
      have o_41 := ((k0.trans k_1).trans k_2).le
      have lt_41 := bx_41.lt
      have m_3 := k_3.tame
      refine ⟨k_3.preLe (m_1.trans m_2).le, ?_⟩
      refine hc_intro (gnomonref04_From.hs (r5_1.tame (m_1.trans (m_2.trans m_3))) rfl) fun v h_4 ⟨k_4, s⟩ => ?_
      obtain ⟨p_42, hp_42⟩ : ∃ p, p = dz (zi (b5_0, xs5_1)) := ⟨_, rfl⟩
      rw [← hp_42] at s
      replace g := lift_let2 hp_42 g
      have w_42 := bzFrom b5_0 ((r5_1.tame (m_1.trans (m_2.trans m_3)))).words
      rw [← hp_42] at w_42
      obtain ⟨a_42, c_42, rfl, r_42⟩ := s
      refine gAgg_intro rfl (uncons_intro (gBool_intro rfl (uncons_intro (gSlice_intro rfl (unnil_intro (?_))))))
      have m_4 := k_4.tame
      refine ⟨k_4.preLe (m_1.trans (m_2.trans m_3)).le, ?_⟩
      have bx_37 := (((bx_37.keep k_2).keep k_3).keep k_4)
      refine stA bx_37 (base_add _ _) rfl fun h_5 bx_37 k_5 m_5 => ?_
      refine stA bx_37 (base_add _ _) rfl fun h_6 bx_37 k_6 m_6 => ?_
      have bx_41 := (((bx_41.keep k_4).keepB (Ne.symm (Nat.ne_of_lt ((m_2).lt lt_37))) k_5).keepB (Ne.symm (Nat.ne_of_lt ((m_2).lt lt_37))) k_6)
      refine stA bx_41 (base_add _ _) rfl fun h_7 bx_41 k_7 m_7 => ?_
      refine stA bx_41 (base_add _ _) rfl fun h_8 bx_41 k_8 m_8 => ?_
      have bx6 := ((((((((bx6.keep k_1).keep k_2).keep k_3).keep k_4).keepB (Nat.ne_of_lt lt6) k_5).keepB (Nat.ne_of_lt lt6) k_6).keepB (Nat.ne_of_lt ((m_1.trans m_2).lt lt6)) k_7).keepB (Nat.ne_of_lt ((m_1.trans m_2).lt lt6)) k_8)
      have bx_37 := ((bx_37.keepB (Nat.ne_of_lt ((m_2).lt lt_37)) k_7).keepB (Nat.ne_of_lt ((m_2).lt lt_37)) k_8)
      exact D3.hv (KeepB.keep (KeepB.keep (KeepB.keep (KeepB.keep ((((k0.trans k_1).trans k_2).trans k_3).trans k_4) k_5 o_37) k_6 o_37) k_7 o_41) k_8 o_41) i0 (by first | assumption | decide | omega) (by first | assumption | decide | omega) (r6_1.tame (m_1.trans (m_2.trans (m_3.trans (m_4.trans (m_5.trans (m_6.trans (m_7.trans m_8)))))))) bx6 o6 ((r_38.tame (m_3.trans (m_4.trans (m_5.trans (m_6.trans (m_7.trans m_8)))))).from (k0.trans k_1).le) (by first | assumption | decide | omega) bx_37 o_37 ((r_42.tame (m_5.trans (m_6.trans (m_7.trans m_8)))).from (((k0.trans k_1).trans k_2).trans k_3).le) (by first | assumption | decide | omega) bx_41 o_41 (Nat.ne_of_lt lt6) (Nat.ne_of_lt ((m_1.trans m_2).lt lt6)) (Nat.ne_of_lt ((m_2).lt lt_37)) g
    refine boxV fun h_2 bx_43 k_2 => ?_
    have bx_43 : BlkV h_2 (h_1.size) [.bool false, .slice none (D.digs 0).length 0] := by rw [D.digs_zero]; exact bx_43
    have o_43 := (k0.trans k_1).le
    have lt_43 := bx_43.lt
    have m_2 := k_2.tame
    refine ⟨k_2.preLe (m_1).le, ?_⟩
    refine hc_intro (gnomonref04_From.hs (r4_1.tame (m_1.trans m_2)) rfl) fun v h_3 ⟨k_3, s⟩ => ?_
    obtain ⟨p_44, hp_44⟩ : ∃ p, p = dz (zi (b4_0, xs4_1)) := ⟨_, rfl⟩
    rw [← hp_44] at s
    replace g := lift_let2 hp_44 g
    have w_44 := bzFrom b4_0 ((r4_1.tame (m_1.trans m_2))).words
    rw [← hp_44] at w_44
    obtain ⟨a_44, c_44, rfl, r_44⟩ := s
    refine gAgg_intro rfl (uncons_intro (gBool_intro rfl (uncons_intro (gSlice_intro rfl (unnil_intro (?_))))))
    have m_3 := k_3.tame
    refine ⟨k_3.preLe (m_1.trans m_2).le, ?_⟩
    refine hc_intro (gnomonref04_From.hs (r5_1.tame (m_1.trans (m_2.trans m_3))) rfl) fun v h_4 ⟨k_4, s⟩ => ?_
    obtain ⟨p_45, hp_45⟩ : ∃ p, p = dz (zi (b5_0, xs5_1)) := ⟨_, rfl⟩
    rw [← hp_45] at s
    replace g := lift_let2 hp_45 g
    have w_45 := bzFrom b5_0 ((r5_1.tame (m_1.trans (m_2.trans m_3)))).words
    rw [← hp_45] at w_45
    obtain ⟨a_45, c_45, rfl, r_45⟩ := s
    refine gAgg_intro rfl (uncons_intro (gBool_intro rfl (uncons_intro (gSlice_intro rfl (unnil_intro (?_))))))
    have m_4 := k_4.tame
    refine ⟨k_4.preLe (m_1.trans (m_2.trans m_3)).le, ?_⟩
    have bx_37 := (((bx_37.keep k_2).keep k_3).keep k_4)
    refine stA bx_37 (base_add _ _) rfl fun h_5 bx_37 k_5 m_5 => ?_
    refine stA bx_37 (base_add _ _) rfl fun h_6 bx_37 k_6 m_6 => ?_
    have bx_43 := ((((bx_43.keep k_3).keep k_4).keepB (Ne.symm (Nat.ne_of_lt lt_37)) k_5).keepB (Ne.symm (Nat.ne_of_lt lt_37)) k_6)
    refine stA bx_43 (base_add _ _) rfl fun h_7 bx_43 k_7 m_7 => ?_
    refine stA bx_43 (base_add _ _) rfl fun h_8 bx_43 k_8 m_8 => ?_
    have bx6 := ((((((((bx6.keep k_1).keep k_2).keep k_3).keep k_4).keepB (Nat.ne_of_lt lt6) k_5).keepB (Nat.ne_of_lt lt6) k_6).keepB (Nat.ne_of_lt ((m_1).lt lt6)) k_7).keepB (Nat.ne_of_lt ((m_1).lt lt6)) k_8)
    have bx_37 := ((bx_37.keepB (Nat.ne_of_lt lt_37) k_7).keepB (Nat.ne_of_lt lt_37) k_8)
    exact D3.hv (KeepB.keep (KeepB.keep (KeepB.keep (KeepB.keep ((((k0.trans k_1).trans k_2).trans k_3).trans k_4) k_5 o_37) k_6 o_37) k_7 o_43) k_8 o_43) i0 (by first | assumption | decide | omega) (by first | assumption | decide | omega) (r6_1.tame (m_1.trans (m_2.trans (m_3.trans (m_4.trans (m_5.trans (m_6.trans (m_7.trans m_8)))))))) bx6 o6 ((r_44.tame (m_4.trans (m_5.trans (m_6.trans (m_7.trans m_8))))).from ((k0.trans k_1).trans k_2).le) (by first | assumption | decide | omega) bx_37 o_37 ((r_45.tame (m_5.trans (m_6.trans (m_7.trans m_8)))).from (((k0.trans k_1).trans k_2).trans k_3).le) (by first | assumption | decide | omega) bx_43 o_43 (Nat.ne_of_lt lt6) (Nat.ne_of_lt ((m_1).lt lt6)) (Nat.ne_of_lt lt_37) g
  refine boxV fun h_1 bx_46 k_1 => ?_
  have bx_46 : BlkV h_1 (h.size) [.bool false, .slice none (D.digs 0).length 0] := by rw [D.digs_zero]; exact bx_46
  have o_46 := k0.le
  have lt_46 := bx_46.lt
  have m_1 := k_1.tame
  refine ⟨k_1.preLe (Nat.le_refl _), ?_⟩
  refine ⟨?_, ?_⟩
  · refine hc_intro (gnomonref04_From.hs (r4_1.tame (m_1)) rfl) fun v h_2 ⟨k_2, s⟩ => ?_
    obtain ⟨p_47, hp_47⟩ : ∃ p, p = dz (zi (b4_0, xs4_1)) := ⟨_, rfl⟩
    rw [← hp_47] at s
    replace g := lift_let2 hp_47 g
    have w_47 := bzFrom b4_0 ((r4_1.tame (m_1))).words
    rw [← hp_47] at w_47
    obtain ⟨a_47, c_47, rfl, r_47⟩ := s
    refine gAgg_intro rfl (uncons_intro (gBool_intro rfl (uncons_intro (gSlice_intro rfl (unnil_intro (?_))))))
    have m_2 := k_2.tame
    refine ⟨k_2.preLe (m_1).le, ?_⟩
    refine ⟨?_, ?_⟩
    · refine hc_intro (gnomonref04_From.hs (r5_1.tame (m_1.trans m_2)) rfl) fun v h_3 ⟨k_3, s⟩ => ?_
      obtain ⟨p_48, hp_48⟩ : ∃ p, p = dz (zi (b5_0, xs5_1)) := ⟨_, rfl⟩
      rw [← hp_48] at s
      replace g := lift_let2 hp_48 g
      have w_48 := bzFrom b5_0 ((r5_1.tame (m_1.trans m_2))).words
      rw [← hp_48] at w_48
      obtain ⟨a_48, c_48, rfl, r_48⟩ := s
      refine gAgg_intro rfl (uncons_intro (gBool_intro rfl (uncons_intro (gSlice_intro rfl (unnil_intro (?_))))))
      have m_3 := k_3.tame
      refine ⟨k_3.preLe (m_1.trans m_2).le, ?_⟩
      refine boxV fun h_4 bx_49 k_4 => ?_
      have bx_49 : BlkV h_4 (h_3.size) [.bool false, .slice none (D.digs 0).length 0] := by rw [D.digs_zero]; exact bx_49
      have o_49 := (((k0.trans k_1).trans k_2).trans k_3).le
      have lt_49 := bx_49.lt
      have m_4 := k_4.tame
      refine ⟨k_4.preLe (m_1.trans (m_2.trans m_3)).le, ?_⟩
      refine stA bx_49 (base_add _ _) rfl fun h_5 bx_49 k_5 m_5 => ?_
      refine stA bx_49 (base_add _ _) rfl fun h_6 bx_49 k_6 m_6 => ?_
      have bx_46 := (((((bx_46.keep k_2).keep k_3).keep k_4).keepB (Nat.ne_of_lt ((m_2.trans m_3).lt lt_46)) k_5).keepB (Nat.ne_of_lt ((m_2.trans m_3).lt lt_46)) k_6)
      refine stA bx_46 (base_add _ _) rfl fun h_7 bx_46 k_7 m_7 => ?_
      refine stA bx_46 (base_add _ _) rfl fun h_8 bx_46 k_8 m_8 => ?_
      have bx6 := ((((((((bx6.keep k_1).keep k_2).keep k_3).keep k_4).keepB (Nat.ne_of_lt ((m_1.trans (m_2.trans m_3)).lt lt6)) k_5).keepB (Nat.ne_of_lt ((m_1.trans (m_2.trans m_3)).lt lt6)) k_6).keepB (Nat.ne_of_lt lt6) k_7).keepB (Nat.ne_of_lt lt6) k_8)
      have bx_49 := ((bx_49.keepB (Ne.symm (Nat.ne_of_lt ((m_2.trans m_3).lt lt_46))) k_7).keepB (Ne.symm (Nat.ne_of_lt ((m_2.trans m_3).lt lt_46))) k_8)
      exact D3.hv (KeepB.keep (KeepB.keep (KeepB.keep (KeepB.keep ((((k0.trans k_1).trans k_2).trans k_3).trans k_4) k_5 o_49) k_6 o_49) k_7 o_46) k_8 o_46) i0 (by first | assumption | decide | omega) (by first | assumption | decide | omega) (r6_1.tame (m_1.trans (m_2.trans (m_3.trans (m_4.trans (m_5.trans (m_6.trans (m_7.trans m_8)))))))) bx6 o6 ((r_47.tame (m_3.trans (m_4.trans (m_5.trans (m_6.trans (m_7.trans m_8)))))).from (k0.trans k_1).le) (by first | assumption | decide | omega) bx_49 o_49 ((r_48.tame (m_4.trans (m_5.trans (m_6.trans (m_7.trans m_8))))).from ((k0.trans k_1).trans k_2).le) (by first | assumption | decide | omega) bx_46 o_46 (Nat.ne_of_lt ((m_1.trans (m_2.trans m_3)).lt lt6)) (Nat.ne_of_lt lt6) (Ne.symm (Nat.ne_of_lt ((m_2.trans m_3).lt lt_46))) g
    refine boxV fun h_3 bx_50 k_3 => ?_
    have bx_50 : BlkV h_3 (h_2.size) [.bool false, .slice none (D.digs 0).length 0] := by rw [D.digs_zero]; exact bx_50
    have o_50 := ((k0.trans k_1).trans k_2).le
    have lt_50 := bx_50.lt
    have m_3 := k_3.tame
    refine ⟨k_3.preLe (m_1.trans m_2).le, ?_⟩
    refine hc_intro (gnomonref04_From.hs (r5_1.tame (m_1.trans (m_2.trans m_3))) rfl) fun v h_4 ⟨k_4, s⟩ => ?_
    obtain ⟨p_51, hp_51⟩ : ∃ p, p = dz (zi (b5_0, xs5_1)) := ⟨_, rfl⟩
    rw [← hp_51] at s
    replace g := lift_let2 hp_51 g
    have w_51 := bzFrom b5_0 ((r5_1.tame (m_1.trans (m_2.trans m_3)))).words
    rw [← hp_51] at w_51
    obtain ⟨a_51, c_51, rfl, r_51⟩ := s
    refine gAgg_intro rfl (uncons_intro (gBool_intro rfl (uncons_intro (gSlice_intro rfl (unnil_intro (?_))))))
    have m_4 := k_4.tame
    refine ⟨k_4.preLe (m_1.trans (m_2.trans m_3)).le, ?_⟩
    have bx_50 := (bx_50.keep k_4)
    refine stA bx_50 (base_add _ _) rfl fun h_5 bx_50 k_5 m_5 => ?_
    refine stA bx_50 (base_add _ _) rfl fun h_6 bx_50 k_6 m_6 => ?_
    have bx_46 := (((((bx_46.keep k_2).keep k_3).keep k_4).keepB (Nat.ne_of_lt ((m_2).lt lt_46)) k_5).keepB (Nat.ne_of_lt ((m_2).lt lt_46)) k_6)
    refine stA bx_46 (base_add _ _) rfl fun h_7 bx_46 k_7 m_7 => ?_
    refine stA bx_46 (base_add _ _) rfl fun h_8 bx_46 k_8 m_8 => ?_
    have bx6 := ((((((((bx6.keep k_1).keep k_2).keep k_3).keep k_4).keepB (Nat.ne_of_lt ((m_1.trans m_2).lt lt6)) k_5).keepB (Nat.ne_of_lt ((m_1.trans m_2).lt lt6)) k_6).keepB (Nat.ne_of_lt lt6) k_7).keepB (Nat.ne_of_lt lt6) k_8)
    have bx_50 := ((bx_50.keepB (Ne.symm (Nat.ne_of_lt ((m_2).lt lt_46))) k_7).keepB (Ne.symm (Nat.ne_of_lt ((m_2).lt lt_46))) k_8)
    exact D3.hv (KeepB.keep (KeepB.keep (KeepB.keep (KeepB.keep ((((k0.trans k_1).trans k_2).trans k_3).trans k_4) k_5 o_50) k_6 o_50) k_7 o_46) k_8 o_46) i0 (by first | assumption | decide | omega) (by first | assumption | decide | omega) (r6_1.tame (m_1.trans (m_2.trans (m_3.trans (m_4.trans (m_5.trans (m_6.trans (m_7.trans m_8)))))))) bx6 o6 ((r_47.tame (m_3.trans (m_4.trans (m_5.trans (m_6.trans (m_7.trans m_8)))))).from (k0.trans k_1).le) (by first | assumption | decide | omega) bx_50 o_50 ((r_51.tame (m_5.trans (m_6.trans (m_7.trans m_8)))).from (((k0.trans k_1).trans k_2).trans k_3).le) (by first | assumption | decide | omega) bx_46 o_46 (Nat.ne_of_lt ((m_1.trans m_2).lt lt6)) (Nat.ne_of_lt lt6) (Ne.symm (Nat.ne_of_lt ((m_2).lt lt_46))) g
  refine boxV fun h_2 bx_52 k_2 => ?_
  have bx_52 : BlkV h_2 (h_1.size) [.bool false, .slice none (D.digs 0).length 0] := by rw [D.digs_zero]; exact bx_52
  have o_52 := (k0.trans k_1).le
  have lt_52 := bx_52.lt
  have m_2 := k_2.tame
  refine ⟨k_2.preLe (m_1).le, ?_⟩
  refine hc_intro (gnomonref04_From.hs (r4_1.tame (m_1.trans m_2)) rfl) fun v h_3 ⟨k_3, s⟩ => ?_
  obtain ⟨p_53, hp_53⟩ : ∃ p, p = dz (zi (b4_0, xs4_1)) := ⟨_, rfl⟩
  rw [← hp_53] at s
  replace g := lift_let2 hp_53 g
  have w_53 := bzFrom b4_0 ((r4_1.tame (m_1.trans m_2))).words
  rw [← hp_53] at w_53
  obtain ⟨a_53, c_53, rfl, r_53⟩ := s
  refine gAgg_intro rfl (uncons_intro (gBool_intro rfl (uncons_intro (gSlice_intro rfl (unnil_intro (?_))))))
  have m_3 := k_3.tame
  refine ⟨k_3.preLe (m_1.trans m_2).le, ?_⟩
  refine hc_intro (gnomonref04_From.hs (r5_1.tame (m_1.trans (m_2.trans m_3))) rfl) fun v h_4 ⟨k_4, s⟩ => ?_
  obtain ⟨p_54, hp_54⟩ : ∃ p, p = dz (zi (b5_0, xs5_1)) := ⟨_, rfl⟩
  rw [← hp_54] at s
  replace g := lift_let2 hp_54 g
  have w_54 := bzFrom b5_0 ((r5_1.tame (m_1.trans (m_2.trans m_3)))).words
  rw [← hp_54] at w_54
  obtain ⟨a_54, c_54, rfl, r_54⟩ := s
  refine gAgg_intro rfl (uncons_intro (gBool_intro rfl (uncons_intro (gSlice_intro rfl (unnil_intro (?_))))))
  have m_4 := k_4.tame
  refine ⟨k_4.preLe (m_1.trans (m_2.trans m_3)).le, ?_⟩
  have bx_52 := ((bx_52.keep k_3).keep k_4)
  refine stA bx_52 (base_add _ _) rfl fun h_5 bx_52 k_5 m_5 => ?_
  refine stA bx_52 (base_add _ _) rfl fun h_6 bx_52 k_6 m_6 => ?_
  have bx_46 := (((((bx_46.keep k_2).keep k_3).keep k_4).keepB (Nat.ne_of_lt lt_46) k_5).keepB (Nat.ne_of_lt lt_46) k_6)
  refine stA bx_46 (base_add _ _) rfl fun h_7 bx_46 k_7 m_7 => ?_
  refine stA bx_46 (base_add _ _) rfl fun h_8 bx_46 k_8 m_8 => ?_
  have bx6 := ((((((((bx6.keep k_1).keep k_2).keep k_3).keep k_4).keepB (Nat.ne_of_lt ((m_1).lt lt6)) k_5).keepB (Nat.ne_of_lt ((m_1).lt lt6)) k_6).keepB (Nat.ne_of_lt lt6) k_7).keepB (Nat.ne_of_lt lt6) k_8)
  have bx_52 := ((bx_52.keepB (Ne.symm (Nat.ne_of_lt lt_46)) k_7).keepB (Ne.symm (Nat.ne_of_lt lt_46)) k_8)
  exact D3.hv (KeepB.keep (KeepB.keep (KeepB.keep (KeepB.keep ((((k0.trans k_1).trans k_2).trans k_3).trans k_4) k_5 o_52) k_6 o_52) k_7 o_46) k_8 o_46) i0 (by first | assumption | decide | omega) (by first | assumption | decide | omega) (r6_1.tame (m_1.trans (m_2.trans (m_3.trans (m_4.trans (m_5.trans (m_6.trans (m_7.trans m_8)))))))) bx6 o6 ((r_53.tame (m_4.trans (m_5.trans (m_6.trans (m_7.trans m_8))))).from ((k0.trans k_1).trans k_2).le) (by first | assumption | decide | omega) bx_52 o_52 ((r_54.tame (m_5.trans (m_6.trans (m_7.trans m_8)))).from (((k0.trans k_1).trans k_2).trans k_3).le) (by first | assumption | decide | omega) bx_46 o_46 (Nat.ne_of_lt ((m_1).lt lt6)) (Nat.ne_of_lt lt6) (Ne.symm (Nat.ne_of_lt lt_46)) g
def D1.v (x0 : Int) (b1_0 : Bool) (xs1_1 : List Nat) (b2_0 : Bool) (xs2_1 : List Nat) : ((Bool × List Nat) × Int) :=
  letV (decide (FrmZ (b1_0, xs1_1))) fun p_4 =>
  bif (!p_4) then
    ((false, ([] : List Nat)), (2 : Int))
  else
    letV (decide (FrmZ (b2_0, xs2_1))) fun p_6 =>
    bif (!p_6) then
      ((false, ([] : List Nat)), (2 : Int))
    else
      D2.v x0 b1_0 xs1_1 b2_0 xs2_1 false ([] : List Nat)
theorem D1.hv {R : Rt} {h0 h : Hp} (k0 : Keep h0 h) {x0 : Int} (i0 : In .i64 x0) (rl0 : 3 ≤ x0) (rh0 : x0 ≤ 6) {b1_0 : Bool} {a1_1 : Option Addr} {c1_1 l1_1 : Nat} {xs1_1 : List Nat} (r1_1 : Rd h a1_1 c1_1 xs1_1) (e1_1 : l1_1 = xs1_1.length) {b2_0 : Bool} {a2_1 : Option Addr} {c2_1 l2_1 : Nat} {xs2_1 : List Nat} (r2_1 : Rd h a2_1 c2_1 xs2_1) (e2_1 : l2_1 = xs2_1.length) (g : Post (s2 sZW (sI .i64)) h0 R (D1.v x0 b1_0 xs1_1 b2_0 xs2_1)) : D1.t R x0 b1_0 a1_1 l1_1 c1_1 b2_0 a2_1 l2_1 c2_1 h := by
  subst e1_1 e2_1
  have w_z : (D.digs 0).length = 0 := by simp [D.digs_zero]
  unfold D1.v at g
  unfold D1.t
  refine boxV fun h_1 bx_1 k_1 => ?_
  have o_1 := k0.le
  have lt_1 := bx_1.lt
  have m_1 := k_1.tame
  refine boxV fun h_2 bx_2 k_2 => ?_
  have o_2 := (k0.trans k_1).le
  have lt_2 := bx_2.lt
  have m_2 := k_2.tame
  refine boxV fun h_3 bx_3 k_3 => ?_
  have o_3 := ((k0.trans k_1).trans k_2).le
  have lt_3 := bx_3.lt
  have m_3 := k_3.tame
  have bx_1 := ((bx_1.keep k_2).keep k_3)
  refine ldA bx_1 (base_add _ _) rfl (gBool_intro rfl ?_)
  refine ldA bx_1 (base_add _ _) rfl (gSlice_intro rfl ?_)
  refine hc_intro (gnomonref04_DocForm.hs (r1_1.tame (m_1.trans (m_2.trans m_3))) rfl) fun v h_4 ⟨k_4, s⟩ => ?_
  obtain ⟨p_4, hp_4⟩ : ∃ p, p = decide (FrmZ (b1_0, xs1_1)) := ⟨_, rfl⟩
  rw [← hp_4] at s
  replace g := lift_let2 hp_4 g
  have u_4 := frmZ_len b1_0 xs1_1
  rw [← hp_4] at u_4
  obtain rfl := s
  refine gBool_intro rfl (?_)
  have m_4 := k_4.tame
  refine lift_not g (fun q_5 g => ?_) (fun q_5 g => ?_)
  · have bx_3 := (bx_3.keep k_4)
    refine stA bx_3 (base_add _ _) rfl fun h_5 bx_3 k_5 m_5 => ?_
    refine stA bx_3 (base_add _ _) rfl fun h_6 bx_3 k_6 m_6 => ?_
    refine ldA bx_3 (base_add _ _) rfl (gBool_intro rfl ?_)
    refine ldA bx_3 (base_add _ _) rfl (gSlice_intro rfl ?_)
    exact g _ _ (KeepB.keep (KeepB.keep ((((k0.trans k_1).trans k_2).trans k_3).trans k_4) k_5 o_3) k_6 o_3) ⟨_, _, rfl, ⟨_, _, rfl, (GotE.nil _ _)⟩, ⟨rfl, (show In .i64 (2 : Int) by decide)⟩⟩
  have zu_4 := u_4 q_5
  have bx_2 := ((bx_2.keep k_3).keep k_4)
  refine ldA bx_2 (base_add _ _) rfl (gBool_intro rfl ?_)
  refine ldA bx_2 (base_add _ _) rfl (gSlice_intro rfl ?_)
  refine hc_intro (gnomonref04_DocForm.hs (r2_1.tame (m_1.trans (m_2.trans (m_3.trans m_4)))) rfl) fun v h_5 ⟨k_5, s⟩ => ?_
  obtain ⟨p_6, hp_6⟩ : ∃ p, p = decide (FrmZ (b2_0, xs2_1)) := ⟨_, rfl⟩
  rw [← hp_6] at s
  replace g := lift_let2 hp_6 g
  have u_6 := frmZ_len b2_0 xs2_1
  rw [← hp_6] at u_6
  obtain rfl := s
  refine gBool_intro rfl (?_)
  have m_5 := k_5.tame
  refine lift_not g (fun q_7 g => ?_) (fun q_7 g => ?_)
  · have bx_3 := ((bx_3.keep k_4).keep k_5)
    refine stA bx_3 (base_add _ _) rfl fun h_6 bx_3 k_6 m_6 => ?_
    refine stA bx_3 (base_add _ _) rfl fun h_7 bx_3 k_7 m_7 => ?_
    refine ldA bx_3 (base_add _ _) rfl (gBool_intro rfl ?_)
    refine ldA bx_3 (base_add _ _) rfl (gSlice_intro rfl ?_)
    exact g _ _ (KeepB.keep (KeepB.keep (((((k0.trans k_1).trans k_2).trans k_3).trans k_4).trans k_5) k_6 o_3) k_7 o_3) ⟨_, _, rfl, ⟨_, _, rfl, (GotE.nil _ _)⟩, ⟨rfl, (show In .i64 (2 : Int) by decide)⟩⟩
  have zu_6 := u_6 q_7
  have bx_1 := ((bx_1.keep k_4).keep k_5)
  have bx_2 := (bx_2.keep k_5)
  have bx_3 := ((bx_3.keep k_4).keep k_5)
  exact D2.hv (((((k0.trans k_1).trans k_2).trans k_3).trans k_4).trans k_5) i0 (by first | assumption | decide | omega) (by first | assumption | decide | omega) (r1_1.tame (m_1.trans (m_2.trans (m_3.trans (m_4.trans m_5))))) bx_1 o_1 (r2_1.tame (m_1.trans (m_2.trans (m_3.trans (m_4.trans m_5))))) bx_2 o_2 (GotE.nil _ _) bx_3 o_3 (Nat.ne_of_lt lt_1) (Nat.ne_of_lt ((m_2).lt lt_1)) (Nat.ne_of_lt lt_2) (by first | assumption | decide | omega) (by first | assumption | decide | omega) g
def v (x0 : Int) (b1_0 : Bool) (xs1_1 : List Nat) (b2_0 : Bool) (xs2_1 : List Nat) : ((Bool × List Nat) × Int) := D1.v x0 b1_0 xs1_1 b2_0 xs2_1
theorem hv {h : Hp} {x0 : Int} (i0 : In .i64 x0) (rl0 : 3 ≤ x0) (rh0 : x0 ≤ 6) {b1_0 : Bool} {a1_1 : Option Addr} {c1_1 l1_1 : Nat} {xs1_1 : List Nat} (r1_1 : Rd h a1_1 c1_1 xs1_1) (e1_1 : l1_1 = xs1_1.length) {b2_0 : Bool} {a2_1 : Option Addr} {c2_1 l2_1 : Nat} {xs2_1 : List Nat} (r2_1 : Rd h a2_1 c2_1 xs2_1) (e2_1 : l2_1 = xs2_1.length) : HC id #[.int .i64 x0, .agg #[.bool b1_0, .slice a1_1 l1_1 c1_1], .agg #[.bool b2_0, .slice a2_1 l2_1 c2_1]] h fun v_ h_ => Keep h h_ ∧ (s2 sZW (sI .i64)) h h_ v_ (v x0 b1_0 xs1_1 b2_0 xs2_1) :=
  ok (D1.hv (Keep.refl _) i0 rl0 rh0 r1_1 e1_1 r2_1 e2_1 fun v h' k s => ⟨k, s⟩)
end gnomonref04_DocTwo

end Go.Proofs.YtanlcacaihdceaaGreatDoor.G

/- The document's quotients. -/
namespace Go.Proofs.YtanlcacaihdceaaGreatDoor.G
open Go.Gv
set_option linter.unusedVariables false
set_option maxRecDepth 100000
theorem two_D4 {k : Int} (h1 : 3 ≤ k) (h2 : k ≤ 6) (p : Bool) (zs : List Nat) {i j : Int} (hj : j ≠ 0) : gnomonref04_DocTwo.D4.v k p zs (dz i).1 (dz i).2 (dz j).1 (dz j).2 = zlim (opZ k i j) := by
  have hn : nedZ i j = dz (nea i j) := by unfold nedZ; rw [if_neg hj]
  unfold gnomonref04_DocTwo.D4.v
  simp only [letV, di_dz', hn]
  rcases (show k = 3 ∨ k = 4 ∨ k = 5 ∨ k = 6 by omega) with rfl | rfl | rfl | rfl <;> rfl
theorem rDocTwo_v {k : Int} (h1 : 3 ≤ k) (h2 : k ≤ 6) (b c : Bool) (xs ys : List Nat) : gnomonref04_DocTwo.v k b xs c ys = docTwoS k (b, xs) (c, ys) := by
  unfold gnomonref04_DocTwo.v gnomonref04_DocTwo.D1.v docTwoS
  simp only [letV]
  by_cases f : FrmZ (b, xs)
  · by_cases f2 : FrmZ (c, ys)
    · simp only [f, f2, decide_true, Bool.not_true, cond_false, and_self, if_true]
      unfold gnomonref04_DocTwo.D2.v gnomonref04_DocTwo.D3.v
      simp only [letV, di_dz', cmp_eq_iff]
      by_cases h0 : zi (c, ys) = 0
      · rw [if_pos ⟨h1, h0⟩]; simp only [h0, decide_true, cond_true]; rfl
      · rw [if_neg (fun h => h0 h.2)]; simp only [h0, decide_false, cond_false]
        exact two_D4 h1 h2 _ _ h0
    · simp only [f, f2, decide_true, decide_false, Bool.not_true, Bool.not_false, cond_false, cond_true, and_false, if_false]; rfl
  · simp only [f, decide_false, Bool.not_false, cond_true, false_and, if_false]; rfl
section
variable {a b : Option Addr} {c d l m X Y : Nat} {xs ys : List Nat} {h : Hp} {x y : Int} {p q : Bool}
theorem gnomonref04_DocTwo.hs (i : In .i64 x) (v1 : 3 ≤ x) (v2 : x ≤ 6) (r : Rd h a c xs) (e : l = xs.length) (s : Rd h b d ys) (f : m = ys.length) : HC gnomonref04_DocTwo.id #[.int .i64 x, .agg #[.bool p, .slice a l c], .agg #[.bool q, .slice b m d]] h fun v h' => Keep h h' ∧ s2 sZW (sI .i64) h h' v (docTwoS x (p, xs) (q, ys)) := by rw [← rDocTwo_v v1 v2]; exact gnomonref04_DocTwo.hv i v1 v2 r e s f
end
end Go.Proofs.YtanlcacaihdceaaGreatDoor.G

/- Functions without loops as functions of values. Written by a program of this work. -/
namespace Go.Proofs.YtanlcacaihdceaaGreatDoor.G
open Go.Gv
set_option linter.unusedVariables false
set_option maxRecDepth 100000
namespace gnomonlaw04_doc
def D1.v (x0_0 : Int) (b0_1_0 : Bool) (xs0_1_1 : List Nat) (b0_2_0 : Bool) (xs0_2_1 : List Nat) (x0_3 : Int) : ((Bool × List Nat) × Int) :=
  bif (x0_0 == (14 : Int)) then
    letV (docTwoS (3 : Int) (b0_1_0, xs0_1_1) (b0_2_0, xs0_2_1)) fun p_4 =>
    ((p_4.1.1, p_4.1.2), p_4.2)
  else
    bif (x0_0 == (15 : Int)) then
      letV (docTwoS (4 : Int) (b0_1_0, xs0_1_1) (b0_2_0, xs0_2_1)) fun p_6 =>
      ((p_6.1.1, p_6.1.2), p_6.2)
    else
      bif (x0_0 == (16 : Int)) then
        letV (docTwoS (5 : Int) (b0_1_0, xs0_1_1) (b0_2_0, xs0_2_1)) fun p_8 =>
        ((p_8.1.1, p_8.1.2), p_8.2)
      else
        letV (docTwoS (6 : Int) (b0_1_0, xs0_1_1) (b0_2_0, xs0_2_1)) fun p_9 =>
        ((p_9.1.1, p_9.1.2), p_9.2)
theorem D1.hv {R : Rt} {h0 h : Hp} (k0 : Keep h0 h) {x0_0 : Int} (i0_0 : In .i64 x0_0) (rl0_0 : 14 ≤ x0_0) (rh0_0 : x0_0 ≤ 17) {b0_1_0 : Bool} {a0_1_1 : Option Addr} {c0_1_1 l0_1_1 : Nat} {xs0_1_1 : List Nat} (r0_1_1 : Rd h a0_1_1 c0_1_1 xs0_1_1) (e0_1_1 : l0_1_1 = xs0_1_1.length) {b0_2_0 : Bool} {a0_2_1 : Option Addr} {c0_2_1 l0_2_1 : Nat} {xs0_2_1 : List Nat} (r0_2_1 : Rd h a0_2_1 c0_2_1 xs0_2_1) (e0_2_1 : l0_2_1 = xs0_2_1.length) {x0_3 : Int} (i0_3 : In .i64 x0_3) (g : Post (s2 sZW (sI .i64)) h0 R (D1.v x0_0 b0_1_0 xs0_1_1 b0_2_0 xs0_2_1 x0_3)) : D1.t R x0_0 b0_1_0 a0_1_1 l0_1_1 c0_1_1 b0_2_0 a0_2_1 l0_2_1 c0_2_1 x0_3 h := by
  subst e0_1_1 e0_2_1
  unfold D1.v at g
  unfold D1.t
  refine boxV fun h_1 bx_1 k_1 => ?_
  have o_1 := k0.le
  have lt_1 := bx_1.lt
  have m_1 := k_1.tame
  refine boxV fun h_2 bx_2 k_2 => ?_
  have o_2 := (k0.trans k_1).le
  have lt_2 := bx_2.lt
  have m_2 := k_2.tame
  have bx_1 := (bx_1.keep k_2)
  refine ldA bx_1 (base_add _ _) rfl (gInt_intro rfl ?_)
  refine c_eq (fun q => absurd q (by omega)) fun _ => ?_
  refine c_eq (fun q => absurd q (by omega)) fun _ => ?_
  refine c_eq (fun q => absurd q (by omega)) fun _ => ?_
  refine c_eq (fun q => absurd q (by omega)) fun _ => ?_
  refine c_eq (fun q => absurd q (by omega)) fun _ => ?_
  refine c_eq (fun q => absurd q (by omega)) fun _ => ?_
  refine c_eq (fun q => absurd q (by omega)) fun _ => ?_
  refine c_eq (fun q => absurd q (by omega)) fun _ => ?_
  refine c_eq (fun q => absurd q (by omega)) fun _ => ?_
  refine lift_eq g (fun q_3 g => ?_) (fun q_3 g => ?_)
  · have gq := g
    subst q_3
    have g := gq
    clear gq
    refine ldA bx_1 (base_add _ _) rfl (gInt_intro rfl ?_)
    refine letK_intro (y := (0 : Int)) (by decide) ?_
    refine letK_intro (y := (3 : Int)) (by decide) ?_
    refine ldA bx_1 (add2 _ _ _) rfl (gBool_intro rfl ?_)
    refine ldA bx_1 (add2 _ _ _) rfl (gSlice_intro rfl ?_)
    refine ldA bx_1 (add2 _ _ _) rfl (gBool_intro rfl ?_)
    refine ldA bx_1 (add2 _ _ _) rfl (gSlice_intro rfl ?_)
    refine hc_intro (gnomonref04_DocTwo.hs (show In .i64 (3 : Int) by decide) (by first | assumption | decide | omega) (by first | assumption | decide | omega) (r0_1_1.tame (m_1.trans m_2)) rfl (r0_2_1.tame (m_1.trans m_2)) rfl) fun v h_3 ⟨k_3, s⟩ => ?_
    obtain ⟨p_4, hp_4⟩ : ∃ p, p = docTwoS (3 : Int) (b0_1_0, xs0_1_1) (b0_2_0, xs0_2_1) := ⟨_, rfl⟩
    rw [← hp_4] at s
    replace g := lift_let2 hp_4 g
    obtain ⟨_, _, rfl, ⟨a_4_0, c_4_0, rfl, r_4_0⟩, ⟨rfl, i_4_1⟩⟩ := s
    refine gTup_intro rfl (uncons_intro (gAgg_intro rfl (uncons_intro (gBool_intro rfl (uncons_intro (gSlice_intro rfl (unnil_intro (uncons_intro (gInt_intro rfl (unnil_intro (?_)))))))))))
    have m_3 := k_3.tame
    have bx_2 := (bx_2.keep k_3)
    refine stA bx_2 (base_add _ _) rfl fun h_4 bx_2 k_4 m_4 => ?_
    refine stA bx_2 (base_add _ _) rfl fun h_5 bx_2 k_5 m_5 => ?_
    refine ldA bx_2 (base_add _ _) rfl (gBool_intro rfl ?_)
    refine ldA bx_2 (base_add _ _) rfl (gSlice_intro rfl ?_)
    exact g _ _ (KeepB.keep (KeepB.keep (((k0.trans k_1).trans k_2).trans k_3) k_4 o_2) k_5 o_2) ⟨_, _, rfl, ⟨_, _, rfl, ((r_4_0.tame (m_4.trans m_5)).from ((k0.trans k_1).trans k_2).le)⟩, ⟨rfl, i_4_1⟩⟩
  refine lift_eq g (fun q_5 g => ?_) (fun q_5 g => ?_)
  · have gq := g
    subst q_5
    have g := gq
    clear gq
    refine ldA bx_1 (base_add _ _) rfl (gInt_intro rfl ?_)
    refine letK_intro (y := (1 : Int)) (by decide) ?_
    refine letK_intro (y := (4 : Int)) (by decide) ?_
    refine ldA bx_1 (add2 _ _ _) rfl (gBool_intro rfl ?_)
    refine ldA bx_1 (add2 _ _ _) rfl (gSlice_intro rfl ?_)
    refine ldA bx_1 (add2 _ _ _) rfl (gBool_intro rfl ?_)
    refine ldA bx_1 (add2 _ _ _) rfl (gSlice_intro rfl ?_)
    refine hc_intro (gnomonref04_DocTwo.hs (show In .i64 (4 : Int) by decide) (by first | assumption | decide | omega) (by first | assumption | decide | omega) (r0_1_1.tame (m_1.trans m_2)) rfl (r0_2_1.tame (m_1.trans m_2)) rfl) fun v h_3 ⟨k_3, s⟩ => ?_
    obtain ⟨p_6, hp_6⟩ : ∃ p, p = docTwoS (4 : Int) (b0_1_0, xs0_1_1) (b0_2_0, xs0_2_1) := ⟨_, rfl⟩
    rw [← hp_6] at s
    replace g := lift_let2 hp_6 g
    obtain ⟨_, _, rfl, ⟨a_6_0, c_6_0, rfl, r_6_0⟩, ⟨rfl, i_6_1⟩⟩ := s
    refine gTup_intro rfl (uncons_intro (gAgg_intro rfl (uncons_intro (gBool_intro rfl (uncons_intro (gSlice_intro rfl (unnil_intro (uncons_intro (gInt_intro rfl (unnil_intro (?_)))))))))))
    have m_3 := k_3.tame
    have bx_2 := (bx_2.keep k_3)
    refine stA bx_2 (base_add _ _) rfl fun h_4 bx_2 k_4 m_4 => ?_
    refine stA bx_2 (base_add _ _) rfl fun h_5 bx_2 k_5 m_5 => ?_
    refine ldA bx_2 (base_add _ _) rfl (gBool_intro rfl ?_)
    refine ldA bx_2 (base_add _ _) rfl (gSlice_intro rfl ?_)
    exact g _ _ (KeepB.keep (KeepB.keep (((k0.trans k_1).trans k_2).trans k_3) k_4 o_2) k_5 o_2) ⟨_, _, rfl, ⟨_, _, rfl, ((r_6_0.tame (m_4.trans m_5)).from ((k0.trans k_1).trans k_2).le)⟩, ⟨rfl, i_6_1⟩⟩
  refine lift_eq g (fun q_7 g => ?_) (fun q_7 g => ?_)
  · have gq := g
    subst q_7
    have g := gq
    clear gq
    refine ldA bx_1 (base_add _ _) rfl (gInt_intro rfl ?_)
    refine letK_intro (y := (2 : Int)) (by decide) ?_
    refine letK_intro (y := (5 : Int)) (by decide) ?_
    refine ldA bx_1 (add2 _ _ _) rfl (gBool_intro rfl ?_)
    refine ldA bx_1 (add2 _ _ _) rfl (gSlice_intro rfl ?_)
    refine ldA bx_1 (add2 _ _ _) rfl (gBool_intro rfl ?_)
    refine ldA bx_1 (add2 _ _ _) rfl (gSlice_intro rfl ?_)
    refine hc_intro (gnomonref04_DocTwo.hs (show In .i64 (5 : Int) by decide) (by first | assumption | decide | omega) (by first | assumption | decide | omega) (r0_1_1.tame (m_1.trans m_2)) rfl (r0_2_1.tame (m_1.trans m_2)) rfl) fun v h_3 ⟨k_3, s⟩ => ?_
    obtain ⟨p_8, hp_8⟩ : ∃ p, p = docTwoS (5 : Int) (b0_1_0, xs0_1_1) (b0_2_0, xs0_2_1) := ⟨_, rfl⟩
    rw [← hp_8] at s
    replace g := lift_let2 hp_8 g
    obtain ⟨_, _, rfl, ⟨a_8_0, c_8_0, rfl, r_8_0⟩, ⟨rfl, i_8_1⟩⟩ := s
    refine gTup_intro rfl (uncons_intro (gAgg_intro rfl (uncons_intro (gBool_intro rfl (uncons_intro (gSlice_intro rfl (unnil_intro (uncons_intro (gInt_intro rfl (unnil_intro (?_)))))))))))
    have m_3 := k_3.tame
    have bx_2 := (bx_2.keep k_3)
    refine stA bx_2 (base_add _ _) rfl fun h_4 bx_2 k_4 m_4 => ?_
    refine stA bx_2 (base_add _ _) rfl fun h_5 bx_2 k_5 m_5 => ?_
    refine ldA bx_2 (base_add _ _) rfl (gBool_intro rfl ?_)
    refine ldA bx_2 (base_add _ _) rfl (gSlice_intro rfl ?_)
    exact g _ _ (KeepB.keep (KeepB.keep (((k0.trans k_1).trans k_2).trans k_3) k_4 o_2) k_5 o_2) ⟨_, _, rfl, ⟨_, _, rfl, ((r_8_0.tame (m_4.trans m_5)).from ((k0.trans k_1).trans k_2).le)⟩, ⟨rfl, i_8_1⟩⟩
  refine c_eq (fun _ => ?_) fun q => absurd (by omega) q
  have qk : x0_0 = 17 := by omega
  have gq := g
  subst qk
  have g := gq
  clear gq
  refine ldA bx_1 (base_add _ _) rfl (gInt_intro rfl ?_)
  refine letK_intro (y := (3 : Int)) (by decide) ?_
  refine letK_intro (y := (6 : Int)) (by decide) ?_
  refine ldA bx_1 (add2 _ _ _) rfl (gBool_intro rfl ?_)
  refine ldA bx_1 (add2 _ _ _) rfl (gSlice_intro rfl ?_)
  refine ldA bx_1 (add2 _ _ _) rfl (gBool_intro rfl ?_)
  refine ldA bx_1 (add2 _ _ _) rfl (gSlice_intro rfl ?_)
  refine hc_intro (gnomonref04_DocTwo.hs (show In .i64 (6 : Int) by decide) (by first | assumption | decide | omega) (by first | assumption | decide | omega) (r0_1_1.tame (m_1.trans m_2)) rfl (r0_2_1.tame (m_1.trans m_2)) rfl) fun v h_3 ⟨k_3, s⟩ => ?_
  obtain ⟨p_9, hp_9⟩ : ∃ p, p = docTwoS (6 : Int) (b0_1_0, xs0_1_1) (b0_2_0, xs0_2_1) := ⟨_, rfl⟩
  rw [← hp_9] at s
  replace g := lift_let2 hp_9 g
  obtain ⟨_, _, rfl, ⟨a_9_0, c_9_0, rfl, r_9_0⟩, ⟨rfl, i_9_1⟩⟩ := s
  refine gTup_intro rfl (uncons_intro (gAgg_intro rfl (uncons_intro (gBool_intro rfl (uncons_intro (gSlice_intro rfl (unnil_intro (uncons_intro (gInt_intro rfl (unnil_intro (?_)))))))))))
  have m_3 := k_3.tame
  have bx_2 := (bx_2.keep k_3)
  refine stA bx_2 (base_add _ _) rfl fun h_4 bx_2 k_4 m_4 => ?_
  refine stA bx_2 (base_add _ _) rfl fun h_5 bx_2 k_5 m_5 => ?_
  refine ldA bx_2 (base_add _ _) rfl (gBool_intro rfl ?_)
  refine ldA bx_2 (base_add _ _) rfl (gSlice_intro rfl ?_)
  exact g _ _ (KeepB.keep (KeepB.keep (((k0.trans k_1).trans k_2).trans k_3) k_4 o_2) k_5 o_2) ⟨_, _, rfl, ⟨_, _, rfl, ((r_9_0.tame (m_4.trans m_5)).from ((k0.trans k_1).trans k_2).le)⟩, ⟨rfl, i_9_1⟩⟩
def v (x0_0 : Int) (b0_1_0 : Bool) (xs0_1_1 : List Nat) (b0_2_0 : Bool) (xs0_2_1 : List Nat) (x0_3 : Int) : ((Bool × List Nat) × Int) := D1.v x0_0 b0_1_0 xs0_1_1 b0_2_0 xs0_2_1 x0_3
theorem hv {h : Hp} {x0_0 : Int} (i0_0 : In .i64 x0_0) (rl0_0 : 14 ≤ x0_0) (rh0_0 : x0_0 ≤ 17) {b0_1_0 : Bool} {a0_1_1 : Option Addr} {c0_1_1 l0_1_1 : Nat} {xs0_1_1 : List Nat} (r0_1_1 : Rd h a0_1_1 c0_1_1 xs0_1_1) (e0_1_1 : l0_1_1 = xs0_1_1.length) {b0_2_0 : Bool} {a0_2_1 : Option Addr} {c0_2_1 l0_2_1 : Nat} {xs0_2_1 : List Nat} (r0_2_1 : Rd h a0_2_1 c0_2_1 xs0_2_1) (e0_2_1 : l0_2_1 = xs0_2_1.length) {x0_3 : Int} (i0_3 : In .i64 x0_3) : HC id #[.agg #[.int .i64 x0_0, .bool b0_1_0, .slice a0_1_1 l0_1_1 c0_1_1, .bool b0_2_0, .slice a0_2_1 l0_2_1 c0_2_1, .int .i64 x0_3]] h fun v_ h_ => Keep h h_ ∧ (s2 sZW (sI .i64)) h h_ v_ (v x0_0 b0_1_0 xs0_1_1 b0_2_0 xs0_2_1 x0_3) :=
  ok (D1.hv (Keep.refl _) i0_0 rl0_0 rh0_0 r0_1_1 e0_1_1 r0_2_1 e0_2_1 i0_3 fun v h' k s => ⟨k, s⟩)
end gnomonlaw04_doc

namespace gnomonlaw04_number
def D2.v (b2_0 : Bool) (xs2_1 : List Nat) (b4_0 : Bool) (xs4_1 : List Nat) (x5 : Int) : ((Bool × List Nat) × Int) :=
  ((b4_0, xs4_1), x5)
theorem D2.hv {R : Rt} {h0 h : Hp} (k0 : Keep h0 h) {b2_0 : Bool} {a2_1 : Option Addr} {c2_1 : Nat} {xs2_1 : List Nat} (r2_1 : GotE eU64 h0 h a2_1 c2_1 xs2_1) {B2 : Nat} (bx2 : BlkV h B2 [.bool b2_0, .slice a2_1 xs2_1.length c2_1]) (o2 : h0.size ≤ B2) {b4_0 : Bool} {a4_1 : Option Addr} {c4_1 : Nat} {xs4_1 : List Nat} (r4_1 : GotE eU64 h0 h a4_1 c4_1 xs4_1) {B4 : Nat} (bx4 : BlkV h B4 [.bool b4_0, .slice a4_1 xs4_1.length c4_1]) (o4 : h0.size ≤ B4) {x5 : Int} (i5 : In .i64 x5) (d2q4 : B2 ≠ B4) (tb : Tab h) (g : Post (s2 sZW (sI .i64)) h0 R (D2.v b2_0 xs2_1 b4_0 xs4_1 x5)) : D2.t R (⟨B2, 0, none⟩ : Addr) (⟨B4, 0, none⟩ : Addr) x5 h := by
  have lt2 := bx2.lt
  have lt4 := bx4.lt
  unfold D2.v at g
  unfold D2.t
  refine ldA bx4 (base_add _ _) rfl (gBool_intro rfl ?_)
  refine ldA bx4 (base_add _ _) rfl (gSlice_intro rfl ?_)
  refine stA bx2 (base_add _ _) rfl fun h_1 bx2 k_1 m_1 => ?_
  refine stA bx2 (base_add _ _) rfl fun h_2 bx2 k_2 m_2 => ?_
  refine ldA bx2 (base_add _ _) rfl (gBool_intro rfl ?_)
  refine ldA bx2 (base_add _ _) rfl (gSlice_intro rfl ?_)
  exact g _ _ (KeepB.keep (KeepB.keep k0 k_1 o2) k_2 o2) ⟨_, _, rfl, ⟨_, _, rfl, (r4_1.tame (m_1.trans m_2))⟩, ⟨rfl, i5⟩⟩
def D1.v (x0_0 : Int) (b0_1_0 : Bool) (xs0_1_1 : List Nat) (b0_2_0 : Bool) (xs0_2_1 : List Nat) (x0_3 : Int) : ((Bool × List Nat) × Int) :=
  bif (x0_0 == (14 : Int)) then
    letV (quoZ flo (b0_1_0, xs0_1_1) (b0_2_0, xs0_2_1)) fun p_5 =>
    D2.v false ([] : List Nat) p_5.1.1 p_5.1.2 p_5.2
  else
    bif (x0_0 == (15 : Int)) then
      letV (quoZ cei (b0_1_0, xs0_1_1) (b0_2_0, xs0_2_1)) fun p_7 =>
      D2.v false ([] : List Nat) p_7.1.1 p_7.1.2 p_7.2
    else
      bif (x0_0 == (16 : Int)) then
        letV (quoZ nea (b0_1_0, xs0_1_1) (b0_2_0, xs0_2_1)) fun p_9 =>
        D2.v false ([] : List Nat) p_9.1.1 p_9.1.2 p_9.2
      else
        letV (quoZ mo (b0_1_0, xs0_1_1) (b0_2_0, xs0_2_1)) fun p_10 =>
        D2.v false ([] : List Nat) p_10.1.1 p_10.1.2 p_10.2
theorem D1.hv {R : Rt} {h0 h : Hp} (k0 : Keep h0 h) {x0_0 : Int} (i0_0 : In .i64 x0_0) (rl0_0 : 14 ≤ x0_0) (rh0_0 : x0_0 ≤ 17) {b0_1_0 : Bool} {a0_1_1 : Option Addr} {c0_1_1 l0_1_1 : Nat} {xs0_1_1 : List Nat} (r0_1_1 : Rd h a0_1_1 c0_1_1 xs0_1_1) (e0_1_1 : l0_1_1 = xs0_1_1.length) {b0_2_0 : Bool} {a0_2_1 : Option Addr} {c0_2_1 l0_2_1 : Nat} {xs0_2_1 : List Nat} (r0_2_1 : Rd h a0_2_1 c0_2_1 xs0_2_1) (e0_2_1 : l0_2_1 = xs0_2_1.length) {x0_3 : Int} (i0_3 : In .i64 x0_3) (tb : Tab h) (g : Post (s2 sZW (sI .i64)) h0 R (D1.v x0_0 b0_1_0 xs0_1_1 b0_2_0 xs0_2_1 x0_3)) : D1.t R x0_0 b0_1_0 a0_1_1 l0_1_1 c0_1_1 b0_2_0 a0_2_1 l0_2_1 c0_2_1 x0_3 h := by
  subst e0_1_1 e0_2_1
  unfold D1.v at g
  unfold D1.t
  refine boxV fun h_1 bx_1 k_1 => ?_
  have o_1 := k0.le
  have lt_1 := bx_1.lt
  have m_1 := k_1.tame
  refine boxV fun h_2 bx_2 k_2 => ?_
  have o_2 := (k0.trans k_1).le
  have lt_2 := bx_2.lt
  have m_2 := k_2.tame
  refine boxV fun h_3 bx_3 k_3 => ?_
  have o_3 := ((k0.trans k_1).trans k_2).le
  have lt_3 := bx_3.lt
  have m_3 := k_3.tame
  have bx_1 := ((bx_1.keep k_2).keep k_3)
  refine ldA bx_1 (base_add _ _) rfl (gInt_intro rfl ?_)
  refine c_eq (fun q => absurd q (by omega)) fun _ => ?_
  refine c_eq (fun q => absurd q (by omega)) fun _ => ?_
  refine c_eq (fun q => absurd q (by omega)) fun _ => ?_
  refine c_eq (fun q => absurd q (by omega)) fun _ => ?_
  refine c_eq (fun q => absurd q (by omega)) fun _ => ?_
  refine c_eq (fun q => absurd q (by omega)) fun _ => ?_
  refine c_eq (fun q => absurd q (by omega)) fun _ => ?_
  refine c_eq (fun q => absurd q (by omega)) fun _ => ?_
  refine c_eq (fun q => absurd q (by omega)) fun _ => ?_
  refine lift_eq g (fun q_4 g => ?_) (fun q_4 g => ?_)
  · have gq := g
    subst q_4
    have g := gq
    clear gq
    refine ldA bx_1 (add2 _ _ _) rfl (gBool_intro rfl ?_)
    refine ldA bx_1 (add2 _ _ _) rfl (gSlice_intro rfl ?_)
    refine ldA bx_1 (add2 _ _ _) rfl (gBool_intro rfl ?_)
    refine ldA bx_1 (add2 _ _ _) rfl (gSlice_intro rfl ?_)
    refine hc_intro (num_FloorDiv.hs (r0_1_1.tame (m_1.trans (m_2.trans m_3))) rfl (r0_2_1.tame (m_1.trans (m_2.trans m_3))) rfl) fun v h_4 ⟨k_4, s⟩ => ?_
    obtain ⟨p_5, hp_5⟩ : ∃ p, p = quoZ flo (b0_1_0, xs0_1_1) (b0_2_0, xs0_2_1) := ⟨_, rfl⟩
    rw [← hp_5] at s
    replace g := lift_let2 hp_5 g
    obtain ⟨_, _, rfl, ⟨a_5_0, c_5_0, rfl, r_5_0⟩, ⟨rfl, i_5_1⟩⟩ := s
    refine gTup_intro rfl (uncons_intro (gAgg_intro rfl (uncons_intro (gBool_intro rfl (uncons_intro (gSlice_intro rfl (unnil_intro (uncons_intro (gInt_intro rfl (unnil_intro (?_)))))))))))
    have m_4 := k_4.tame
    have bx_3 := (bx_3.keep k_4)
    refine stA bx_3 (base_add _ _) rfl fun h_5 bx_3 k_5 m_5 => ?_
    refine stA bx_3 (base_add _ _) rfl fun h_6 bx_3 k_6 m_6 => ?_
    have bx_2 := ((((bx_2.keep k_3).keep k_4).keepB (Nat.ne_of_lt lt_2) k_5).keepB (Nat.ne_of_lt lt_2) k_6)
    exact D2.hv (KeepB.keep (KeepB.keep ((((k0.trans k_1).trans k_2).trans k_3).trans k_4) k_5 o_3) k_6 o_3) (GotE.nil _ _) bx_2 o_2 ((r_5_0.tame (m_5.trans m_6)).from (((k0.trans k_1).trans k_2).trans k_3).le) bx_3 o_3 i_5_1 (Nat.ne_of_lt lt_2) (tb.tame (m_1.trans (m_2.trans (m_3.trans (m_4.trans (m_5.trans m_6)))))) g
  refine lift_eq g (fun q_6 g => ?_) (fun q_6 g => ?_)
  · have gq := g
    subst q_6
    have g := gq
    clear gq
    refine ldA bx_1 (add2 _ _ _) rfl (gBool_intro rfl ?_)
    refine ldA bx_1 (add2 _ _ _) rfl (gSlice_intro rfl ?_)
    refine ldA bx_1 (add2 _ _ _) rfl (gBool_intro rfl ?_)
    refine ldA bx_1 (add2 _ _ _) rfl (gSlice_intro rfl ?_)
    refine hc_intro (num_CeilDiv.hs (r0_1_1.tame (m_1.trans (m_2.trans m_3))) rfl (r0_2_1.tame (m_1.trans (m_2.trans m_3))) rfl) fun v h_4 ⟨k_4, s⟩ => ?_
    obtain ⟨p_7, hp_7⟩ : ∃ p, p = quoZ cei (b0_1_0, xs0_1_1) (b0_2_0, xs0_2_1) := ⟨_, rfl⟩
    rw [← hp_7] at s
    replace g := lift_let2 hp_7 g
    obtain ⟨_, _, rfl, ⟨a_7_0, c_7_0, rfl, r_7_0⟩, ⟨rfl, i_7_1⟩⟩ := s
    refine gTup_intro rfl (uncons_intro (gAgg_intro rfl (uncons_intro (gBool_intro rfl (uncons_intro (gSlice_intro rfl (unnil_intro (uncons_intro (gInt_intro rfl (unnil_intro (?_)))))))))))
    have m_4 := k_4.tame
    have bx_3 := (bx_3.keep k_4)
    refine stA bx_3 (base_add _ _) rfl fun h_5 bx_3 k_5 m_5 => ?_
    refine stA bx_3 (base_add _ _) rfl fun h_6 bx_3 k_6 m_6 => ?_
    have bx_2 := ((((bx_2.keep k_3).keep k_4).keepB (Nat.ne_of_lt lt_2) k_5).keepB (Nat.ne_of_lt lt_2) k_6)
    exact D2.hv (KeepB.keep (KeepB.keep ((((k0.trans k_1).trans k_2).trans k_3).trans k_4) k_5 o_3) k_6 o_3) (GotE.nil _ _) bx_2 o_2 ((r_7_0.tame (m_5.trans m_6)).from (((k0.trans k_1).trans k_2).trans k_3).le) bx_3 o_3 i_7_1 (Nat.ne_of_lt lt_2) (tb.tame (m_1.trans (m_2.trans (m_3.trans (m_4.trans (m_5.trans m_6)))))) g
  refine lift_eq g (fun q_8 g => ?_) (fun q_8 g => ?_)
  · have gq := g
    subst q_8
    have g := gq
    clear gq
    refine ldA bx_1 (add2 _ _ _) rfl (gBool_intro rfl ?_)
    refine ldA bx_1 (add2 _ _ _) rfl (gSlice_intro rfl ?_)
    refine ldA bx_1 (add2 _ _ _) rfl (gBool_intro rfl ?_)
    refine ldA bx_1 (add2 _ _ _) rfl (gSlice_intro rfl ?_)
    refine hc_intro (num_NearDiv.hs (r0_1_1.tame (m_1.trans (m_2.trans m_3))) rfl (r0_2_1.tame (m_1.trans (m_2.trans m_3))) rfl) fun v h_4 ⟨k_4, s⟩ => ?_
    obtain ⟨p_9, hp_9⟩ : ∃ p, p = quoZ nea (b0_1_0, xs0_1_1) (b0_2_0, xs0_2_1) := ⟨_, rfl⟩
    rw [← hp_9] at s
    replace g := lift_let2 hp_9 g
    obtain ⟨_, _, rfl, ⟨a_9_0, c_9_0, rfl, r_9_0⟩, ⟨rfl, i_9_1⟩⟩ := s
    refine gTup_intro rfl (uncons_intro (gAgg_intro rfl (uncons_intro (gBool_intro rfl (uncons_intro (gSlice_intro rfl (unnil_intro (uncons_intro (gInt_intro rfl (unnil_intro (?_)))))))))))
    have m_4 := k_4.tame
    have bx_3 := (bx_3.keep k_4)
    refine stA bx_3 (base_add _ _) rfl fun h_5 bx_3 k_5 m_5 => ?_
    refine stA bx_3 (base_add _ _) rfl fun h_6 bx_3 k_6 m_6 => ?_
    have bx_2 := ((((bx_2.keep k_3).keep k_4).keepB (Nat.ne_of_lt lt_2) k_5).keepB (Nat.ne_of_lt lt_2) k_6)
    exact D2.hv (KeepB.keep (KeepB.keep ((((k0.trans k_1).trans k_2).trans k_3).trans k_4) k_5 o_3) k_6 o_3) (GotE.nil _ _) bx_2 o_2 ((r_9_0.tame (m_5.trans m_6)).from (((k0.trans k_1).trans k_2).trans k_3).le) bx_3 o_3 i_9_1 (Nat.ne_of_lt lt_2) (tb.tame (m_1.trans (m_2.trans (m_3.trans (m_4.trans (m_5.trans m_6)))))) g
  refine c_eq (fun _ => ?_) fun q => absurd (by omega) q
  have qk : x0_0 = 17 := by omega
  have gq := g
  subst qk
  have g := gq
  clear gq
  refine ldA bx_1 (add2 _ _ _) rfl (gBool_intro rfl ?_)
  refine ldA bx_1 (add2 _ _ _) rfl (gSlice_intro rfl ?_)
  refine ldA bx_1 (add2 _ _ _) rfl (gBool_intro rfl ?_)
  refine ldA bx_1 (add2 _ _ _) rfl (gSlice_intro rfl ?_)
  refine hc_intro (num_Mod.hs (r0_1_1.tame (m_1.trans (m_2.trans m_3))) rfl (r0_2_1.tame (m_1.trans (m_2.trans m_3))) rfl) fun v h_4 ⟨k_4, s⟩ => ?_
  obtain ⟨p_10, hp_10⟩ : ∃ p, p = quoZ mo (b0_1_0, xs0_1_1) (b0_2_0, xs0_2_1) := ⟨_, rfl⟩
  rw [← hp_10] at s
  replace g := lift_let2 hp_10 g
  obtain ⟨_, _, rfl, ⟨a_10_0, c_10_0, rfl, r_10_0⟩, ⟨rfl, i_10_1⟩⟩ := s
  refine gTup_intro rfl (uncons_intro (gAgg_intro rfl (uncons_intro (gBool_intro rfl (uncons_intro (gSlice_intro rfl (unnil_intro (uncons_intro (gInt_intro rfl (unnil_intro (?_)))))))))))
  have m_4 := k_4.tame
  have bx_3 := (bx_3.keep k_4)
  refine stA bx_3 (base_add _ _) rfl fun h_5 bx_3 k_5 m_5 => ?_
  refine stA bx_3 (base_add _ _) rfl fun h_6 bx_3 k_6 m_6 => ?_
  have bx_2 := ((((bx_2.keep k_3).keep k_4).keepB (Nat.ne_of_lt lt_2) k_5).keepB (Nat.ne_of_lt lt_2) k_6)
  exact D2.hv (KeepB.keep (KeepB.keep ((((k0.trans k_1).trans k_2).trans k_3).trans k_4) k_5 o_3) k_6 o_3) (GotE.nil _ _) bx_2 o_2 ((r_10_0.tame (m_5.trans m_6)).from (((k0.trans k_1).trans k_2).trans k_3).le) bx_3 o_3 i_10_1 (Nat.ne_of_lt lt_2) (tb.tame (m_1.trans (m_2.trans (m_3.trans (m_4.trans (m_5.trans m_6)))))) g
def v (x0_0 : Int) (b0_1_0 : Bool) (xs0_1_1 : List Nat) (b0_2_0 : Bool) (xs0_2_1 : List Nat) (x0_3 : Int) : ((Bool × List Nat) × Int) := D1.v x0_0 b0_1_0 xs0_1_1 b0_2_0 xs0_2_1 x0_3
theorem hv {h : Hp} {x0_0 : Int} (i0_0 : In .i64 x0_0) (rl0_0 : 14 ≤ x0_0) (rh0_0 : x0_0 ≤ 17) {b0_1_0 : Bool} {a0_1_1 : Option Addr} {c0_1_1 l0_1_1 : Nat} {xs0_1_1 : List Nat} (r0_1_1 : Rd h a0_1_1 c0_1_1 xs0_1_1) (e0_1_1 : l0_1_1 = xs0_1_1.length) {b0_2_0 : Bool} {a0_2_1 : Option Addr} {c0_2_1 l0_2_1 : Nat} {xs0_2_1 : List Nat} (r0_2_1 : Rd h a0_2_1 c0_2_1 xs0_2_1) (e0_2_1 : l0_2_1 = xs0_2_1.length) {x0_3 : Int} (i0_3 : In .i64 x0_3) (tb : Tab h) : HC id #[.agg #[.int .i64 x0_0, .bool b0_1_0, .slice a0_1_1 l0_1_1 c0_1_1, .bool b0_2_0, .slice a0_2_1 l0_2_1 c0_2_1, .int .i64 x0_3]] h fun v_ h_ => Keep h h_ ∧ (s2 sZW (sI .i64)) h h_ v_ (v x0_0 b0_1_0 xs0_1_1 b0_2_0 xs0_2_1 x0_3) :=
  ok (D1.hv (Keep.refl _) i0_0 rl0_0 rh0_0 r0_1_1 e0_1_1 r0_2_1 e0_2_1 i0_3 tb fun v h' k s => ⟨k, s⟩)
end gnomonlaw04_number

end Go.Proofs.YtanlcacaihdceaaGreatDoor.G

/- The program's answer and the document's are one. -/
namespace Go.Proofs.YtanlcacaihdceaaGreatDoor.G
open Go.Gv
set_option linter.unusedVariables false
set_option maxRecDepth 100000
theorem doc_number {k : Int} (h1 : 14 ≤ k) (h2 : k ≤ 17) (b : Bool) (xs : List Nat) (c : Bool) (ys : List Nat) (n : Int) : gnomonlaw04_doc.v k b xs c ys n = gnomonlaw04_number.v k b xs c ys n := by
  unfold gnomonlaw04_doc.v gnomonlaw04_doc.D1.v gnomonlaw04_number.v gnomonlaw04_number.D1.v gnomonlaw04_number.D2.v
  simp only [letV, eta2]
  by_cases e14 : k = 14
  · subst e14
    have e : docTwoS 3 (b, xs) (c, ys) = quoZ flo (b, xs) (c, ys) := quo_doc 3 _ _ _ (by decide) rfl
    rw [e]; rfl
  by_cases e15 : k = 15
  · subst e15
    have e : docTwoS 4 (b, xs) (c, ys) = quoZ cei (b, xs) (c, ys) := quo_doc 4 _ _ _ (by decide) rfl
    rw [e]; rfl
  by_cases e16 : k = 16
  · subst e16
    have e : docTwoS 5 (b, xs) (c, ys) = quoZ nea (b, xs) (c, ys) := quo_doc 5 _ _ _ (by decide) rfl
    rw [e]; rfl
  by_cases e17 : k = 17
  · subst e17
    have e : docTwoS 6 (b, xs) (c, ys) = quoZ mo (b, xs) (c, ys) := quo_doc 6 _ _ _ (by decide) rfl
    rw [e]; rfl
  exfalso; omega
end Go.Proofs.YtanlcacaihdceaaGreatDoor.G

/- Functions without loops as functions of values. Written by a program of this work. -/
namespace Go.Proofs.YtanlcacaihdceaaGreatDoor.G
open Go.Gv
set_option linter.unusedVariables false
set_option maxRecDepth 100000
namespace gnomonlaw04_plays
def D3.v (b11_0 : Bool) (xs11_1 : List Nat) (x12 : Int) (b13_0 : Bool) (xs13_1 : List Nat) (x14 : Int) : Bool :=
  letV (gnomonlaw04_told.v b13_0 xs13_1 x14 b11_0 xs11_1 x12) fun p_8 =>
  p_8
theorem D3.hv {R : Rt} {h0 h : Hp} (k0 : Keep h0 h) {b11_0 : Bool} {a11_1 : Option Addr} {c11_1 : Nat} {xs11_1 : List Nat} (r11_1 : GotE eU64 h0 h a11_1 c11_1 xs11_1) {B11 : Nat} (bx11 : BlkV h B11 [.bool b11_0, .slice a11_1 xs11_1.length c11_1]) (o11 : h0.size ≤ B11) {x12 : Int} (i12 : In .i64 x12) {b13_0 : Bool} {a13_1 : Option Addr} {c13_1 : Nat} {xs13_1 : List Nat} (r13_1 : GotE eU64 h0 h a13_1 c13_1 xs13_1) {B13 : Nat} (bx13 : BlkV h B13 [.bool b13_0, .slice a13_1 xs13_1.length c13_1]) (o13 : h0.size ≤ B13) {x14 : Int} (i14 : In .i64 x14) (d11q13 : B11 ≠ B13) (tb : Tab h) (g : Post sBool h0 R (D3.v b11_0 xs11_1 x12 b13_0 xs13_1 x14)) : D3.t R (⟨B11, 0, none⟩ : Addr) x12 (⟨B13, 0, none⟩ : Addr) x14 h := by
  have lt11 := bx11.lt
  have lt13 := bx13.lt
  unfold D3.v at g
  unfold D3.t
  refine ldA bx13 (base_add _ _) rfl (gBool_intro rfl ?_)
  refine ldA bx13 (base_add _ _) rfl (gSlice_intro rfl ?_)
  refine ldA bx11 (base_add _ _) rfl (gBool_intro rfl ?_)
  refine ldA bx11 (base_add _ _) rfl (gSlice_intro rfl ?_)
  refine hc_intro (gnomonlaw04_told.hv r13_1.rd64 rfl i14 r11_1.rd64 rfl i12) fun v h_1 ⟨k_1, s⟩ => ?_
  obtain ⟨p_8, hp_8⟩ : ∃ p, p = gnomonlaw04_told.v b13_0 xs13_1 x14 b11_0 xs11_1 x12 := ⟨_, rfl⟩
  rw [← hp_8] at s
  replace g := lift_let2 hp_8 g
  obtain rfl := s
  refine gBool_intro rfl (?_)
  have m_1 := k_1.tame
  exact g _ _ (k0.trans k_1) rfl
def D2.v (x1_0 : Int) (b1_1 : Bool) (xs1_2 : List Nat) (b1_3 : Bool) (xs1_4 : List Nat) (x1_5 : Int) : Bool :=
  letV (gnomonlaw04_doc.v x1_0 b1_1 xs1_2 b1_3 xs1_4 x1_5) fun p_2 =>
  letV (gnomonlaw04_number.v x1_0 (((b1_1, xs1_2)).1) (((b1_1, xs1_2)).2) (((b1_3, xs1_4)).1) (((b1_3, xs1_4)).2) x1_5) fun p_6 =>
  D3.v p_2.1.1 p_2.1.2 p_2.2 p_6.1.1 p_6.1.2 p_6.2
theorem D2.hv {R : Rt} {h0 h : Hp} (k0 : Keep h0 h) {x1_0 : Int} (i1_0 : In .i64 x1_0) (rl1_0 : 14 ≤ x1_0) (rh1_0 : x1_0 ≤ 17) {b1_1 : Bool} {a1_2 : Option Addr} {c1_2 : Nat} {xs1_2 : List Nat} (r1_2 : Rd h a1_2 c1_2 xs1_2) {b1_3 : Bool} {a1_4 : Option Addr} {c1_4 : Nat} {xs1_4 : List Nat} (r1_4 : Rd h a1_4 c1_4 xs1_4) {x1_5 : Int} (i1_5 : In .i64 x1_5) {B1 : Nat} (bx1 : BlkV h B1 [.int .i64 x1_0, .bool b1_1, .slice a1_2 xs1_2.length c1_2, .bool b1_3, .slice a1_4 xs1_4.length c1_4, .int .i64 x1_5]) (o1 : h0.size ≤ B1) (v1 : 14 ≤ x1_0) (v2 : x1_0 ≤ 17) (tb : Tab h) (g : Post sBool h0 R (D2.v x1_0 b1_1 xs1_2 b1_3 xs1_4 x1_5)) : D2.t R (⟨B1, 0, none⟩ : Addr) h := by
  have lt1 := bx1.lt
  unfold D2.v at g
  unfold D2.t
  refine ldA bx1 (base_add _ _) rfl (gInt_intro rfl ?_)
  refine ldA bx1 (base_add _ _) rfl (gBool_intro rfl ?_)
  refine ldA bx1 (base_add _ _) rfl (gSlice_intro rfl ?_)
  refine ldA bx1 (base_add _ _) rfl (gBool_intro rfl ?_)
  refine ldA bx1 (base_add _ _) rfl (gSlice_intro rfl ?_)
  refine ldA bx1 (base_add _ _) rfl (gInt_intro rfl ?_)
  refine hc_intro (gnomonlaw04_doc.hv i1_0 (by first | assumption | decide | omega) (by first | assumption | decide | omega) r1_2 rfl r1_4 rfl i1_5) fun v h_1 ⟨k_1, s⟩ => ?_
  obtain ⟨p_2, hp_2⟩ : ∃ p, p = gnomonlaw04_doc.v x1_0 b1_1 xs1_2 b1_3 xs1_4 x1_5 := ⟨_, rfl⟩
  rw [← hp_2] at s
  replace g := lift_let2 hp_2 g
  obtain ⟨_, _, rfl, ⟨a_2_0, c_2_0, rfl, r_2_0⟩, ⟨rfl, i_2_1⟩⟩ := s
  refine gTup_intro rfl (uncons_intro (gAgg_intro rfl (uncons_intro (gBool_intro rfl (uncons_intro (gSlice_intro rfl (unnil_intro (uncons_intro (gInt_intro rfl (unnil_intro (?_)))))))))))
  have m_1 := k_1.tame
  refine boxV fun h_2 bx_3 k_2 => ?_
  have o_3 := (k0.trans k_1).le
  have lt_3 := bx_3.lt
  have m_2 := k_2.tame
  refine stA bx_3 (base_add _ _) rfl fun h_3 bx_3 k_3 m_3 => ?_
  refine stA bx_3 (base_add _ _) rfl fun h_4 bx_3 k_4 m_4 => ?_
  have bx1 := ((((bx1.keep k_1).keep k_2).keepB (Nat.ne_of_lt ((m_1).lt lt1)) k_3).keepB (Nat.ne_of_lt ((m_1).lt lt1)) k_4)
  refine ⟨blkLt (base_add _ _) ((m_1.trans (m_2.trans (m_3.trans m_4))).lt lt1), ?_⟩
  refine ldA bx1 (base_add _ _) rfl (gInt_intro rfl ?_)
  refine ⟨blkLt (base_add _ _) ((m_1.trans (m_2.trans (m_3.trans m_4))).lt lt1), ?_⟩
  refine ldA bx1 (add2 _ _ _) rfl (gBool_intro rfl ?_)
  refine ldA bx1 (add2 _ _ _) rfl (gSlice_intro rfl ?_)
  refine ⟨blkLt (base_add _ _) ((m_1.trans (m_2.trans (m_3.trans m_4))).lt lt1), ?_⟩
  refine ldA bx1 (add2 _ _ _) rfl (gBool_intro rfl ?_)
  refine ldA bx1 (add2 _ _ _) rfl (gSlice_intro rfl ?_)
  refine ⟨blkLt (base_add _ _) ((m_1.trans (m_2.trans (m_3.trans m_4))).lt lt1), ?_⟩
  refine ldA bx1 (base_add _ _) rfl (gInt_intro rfl ?_)
  refine ⟨?_, ?_⟩
  · refine hc_intro (gnomonlaw04_twin.hs (r1_2.tame (m_1.trans (m_2.trans (m_3.trans m_4)))) rfl) fun v h_5 ⟨k_5, s⟩ => ?_
    obtain ⟨a_4, c_4, rfl, r_4⟩ := s
    refine gAgg_intro rfl (uncons_intro (gBool_intro rfl (uncons_intro (gSlice_intro rfl (unnil_intro (?_))))))
    have m_5 := k_5.tame
    refine ⟨k_5.preLe (Nat.le_refl _), ?_⟩
    refine ⟨?_, ?_⟩
    · refine hc_intro (gnomonlaw04_twin.hs (r1_4.tame (m_1.trans (m_2.trans (m_3.trans (m_4.trans m_5))))) rfl) fun v h_6 ⟨k_6, s⟩ => ?_
      obtain ⟨a_5, c_5, rfl, r_5⟩ := s
      refine gAgg_intro rfl (uncons_intro (gBool_intro rfl (uncons_intro (gSlice_intro rfl (unnil_intro (?_))))))
      have m_6 := k_6.tame
      refine ⟨k_6.preLe (m_5).le, ?_⟩
      refine ⟨?_, ?_⟩
      · refine hc_intro (gnomonlaw04_number.hv i1_0 (by first | assumption | decide | omega) (by first | assumption | decide | omega) (r_4.tame (m_6)).rd64 rfl r_5.rd64 rfl i1_5 (tb.tame (m_1.trans (m_2.trans (m_3.trans (m_4.trans (m_5.trans m_6))))))) fun v h_7 ⟨k_7, s⟩ => ?_
        obtain ⟨p_6, hp_6⟩ : ∃ p, p = gnomonlaw04_number.v x1_0 (((b1_1, xs1_2)).1) (((b1_1, xs1_2)).2) (((b1_3, xs1_4)).1) (((b1_3, xs1_4)).2) x1_5 := ⟨_, rfl⟩
        rw [← hp_6] at s
        replace g := lift_let2 hp_6 g
        obtain ⟨_, _, rfl, ⟨a_6_0, c_6_0, rfl, r_6_0⟩, ⟨rfl, i_6_1⟩⟩ := s
        refine gTup_intro rfl (uncons_intro (gAgg_intro rfl (uncons_intro (gBool_intro rfl (uncons_intro (gSlice_intro rfl (unnil_intro (uncons_intro (gInt_intro rfl (unnil_intro (?_)))))))))))
        have m_7 := k_7.tame
        refine ⟨k_7.preLe (m_5.trans m_6).le, ?_⟩
        refine boxV fun h_8 bx_7 k_8 => ?_
        have o_7 := ((((KeepB.keep (KeepB.keep ((k0.trans k_1).trans k_2) k_3 o_3) k_4 o_3).trans k_5).trans k_6).trans k_7).le
        have lt_7 := bx_7.lt
        have m_8 := k_8.tame
        refine ⟨k_8.preLe (m_5.trans (m_6.trans m_7)).le, ?_⟩
        refine stA bx_7 (base_add _ _) rfl fun h_9 bx_7 k_9 m_9 => ?_
        refine stA bx_7 (base_add _ _) rfl fun h_10 bx_7 k_10 m_10 => ?_
        have bx_3 := ((((((bx_3.keep k_5).keep k_6).keep k_7).keep k_8).keepB (Nat.ne_of_lt ((m_3.trans (m_4.trans (m_5.trans (m_6.trans m_7)))).lt lt_3)) k_9).keepB (Nat.ne_of_lt ((m_3.trans (m_4.trans (m_5.trans (m_6.trans m_7)))).lt lt_3)) k_10)
        exact D3.hv (KeepB.keep (KeepB.keep (((((KeepB.keep (KeepB.keep ((k0.trans k_1).trans k_2) k_3 o_3) k_4 o_3).trans k_5).trans k_6).trans k_7).trans k_8) k_9 o_7) k_10 o_7) ((r_2_0.tame (m_2.trans (m_3.trans (m_4.trans (m_5.trans (m_6.trans (m_7.trans (m_8.trans (m_9.trans m_10))))))))).from k0.le) bx_3 o_3 i_2_1 ((r_6_0.tame (m_8.trans (m_9.trans m_10))).from (((KeepB.keep (KeepB.keep ((k0.trans k_1).trans k_2) k_3 o_3) k_4 o_3).trans k_5).trans k_6).le) bx_7 o_7 i_6_1 (Nat.ne_of_lt ((m_3.trans (m_4.trans (m_5.trans (m_6.trans m_7)))).lt lt_3)) (tb.tame (m_1.trans (m_2.trans (m_3.trans (m_4.trans (m_5.trans (m_6.trans (m_7.trans (m_8.trans (m_9.trans m_10)))))))))) g
      refine boxV fun h_7 bx_9 k_7 => ?_
      have o_9 := (((KeepB.keep (KeepB.keep ((k0.trans k_1).trans k_2) k_3 o_3) k_4 o_3).trans k_5).trans k_6).le
      have lt_9 := bx_9.lt
      have m_7 := k_7.tame
      refine ⟨k_7.preLe (m_5.trans m_6).le, ?_⟩
      refine hc_intro (gnomonlaw04_number.hv i1_0 (by first | assumption | decide | omega) (by first | assumption | decide | omega) (r_4.tame (m_6.trans m_7)).rd64 rfl (r_5.tame (m_7)).rd64 rfl i1_5 (tb.tame (m_1.trans (m_2.trans (m_3.trans (m_4.trans (m_5.trans (m_6.trans m_7)))))))) fun v h_8 ⟨k_8, s⟩ => ?_
      obtain ⟨p_10, hp_10⟩ : ∃ p, p = gnomonlaw04_number.v x1_0 (((b1_1, xs1_2)).1) (((b1_1, xs1_2)).2) (((b1_3, xs1_4)).1) (((b1_3, xs1_4)).2) x1_5 := ⟨_, rfl⟩
      rw [← hp_10] at s
      replace g := lift_let2 hp_10 g
      obtain ⟨_, _, rfl, ⟨a_10_0, c_10_0, rfl, r_10_0⟩, ⟨rfl, i_10_1⟩⟩ := s
      refine gTup_intro rfl (uncons_intro (gAgg_intro rfl (uncons_intro (gBool_intro rfl (uncons_intro (gSlice_intro rfl (unnil_intro (uncons_intro (gInt_intro rfl (unnil_intro (?_)))))))))))
      have m_8 := k_8.tame
      refine ⟨k_8.preLe (m_5.trans (m_6.trans m_7)).le, ?_⟩
      have bx_9 := (bx_9.keep k_8)
      refine stA bx_9 (base_add _ _) rfl fun h_9 bx_9 k_9 m_9 => ?_
      refine stA bx_9 (base_add _ _) rfl fun h_10 bx_9 k_10 m_10 => ?_
      have bx_3 := ((((((bx_3.keep k_5).keep k_6).keep k_7).keep k_8).keepB (Nat.ne_of_lt ((m_3.trans (m_4.trans (m_5.trans m_6))).lt lt_3)) k_9).keepB (Nat.ne_of_lt ((m_3.trans (m_4.trans (m_5.trans m_6))).lt lt_3)) k_10)
      exact D3.hv (KeepB.keep (KeepB.keep (((((KeepB.keep (KeepB.keep ((k0.trans k_1).trans k_2) k_3 o_3) k_4 o_3).trans k_5).trans k_6).trans k_7).trans k_8) k_9 o_9) k_10 o_9) ((r_2_0.tame (m_2.trans (m_3.trans (m_4.trans (m_5.trans (m_6.trans (m_7.trans (m_8.trans (m_9.trans m_10))))))))).from k0.le) bx_3 o_3 i_2_1 ((r_10_0.tame (m_9.trans m_10)).from ((((KeepB.keep (KeepB.keep ((k0.trans k_1).trans k_2) k_3 o_3) k_4 o_3).trans k_5).trans k_6).trans k_7).le) bx_9 o_9 i_10_1 (Nat.ne_of_lt ((m_3.trans (m_4.trans (m_5.trans m_6))).lt lt_3)) (tb.tame (m_1.trans (m_2.trans (m_3.trans (m_4.trans (m_5.trans (m_6.trans (m_7.trans (m_8.trans (m_9.trans m_10)))))))))) g
    refine boxV fun h_6 bx_11 k_6 => ?_
    have o_11 := ((KeepB.keep (KeepB.keep ((k0.trans k_1).trans k_2) k_3 o_3) k_4 o_3).trans k_5).le
    have lt_11 := bx_11.lt
    have m_6 := k_6.tame
    refine ⟨k_6.preLe (m_5).le, ?_⟩
    refine hc_intro (gnomonlaw04_twin.hs (r1_4.tame (m_1.trans (m_2.trans (m_3.trans (m_4.trans (m_5.trans m_6)))))) rfl) fun v h_7 ⟨k_7, s⟩ => ?_
    obtain ⟨a_12, c_12, rfl, r_12⟩ := s
    refine gAgg_intro rfl (uncons_intro (gBool_intro rfl (uncons_intro (gSlice_intro rfl (unnil_intro (?_))))))
    have m_7 := k_7.tame
    refine ⟨k_7.preLe (m_5.trans m_6).le, ?_⟩
    refine hc_intro (gnomonlaw04_number.hv i1_0 (by first | assumption | decide | omega) (by first | assumption | decide | omega) (r_4.tame (m_6.trans m_7)).rd64 rfl r_12.rd64 rfl i1_5 (tb.tame (m_1.trans (m_2.trans (m_3.trans (m_4.trans (m_5.trans (m_6.trans m_7)))))))) fun v h_8 ⟨k_8, s⟩ => ?_
    obtain ⟨p_13, hp_13⟩ : ∃ p, p = gnomonlaw04_number.v x1_0 (((b1_1, xs1_2)).1) (((b1_1, xs1_2)).2) (((b1_3, xs1_4)).1) (((b1_3, xs1_4)).2) x1_5 := ⟨_, rfl⟩
    rw [← hp_13] at s
    replace g := lift_let2 hp_13 g
    obtain ⟨_, _, rfl, ⟨a_13_0, c_13_0, rfl, r_13_0⟩, ⟨rfl, i_13_1⟩⟩ := s
    refine gTup_intro rfl (uncons_intro (gAgg_intro rfl (uncons_intro (gBool_intro rfl (uncons_intro (gSlice_intro rfl (unnil_intro (uncons_intro (gInt_intro rfl (unnil_intro (?_)))))))))))
    have m_8 := k_8.tame
    refine ⟨k_8.preLe (m_5.trans (m_6.trans m_7)).le, ?_⟩
    have bx_11 := ((bx_11.keep k_7).keep k_8)
    refine stA bx_11 (base_add _ _) rfl fun h_9 bx_11 k_9 m_9 => ?_
    refine stA bx_11 (base_add _ _) rfl fun h_10 bx_11 k_10 m_10 => ?_
    have bx_3 := ((((((bx_3.keep k_5).keep k_6).keep k_7).keep k_8).keepB (Nat.ne_of_lt ((m_3.trans (m_4.trans m_5)).lt lt_3)) k_9).keepB (Nat.ne_of_lt ((m_3.trans (m_4.trans m_5)).lt lt_3)) k_10)
    exact D3.hv (KeepB.keep (KeepB.keep (((((KeepB.keep (KeepB.keep ((k0.trans k_1).trans k_2) k_3 o_3) k_4 o_3).trans k_5).trans k_6).trans k_7).trans k_8) k_9 o_11) k_10 o_11) ((r_2_0.tame (m_2.trans (m_3.trans (m_4.trans (m_5.trans (m_6.trans (m_7.trans (m_8.trans (m_9.trans m_10))))))))).from k0.le) bx_3 o_3 i_2_1 ((r_13_0.tame (m_9.trans m_10)).from ((((KeepB.keep (KeepB.keep ((k0.trans k_1).trans k_2) k_3 o_3) k_4 o_3).trans k_5).trans k_6).trans k_7).le) bx_11 o_11 i_13_1 (Nat.ne_of_lt ((m_3.trans (m_4.trans m_5)).lt lt_3)) (tb.tame (m_1.trans (m_2.trans (m_3.trans (m_4.trans (m_5.trans (m_6.trans (m_7.trans (m_8.trans (m_9.trans m_10)))))))))) g
  refine boxV fun h_5 bx_14 k_5 => ?_
  have o_14 := (KeepB.keep (KeepB.keep ((k0.trans k_1).trans k_2) k_3 o_3) k_4 o_3).le
  have lt_14 := bx_14.lt
  have m_5 := k_5.tame
  refine ⟨k_5.preLe (Nat.le_refl _), ?_⟩
  refine hc_intro (gnomonlaw04_twin.hs (r1_2.tame (m_1.trans (m_2.trans (m_3.trans (m_4.trans m_5))))) rfl) fun v h_6 ⟨k_6, s⟩ => ?_
  obtain ⟨a_15, c_15, rfl, r_15⟩ := s
  refine gAgg_intro rfl (uncons_intro (gBool_intro rfl (uncons_intro (gSlice_intro rfl (unnil_intro (?_))))))
  have m_6 := k_6.tame
  refine ⟨k_6.preLe (m_5).le, ?_⟩
  refine hc_intro (gnomonlaw04_twin.hs (r1_4.tame (m_1.trans (m_2.trans (m_3.trans (m_4.trans (m_5.trans m_6)))))) rfl) fun v h_7 ⟨k_7, s⟩ => ?_
  obtain ⟨a_16, c_16, rfl, r_16⟩ := s
  refine gAgg_intro rfl (uncons_intro (gBool_intro rfl (uncons_intro (gSlice_intro rfl (unnil_intro (?_))))))
  have m_7 := k_7.tame
  refine ⟨k_7.preLe (m_5.trans m_6).le, ?_⟩
  refine hc_intro (gnomonlaw04_number.hv i1_0 (by first | assumption | decide | omega) (by first | assumption | decide | omega) (r_15.tame (m_7)).rd64 rfl r_16.rd64 rfl i1_5 (tb.tame (m_1.trans (m_2.trans (m_3.trans (m_4.trans (m_5.trans (m_6.trans m_7)))))))) fun v h_8 ⟨k_8, s⟩ => ?_
  obtain ⟨p_17, hp_17⟩ : ∃ p, p = gnomonlaw04_number.v x1_0 (((b1_1, xs1_2)).1) (((b1_1, xs1_2)).2) (((b1_3, xs1_4)).1) (((b1_3, xs1_4)).2) x1_5 := ⟨_, rfl⟩
  rw [← hp_17] at s
  replace g := lift_let2 hp_17 g
  obtain ⟨_, _, rfl, ⟨a_17_0, c_17_0, rfl, r_17_0⟩, ⟨rfl, i_17_1⟩⟩ := s
  refine gTup_intro rfl (uncons_intro (gAgg_intro rfl (uncons_intro (gBool_intro rfl (uncons_intro (gSlice_intro rfl (unnil_intro (uncons_intro (gInt_intro rfl (unnil_intro (?_)))))))))))
  have m_8 := k_8.tame
  refine ⟨k_8.preLe (m_5.trans (m_6.trans m_7)).le, ?_⟩
  have bx_14 := (((bx_14.keep k_6).keep k_7).keep k_8)
  refine stA bx_14 (base_add _ _) rfl fun h_9 bx_14 k_9 m_9 => ?_
  refine stA bx_14 (base_add _ _) rfl fun h_10 bx_14 k_10 m_10 => ?_
  have bx_3 := ((((((bx_3.keep k_5).keep k_6).keep k_7).keep k_8).keepB (Nat.ne_of_lt ((m_3.trans m_4).lt lt_3)) k_9).keepB (Nat.ne_of_lt ((m_3.trans m_4).lt lt_3)) k_10)
  exact D3.hv (KeepB.keep (KeepB.keep (((((KeepB.keep (KeepB.keep ((k0.trans k_1).trans k_2) k_3 o_3) k_4 o_3).trans k_5).trans k_6).trans k_7).trans k_8) k_9 o_14) k_10 o_14) ((r_2_0.tame (m_2.trans (m_3.trans (m_4.trans (m_5.trans (m_6.trans (m_7.trans (m_8.trans (m_9.trans m_10))))))))).from k0.le) bx_3 o_3 i_2_1 ((r_17_0.tame (m_9.trans m_10)).from ((((KeepB.keep (KeepB.keep ((k0.trans k_1).trans k_2) k_3 o_3) k_4 o_3).trans k_5).trans k_6).trans k_7).le) bx_14 o_14 i_17_1 (Nat.ne_of_lt ((m_3.trans m_4).lt lt_3)) (tb.tame (m_1.trans (m_2.trans (m_3.trans (m_4.trans (m_5.trans (m_6.trans (m_7.trans (m_8.trans (m_9.trans m_10)))))))))) g
def D1.v (x0_0 : Int) (b0_1_0 : Bool) (xs0_1_1 : List Nat) (b0_2_0 : Bool) (xs0_2_1 : List Nat) (x0_3 : Int) : Bool :=
  D2.v x0_0 b0_1_0 xs0_1_1 b0_2_0 xs0_2_1 x0_3
theorem D1.hv {R : Rt} {h0 h : Hp} (k0 : Keep h0 h) {x0_0 : Int} (i0_0 : In .i64 x0_0) (rl0_0 : 14 ≤ x0_0) (rh0_0 : x0_0 ≤ 17) {b0_1_0 : Bool} {a0_1_1 : Option Addr} {c0_1_1 l0_1_1 : Nat} {xs0_1_1 : List Nat} (r0_1_1 : Rd h a0_1_1 c0_1_1 xs0_1_1) (e0_1_1 : l0_1_1 = xs0_1_1.length) {b0_2_0 : Bool} {a0_2_1 : Option Addr} {c0_2_1 l0_2_1 : Nat} {xs0_2_1 : List Nat} (r0_2_1 : Rd h a0_2_1 c0_2_1 xs0_2_1) (e0_2_1 : l0_2_1 = xs0_2_1.length) {x0_3 : Int} (i0_3 : In .i64 x0_3) (tb : Tab h) (g : Post sBool h0 R (D1.v x0_0 b0_1_0 xs0_1_1 b0_2_0 xs0_2_1 x0_3)) : D1.t R x0_0 b0_1_0 a0_1_1 l0_1_1 c0_1_1 b0_2_0 a0_2_1 l0_2_1 c0_2_1 x0_3 h := by
  subst e0_1_1 e0_2_1
  unfold D1.v at g
  unfold D1.t
  refine boxV fun h_1 bx_1 k_1 => ?_
  have o_1 := k0.le
  have lt_1 := bx_1.lt
  have m_1 := k_1.tame
  refine ldA bx_1 (base_add _ _) rfl (gInt_intro rfl ?_)
  refine c_eq (fun q => absurd q (by omega)) fun _ => ?_
  refine c_eq (fun q => absurd q (by omega)) fun _ => ?_
  refine c_eq (fun q => absurd q (by omega)) fun _ => ?_
  refine c_eq (fun q => absurd q (by omega)) fun _ => ?_
  refine ldA bx_1 (base_add _ _) rfl (gInt_intro rfl ?_)
  refine c_dec (fun q => absurd q (by omega)) fun _ => ?_
  refine ldA bx_1 (base_add _ _) rfl (gInt_intro rfl ?_)
  refine c_dec (fun q => absurd q (by omega)) fun _ => ?_
  exact D2.hv (k0.trans k_1) i0_0 (by first | assumption | decide | omega) (by first | assumption | decide | omega) (r0_1_1.tame (m_1)) (r0_2_1.tame (m_1)) i0_3 bx_1 o_1 (by first | assumption | decide | omega) (by first | assumption | decide | omega) (tb.tame (m_1)) g
def v (x0_0 : Int) (b0_1_0 : Bool) (xs0_1_1 : List Nat) (b0_2_0 : Bool) (xs0_2_1 : List Nat) (x0_3 : Int) : Bool := D1.v x0_0 b0_1_0 xs0_1_1 b0_2_0 xs0_2_1 x0_3
theorem hv {h : Hp} {x0_0 : Int} (i0_0 : In .i64 x0_0) (rl0_0 : 14 ≤ x0_0) (rh0_0 : x0_0 ≤ 17) {b0_1_0 : Bool} {a0_1_1 : Option Addr} {c0_1_1 l0_1_1 : Nat} {xs0_1_1 : List Nat} (r0_1_1 : Rd h a0_1_1 c0_1_1 xs0_1_1) (e0_1_1 : l0_1_1 = xs0_1_1.length) {b0_2_0 : Bool} {a0_2_1 : Option Addr} {c0_2_1 l0_2_1 : Nat} {xs0_2_1 : List Nat} (r0_2_1 : Rd h a0_2_1 c0_2_1 xs0_2_1) (e0_2_1 : l0_2_1 = xs0_2_1.length) {x0_3 : Int} (i0_3 : In .i64 x0_3) (tb : Tab h) : HC id #[.agg #[.int .i64 x0_0, .bool b0_1_0, .slice a0_1_1 l0_1_1 c0_1_1, .bool b0_2_0, .slice a0_2_1 l0_2_1 c0_2_1, .int .i64 x0_3]] h fun v_ h_ => Keep h h_ ∧ sBool h h_ v_ (v x0_0 b0_1_0 xs0_1_1 b0_2_0 xs0_2_1 x0_3) :=
  ok (D1.hv (Keep.refl _) i0_0 rl0_0 rh0_0 r0_1_1 e0_1_1 r0_2_1 e0_2_1 i0_3 tb fun v h' k s => ⟨k, s⟩)
end gnomonlaw04_plays

end Go.Proofs.YtanlcacaihdceaaGreatDoor.G

/- A script of calls of layer 4: what it reads as. -/
namespace Go.Proofs.YtanlcacaihdceaaGreatDoor.G
open Go.Gv
set_option linter.unusedVariables false
set_option maxRecDepth 100000
abbrev I4 := Bool × List Nat × Unit
abbrev Op4 := Int × (I4 × (I4 × (Int × Unit)))
abbrev saysOp4 : Says Op4 := saysCons (saysInt .i64) 1 (saysCons saysInt4 2 (saysCons saysInt4 2 (saysCons (saysInt .i64) 1 saysEnd)))
abbrev RdOps4 (h : Hp) (a : Option Addr) (c : Nat) (os : List Op4) : Prop := RdList saysOp4 6 1759218604390 h a c os
theorem saysBool_lasts : Lasts saysBool := fun _ _ _ _ z _ => z
theorem saysInt4_lasts : Lasts saysInt4 := saysCons_lasts saysBool_lasts (saysCons_lasts saysWords_lasts saysEnd_lasts 1) 1
theorem saysOp4_lasts : Lasts saysOp4 := saysCons_lasts (saysInt_lasts _) (saysCons_lasts saysInt4_lasts (saysCons_lasts saysInt4_lasts (saysCons_lasts (saysInt_lasts _) saysEnd_lasts 1) 2) 2) 1
theorem RdOps4.keep {h h' : Hp} {a : Option Addr} {c : Nat} {os : List Op4} (r : RdOps4 h a c os) (k : Keep h h') : RdOps4 h' a c os := RdList.keep saysOp4_lasts r k
theorem says_twoZ {α β : Type} {S : Says α} {T : Says β} {h : Hp} {cs : List Value} {p : α × β} (z : saysCons S 2 T h cs p) : ∃ c d rest, cs = c :: d :: rest ∧ S h [c, d] p.1 ∧ T h rest p.2 := by
  obtain ⟨l, s, t⟩ := z
  match cs with
  | [] => simp at l
  | [_] => simp at l
  | c :: d :: r => exact ⟨c, d, r, rfl, s, t⟩
theorem int4_list {h : Hp} {v w : Value} {x : I4} (z : saysInt4 h [v, w] x) : ∃ a c, v = .bool x.1 ∧ w = .slice a x.2.1.length c ∧ Rd h a c x.2.1 := by
  obtain ⟨a, c, e, r⟩ := int4_open (cs := #[v, w]) z
  have e := congrArg Array.toList e
  simp only [List.cons.injEq, and_true] at e
  exact ⟨a, c, e.1, e.2, r⟩
/-- What one call of a script reads as. -/
theorem op4_open {h : Hp} {q : Addr} {vs : List Value} {o : Op4} (rl : RdL h q 0 vs) (s : saysOp4 h vs o) :
    ∃ a c b d, cellH h (q.add 0) = some (.int .i64 o.1) ∧ cellH h (q.add 1) = some (.bool o.2.1.1) ∧ cellH h (q.add 2) = some (.slice a o.2.1.2.1.length c) ∧ cellH h (q.add 3) = some (.bool o.2.2.1.1) ∧ cellH h (q.add 4) = some (.slice b o.2.2.1.2.1.length d) ∧ cellH h (q.add 5) = some (.int .i64 o.2.2.2.1) ∧
      In .i64 o.1 ∧ Rd h a c o.2.1.2.1 ∧ Rd h b d o.2.2.1.2.1 ∧ In .i64 o.2.2.2.1 := by
  obtain ⟨v0, t0, e0, ⟨f0, w0⟩, s⟩ := says_oneZ s
  obtain ⟨v1, v2, t1, e1, z1, s⟩ := says_twoZ s
  obtain ⟨v3, v4, t2, e2, z2, s⟩ := says_twoZ s
  obtain ⟨v5, t3, e3, ⟨f5, w5⟩, s⟩ := says_oneZ s
  have s : t3 = [] := s
  obtain ⟨a, c, g1, g2, r1⟩ := int4_list z1
  obtain ⟨b, d, g3, g4, r2⟩ := int4_list z2
  simp only [List.cons.injEq, and_true] at f0 f5
  subst s e3 e2 e1 e0 f0 f5 g1 g2 g3 g4
  exact ⟨a, c, b, d, rl.1, rl.2.1, rl.2.2.1, rl.2.2.2.1, rl.2.2.2.2.1, rl.2.2.2.2.2.1, in_wf w0, r1, r2, in_wf w5⟩
end Go.Proofs.YtanlcacaihdceaaGreatDoor.G

/- The law NumQuotients of the translation answers true. -/
namespace Go.Proofs.YtanlcacaihdceaaGreatDoor.G
open Go.Gv
set_option linter.unusedVariables false
set_option maxRecDepth 100000
theorem plays4_true {k : Int} (h1 : 14 ≤ k) (h2 : k ≤ 17) (b : Bool) (xs : List Nat) (c : Bool) (ys : List Nat) (n : Int) : gnomonlaw04_plays.v k b xs c ys n = true := by
  have d2 : ∀ {k : Int}, 14 ≤ k → k ≤ 17 → gnomonlaw04_plays.D2.v k b xs c ys n = true := by
    intro k h1 h2
    unfold gnomonlaw04_plays.D2.v gnomonlaw04_plays.D3.v
    simp only [letV, doc_number h1 h2]
    exact told4_same _ _
  unfold gnomonlaw04_plays.v gnomonlaw04_plays.D1.v
  exact d2 h1 h2
theorem all4_walk {R : Rt} {a : Option Addr} {c : Nat} {os : List Op4} {h0 : Hp} (r : RdOps4 h0 a c os) (tb : Tab h0) (post : ∀ h', Keep h0 h' → R (.bool true) h') :
    ∀ (k i : Nat) (h : Hp), i + k = os.length → Keep h0 h → gnomonlaw04_all.L4.t R (k + 1) 14 17 a os.length c (os.length : Int) (i : Int) h := by
  have h1 : os.length ≤ 1759218604390 := r.len
  intro k
  induction k with
  | zero =>
    intro i h hik kp
    unfold gnomonlaw04_all.L4.t gnomonlaw04_all.D5.t
    refine c_dec (fun hb => absurd hb (by omega)) fun _ => ?_
    unfold gnomonlaw04_all.D2.t
    exact post _ kp
  | succ k ih =>
    intro i h hik kp
    unfold gnomonlaw04_all.L4.t gnomonlaw04_all.D5.t
    refine c_dec (fun _ => ?_) fun hb => absurd (by omega) hb
    obtain ⟨o, ho⟩ : ∃ o, os[i]? = some o := ⟨os[i]'(by omega), by simp⟩
    refine at_list (r.keep kp) rfl rfl ho fun q vs hvs rl s => ?_
    obtain ⟨a1, c1, b1, d1, e0, e1, e2, e3, e4, e5, i0, r1, r2, i5⟩ := op4_open rl s
    refine ldC e0 ?_
    refine gInt_intro rfl ?_
    refine ldC e1 ?_
    refine gBool_intro rfl ?_
    refine ldC e2 ?_
    refine gSlice_intro rfl ?_
    refine ldC e3 ?_
    refine gBool_intro rfl ?_
    refine ldC e4 ?_
    refine gSlice_intro rfl ?_
    refine ldC e5 ?_
    refine gInt_intro rfl ?_
    refine boxV fun h2 o2 k2 => ?_
    refine stV o2 (Nat.le_of_ble_eq_true rfl) fun h3 o3 k3 => ?_
    refine stV o3 (Nat.le_of_ble_eq_true rfl) fun h4 o4 k4 => ?_
    refine stV o4 (Nat.le_of_ble_eq_true rfl) fun h5 o5 k5 => ?_
    refine stV o5 (Nat.le_of_ble_eq_true rfl) fun h6 o6 k6 => ?_
    refine stV o6 (Nat.le_of_ble_eq_true rfl) fun h7 o7 k7 => ?_
    refine stV o7 (Nat.le_of_ble_eq_true rfl) fun h8 o8 k8 => ?_
    have kh : Keep h h8 := (k3.trans (k4.trans (k5.trans (k6.trans (k7.trans k8))))).keep k2 (Nat.le_refl _)
    have k07 := kp.trans kh
    have next : ∀ h', Keep h0 h' → letK (IntKind.i64.wrap ((i : Int) + 1)) fun n36 => gnomonlaw04_all.L4.t R (k + 1) 14 17 a os.length c (os.length : Int) n36 h' := by
      intro h' k'
      refine k_i64 ((i + 1 : Nat) : Int) (by omega) (by omega) (by omega) ?_
      exact ih (i + 1) h' (by omega) k'
    refine ldV o8 rfl ?_
    refine gInt_intro rfl ?_
    refine c_dec (fun hlo => ?_) fun _ => next _ k07
    refine ldV o8 rfl ?_
    refine gInt_intro rfl ?_
    refine c_dec (fun hhi => ?_) fun _ => next _ k07
    refine ldV o8 rfl ?_
    refine gInt_intro rfl ?_
    refine ldV o8 rfl ?_
    refine gBool_intro rfl ?_
    refine ldV o8 rfl ?_
    refine gSlice_intro rfl ?_
    refine ldV o8 rfl ?_
    refine gBool_intro rfl ?_
    refine ldV o8 rfl ?_
    refine gSlice_intro rfl ?_
    refine ldV o8 rfl ?_
    refine gInt_intro rfl ?_
    refine hc_intro (gnomonlaw04_plays.hv i0 (by omega) (by omega) (r1.keep kh) rfl (r2.keep kh) rfl i5 (tb.keep k07)) fun v h9 ⟨k9, e9⟩ => ?_
    rw [plays4_true (by omega) (by omega)] at e9
    have e9 : v = .bool true := e9
    subst e9
    refine gBool_intro rfl ?_
    refine c_not (fun hh => absurd hh (by simp)) fun _ => ?_
    exact next _ (k07.trans k9)
theorem gnomonlaw04_all.hv {h : Hp} {a : Option Addr} {c l : Nat} {os : List Op4} (r : RdOps4 h a c os) (e : l = os.length) (tb : Tab h) :
    HC gnomonlaw04_all.id #[.slice a l c, .int .i64 14, .int .i64 17] h fun v h' => Keep h h' ∧ sBool h h' v true := by
  subst e
  refine gnomonlaw04_all.ok ?_
  unfold gnomonlaw04_all.t gnomonlaw04_all.D1.t gnomonlaw04_all.D3.t
  refine ⟨os.length + 1, ?_⟩
  exact all4_walk r tb (fun h' k => ⟨k, rfl⟩) os.length 0 h (by omega) (Keep.refl _)
section
variable {h : Hp} {a : Option Addr} {c l : Nat} {os : List Op4}
theorem NumQuotients_law (r : RdOps4 h a c os) (e : l = os.length) (tb : Tab h) : HC gnomonlaw04_NumQuotients.id #[.slice a l c] h fun v h' => Keep h h' ∧ v = .bool true := by
  refine gnomonlaw04_NumQuotients.ok ?_
  unfold gnomonlaw04_NumQuotients.t gnomonlaw04_NumQuotients.D1.t
  refine hc_intro (halves_hs tb) fun v h' ⟨k, s⟩ => ?_
  have s : v = .bool true := s
  subst s
  refine gBool_intro rfl ?_
  refine c_bool (fun _ => ?_) fun hh => absurd hh (by decide)
  refine hc_intro (gnomonlaw04_all.hv (r.keep k) e (tb.keep k)) fun v h2 ⟨k2, s⟩ => ?_
  have s : v = .bool true := s
  subst s
  exact gBool_intro rfl ⟨k.trans k2, rfl⟩
end
end Go.Proofs.YtanlcacaihdceaaGreatDoor.G
