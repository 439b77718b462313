/- Texts of this work, joined: ZDocE, ZDocF, ZDocG, ZDocH, ZDocI, ZDocJ, ZPlayT, ZPlayT2, ZDocKH, ZDocLH, ZPlayH, ZPlayH2, ZPlayHL, ZAllC, ZAllH. -/
import Derived.Test.YtanlcacaihdceaaGreatDoorKC0
import Derived.Test.YtanlcacaihdceaaGreatDoorKC1
/- Functions without loops as functions of values. Written by a program of this work. -/
namespace Go.Proofs.YtanlcacaihdceaaGreatDoor.G
open Go.Gv
set_option linter.unusedVariables false
set_option maxRecDepth 100000
namespace gnomonref04_Cmp
def D1.v (b0_0 : Bool) (X0_1 : Nat) (b1_0 : Bool) (X1_1 : Nat) : Int :=
  letV (dz (di (b0_0, X0_1) - di (b1_0, X1_1))) fun p_3 =>
  (cmpZ (di (p_3.1, p_3.2)) 0)
theorem D1.hv {R : Rt} {h0 h : Hp} (k0 : Keep h0 h) {b0_0 : Bool} {a0_1 : Option Addr} {c0_1 l0_1 : Nat} {X0_1 : Nat} (r0_1 : RdE eU32 h a0_1 c0_1 (D.digs X0_1)) (e0_1 : l0_1 = (D.digs X0_1).length) (w0_1 : (D.digs X0_1).length ≤ 700000) {b1_0 : Bool} {a1_1 : Option Addr} {c1_1 l1_1 : Nat} {X1_1 : Nat} (r1_1 : RdE eU32 h a1_1 c1_1 (D.digs X1_1)) (e1_1 : l1_1 = (D.digs X1_1).length) (w1_1 : (D.digs X1_1).length ≤ 700000) (g : Post (sI .i64) h0 R (D1.v b0_0 X0_1 b1_0 X1_1)) : D1.t R b0_0 a0_1 l0_1 c0_1 b1_0 a1_1 l1_1 c1_1 h := by
  subst e0_1 e1_1
  have kh := Keep.refl h
  have w_z : (D.digs 0).length = 0 := by simp [D.digs_zero]
  unfold D1.v at g
  unfold D1.t
  refine boxV fun h_1 bx_1 k_1 => ?_
  have o_1 : h0.size ≤ h.size := k0.le
  have oh_1 : h.size ≤ h.size := kh.le
  have lt_1 := bx_1.lt
  have m_1 := k_1.tame
  have k0 := k0.trans k_1
  have kh := kh.trans k_1
  refine boxV fun h_2 bx_2 k_2 => ?_
  have d_1q_2 : h.size ≠ h_1.size := Nat.ne_of_lt bx_1.lt
  have o_2 : h0.size ≤ h_1.size := k0.le
  have oh_2 : h.size ≤ h_1.size := kh.le
  have lt_2 := bx_2.lt
  have m_2 := k_2.tame
  have bx_1 := bx_1.keep k_2
  have k0 := k0.trans k_2
  have kh := kh.trans k_2
  refine ldA bx_1 (base_add _ _) rfl ?_
  refine gBool_intro rfl ?_
  refine ldA bx_1 (base_add _ _) rfl ?_
  refine gSlice_intro rfl ?_
  refine ldA bx_2 (base_add _ _) rfl ?_
  refine gBool_intro rfl ?_
  refine ldA bx_2 (base_add _ _) rfl ?_
  refine gSlice_intro rfl ?_
  refine hc_intro (gnomonref04_Sub.hs (r0_1.tame (m_1.trans m_2)) rfl (r1_1.tame (m_1.trans m_2)) rfl (by first | assumption | decide | omega) (by first | assumption | decide | omega)) fun v h_3 ⟨k_3, s⟩ => ?_
  obtain ⟨p_3, hp_3⟩ : ∃ p, p = dz (di (b0_0, X0_1) - di (b1_0, X1_1)) := ⟨_, rfl⟩
  rw [← hp_3] at s
  replace g := lift_let2 hp_3 g
  have w_3 := bzSub b0_0 X0_1 b1_0 X1_1
  rw [← hp_3] at w_3
  obtain ⟨a_3, c_3, rfl, r_3⟩ := s
  refine gAgg_intro rfl (uncons_intro (gBool_intro rfl (uncons_intro (gSlice_intro rfl (unnil_intro (?_))))))
  have r_3 := r_3.from k0.le
  have m_3 := k_3.tame
  have bx_1 := bx_1.keep k_3
  have bx_2 := bx_2.keep k_3
  have k0 := k0.trans k_3
  have kh := kh.trans k_3
  refine hc_intro (gnomonref04_Sign.hs r_3.rd rfl) fun v h_4 ⟨k_4, s⟩ => ?_
  obtain ⟨rfl, i_4⟩ := s
  refine gInt_intro rfl (?_)
  have m_4 := k_4.tame
  have bx_1 := bx_1.keep k_4
  have bx_2 := bx_2.keep k_4
  have k0 := k0.trans k_4
  have kh := kh.trans k_4
  exact g _ _ k0 ⟨rfl, i_4⟩
def v (b0_0 : Bool) (X0_1 : Nat) (b1_0 : Bool) (X1_1 : Nat) : Int := D1.v b0_0 X0_1 b1_0 X1_1
theorem hv {h : Hp} {b0_0 : Bool} {a0_1 : Option Addr} {c0_1 l0_1 : Nat} {X0_1 : Nat} (r0_1 : RdE eU32 h a0_1 c0_1 (D.digs X0_1)) (e0_1 : l0_1 = (D.digs X0_1).length) (w0_1 : (D.digs X0_1).length ≤ 700000) {b1_0 : Bool} {a1_1 : Option Addr} {c1_1 l1_1 : Nat} {X1_1 : Nat} (r1_1 : RdE eU32 h a1_1 c1_1 (D.digs X1_1)) (e1_1 : l1_1 = (D.digs X1_1).length) (w1_1 : (D.digs X1_1).length ≤ 700000) : HC id #[.agg #[.bool b0_0, .slice a0_1 l0_1 c0_1], .agg #[.bool b1_0, .slice a1_1 l1_1 c1_1]] h fun v_ h_ => Keep h h_ ∧ (sI .i64) h h_ v_ (v b0_0 X0_1 b1_0 X1_1) :=
  ok (D1.hv (Keep.refl _) r0_1 e0_1 w0_1 r1_1 e1_1 w1_1 fun v h' k s => ⟨k, s⟩)
end gnomonref04_Cmp



namespace gnomonref04_FloorShr
def D2.v (x1 : Int) (b2_0 : Bool) (X2_1 : Nat) (b4_0 : Bool) (X4_1 : Nat) (b5_0 : Bool) (X5_1 : Nat) : (Bool × Nat) :=
  bif b2_0 then
    letV (X2_1 % 2 ^ (Int.toNat x1)) fun p_9 =>
    bif (decide (((((D.digs p_9).length : Nat) : Int)) > (0 : Int))) then
      letV (dz (1 : Int)) fun p_11 =>
      letV (dz (di (b5_0, X5_1) - di (p_11.1, p_11.2))) fun p_12 =>
      (p_12.1, p_12.2)
    else
      (b5_0, X5_1)
  else
    (b5_0, X5_1)
theorem D2.hv {R : Rt} {h0 h : Hp} (k0 : Keep h0 h) {x1 : Int} (i1 : In .i64 x1) {b2_0 : Bool} {a2_1 : Option Addr} {c2_1 : Nat} {X2_1 : Nat} (r2_1 : RdE eU32 h a2_1 c2_1 (D.digs X2_1)) (w2_1 : (D.digs X2_1).length ≤ 700000) {B2 : Nat} (bx2 : BlkV h B2 [.bool b2_0, .slice a2_1 (D.digs X2_1).length c2_1]) (o2 : h0.size ≤ B2) {b4_0 : Bool} {a4_1 : Option Addr} {c4_1 : Nat} {X4_1 : Nat} (r4_1 : GotE eU32 h0 h a4_1 c4_1 (D.digs X4_1)) (w4_1 : (D.digs X4_1).length ≤ 700000) {B4 : Nat} (bx4 : BlkV h B4 [.bool b4_0, .slice a4_1 (D.digs X4_1).length c4_1]) (o4 : h0.size ≤ B4) {b5_0 : Bool} {a5_1 : Option Addr} {c5_1 : Nat} {X5_1 : Nat} (r5_1 : GotE eU32 h0 h a5_1 c5_1 (D.digs X5_1)) (w5_1 : (D.digs X5_1).length ≤ 700000) {B5 : Nat} (bx5 : BlkV h B5 [.bool b5_0, .slice a5_1 (D.digs X5_1).length c5_1]) (o5 : h0.size ≤ B5) (d2q4 : B2 ≠ B4) (d2q5 : B2 ≠ B5) (d4q5 : B4 ≠ B5) (v1 : 0 ≤ x1) (g : Post sZD h0 R (D2.v x1 b2_0 X2_1 b4_0 X4_1 b5_0 X5_1)) : D2.t R x1 (⟨B2, 0, none⟩ : Addr) (⟨B4, 0, none⟩ : Addr) (⟨B5, 0, none⟩ : Addr) h := by
  have kh := Keep.refl h
  have lt2 := bx2.lt
  have lt4 := bx4.lt
  have lt5 := bx5.lt
  have w_z : (D.digs 0).length = 0 := by simp [D.digs_zero]
  unfold D2.v at g
  unfold D2.t
  refine ldA bx2 (base_add _ _) rfl ?_
  refine gBool_intro rfl ?_
  refine lift_bool g (fun q_8 g => ?_) (fun q_8 g => ?_)
  · refine ldA bx2 (base_add _ _) rfl ?_
    refine gSlice_intro rfl ?_
    refine hc_intro (gnomonref01_Low.hv r2_1 rfl i1 (by first | assumption | decide | omega) (by first | assumption | decide | omega)) fun v h_1 ⟨k_1, s⟩ => ?_
    obtain ⟨p_9, hp_9⟩ : ∃ p, p = X2_1 % 2 ^ (Int.toNat x1) := ⟨_, rfl⟩
    rw [← hp_9] at s
    replace g := lift_let2 hp_9 g
    have w_9 := bdLe (Nat.mod_le X2_1 (2 ^ (Int.toNat x1)))
    rw [← hp_9] at w_9
    obtain ⟨a_9, c_9, rfl, r_9⟩ := s
    refine gSlice_intro rfl (?_)
    have r_9 := r_9.from k0.le
    have m_1 := k_1.tame
    have bx2 := bx2.keep k_1
    have bx4 := bx4.keep k_1
    have bx5 := bx5.keep k_1
    have k0 := k0.trans k_1
    have kh := kh.trans k_1
    refine lift_dec g (fun q_10 g => ?_) (fun q_10 g => ?_)
    · refine ⟨blkLt rfl ((m_1).lt lt5), ?_⟩
      refine ldA bx5 (base_add _ _) rfl ?_
      refine gBool_intro rfl ?_
      refine ldA bx5 (base_add _ _) rfl ?_
      refine gSlice_intro rfl ?_
      refine hc_intro (gnomonref04_Of.hs (show In .i64 (1 : Int) by decide)) fun v h_2 ⟨k_2, s⟩ => ?_
      obtain ⟨p_11, hp_11⟩ : ∃ p, p = dz (1 : Int) := ⟨_, rfl⟩
      rw [← hp_11] at s
      replace g := lift_let2 hp_11 g
      have w_11 := bzOf (show In .i64 (1 : Int) by decide)
      rw [← hp_11] at w_11
      obtain ⟨a_11, c_11, rfl, r_11⟩ := s
      refine gAgg_intro rfl (uncons_intro (gBool_intro rfl (uncons_intro (gSlice_intro rfl (unnil_intro (?_))))))
      have r_11 := r_11.from k0.le
      have m_2 := k_2.tame
      have bx2 := bx2.keep k_2
      have bx4 := bx4.keep k_2
      have bx5 := bx5.keep k_2
      have k0 := k0.trans k_2
      have kh := kh.trans k_2
      refine ⟨k_2.preLe (Nat.le_refl _), ?_⟩
      refine hc_intro (gnomonref04_Sub.hs (r5_1.tame (m_1.trans m_2)).rd rfl r_11.rd rfl (by first | assumption | decide | omega) (by first | assumption | decide | omega)) fun v h_3 ⟨k_3, s⟩ => ?_
      obtain ⟨p_12, hp_12⟩ : ∃ p, p = dz (di (b5_0, X5_1) - di (p_11.1, p_11.2)) := ⟨_, rfl⟩
      rw [← hp_12] at s
      replace g := lift_let2 hp_12 g
      have w_12 := bzSub b5_0 X5_1 p_11.1 p_11.2
      rw [← hp_12] at w_12
      obtain ⟨a_12, c_12, rfl, r_12⟩ := s
      refine gAgg_intro rfl (uncons_intro (gBool_intro rfl (uncons_intro (gSlice_intro rfl (unnil_intro (?_))))))
      have r_12 := r_12.from k0.le
      have m_3 := k_3.tame
      have bx2 := bx2.keep k_3
      have bx4 := bx4.keep k_3
      have bx5 := bx5.keep k_3
      have k0 := k0.trans k_3
      have kh := kh.trans k_3
      refine ⟨k_3.preLe (m_2).le, ?_⟩
      refine stA bx4 (base_add _ _) rfl fun h_4 bx4 k_4 m_4 => ?_
      have bx2 := bx2.keepB d2q4 k_4
      have bx5 := bx5.keepB (Ne.symm d4q5) k_4
      have k0 := KeepB.keep k0 k_4 o4
      refine stA bx4 (base_add _ _) rfl fun h_5 bx4 k_5 m_5 => ?_
      have bx2 := bx2.keepB d2q4 k_5
      have bx5 := bx5.keepB (Ne.symm d4q5) k_5
      have k0 := KeepB.keep k0 k_5 o4
      refine ldA bx4 (base_add _ _) rfl ?_
      refine gBool_intro rfl ?_
      refine ldA bx4 (base_add _ _) rfl ?_
      refine gSlice_intro rfl ?_
      exact g _ _ k0 ⟨_, _, rfl, (r_12.tame (m_4.trans m_5))⟩
    · refine ldA bx5 (base_add _ _) rfl ?_
      refine gBool_intro rfl ?_
      refine ldA bx5 (base_add _ _) rfl ?_
      refine gSlice_intro rfl ?_
      refine stA bx4 (base_add _ _) rfl fun h_2 bx4 k_2 m_2 => ?_
      have bx2 := bx2.keepB d2q4 k_2
      have bx5 := bx5.keepB (Ne.symm d4q5) k_2
      have k0 := KeepB.keep k0 k_2 o4
      refine stA bx4 (base_add _ _) rfl fun h_3 bx4 k_3 m_3 => ?_
      have bx2 := bx2.keepB d2q4 k_3
      have bx5 := bx5.keepB (Ne.symm d4q5) k_3
      have k0 := KeepB.keep k0 k_3 o4
      refine ldA bx4 (base_add _ _) rfl ?_
      refine gBool_intro rfl ?_
      refine ldA bx4 (base_add _ _) rfl ?_
      refine gSlice_intro rfl ?_
      exact g _ _ k0 ⟨_, _, rfl, (r5_1.tame (m_1.trans (m_2.trans m_3)))⟩
  · refine ldA bx5 (base_add _ _) rfl ?_
    refine gBool_intro rfl ?_
    refine ldA bx5 (base_add _ _) rfl ?_
    refine gSlice_intro rfl ?_
    refine stA bx4 (base_add _ _) rfl fun h_1 bx4 k_1 m_1 => ?_
    have bx2 := bx2.keepB d2q4 k_1
    have bx5 := bx5.keepB (Ne.symm d4q5) k_1
    have k0 := KeepB.keep k0 k_1 o4
    refine stA bx4 (base_add _ _) rfl fun h_2 bx4 k_2 m_2 => ?_
    have bx2 := bx2.keepB d2q4 k_2
    have bx5 := bx5.keepB (Ne.symm d4q5) k_2
    have k0 := KeepB.keep k0 k_2 o4
    refine ldA bx4 (base_add _ _) rfl ?_
    refine gBool_intro rfl ?_
    refine ldA bx4 (base_add _ _) rfl ?_
    refine gSlice_intro rfl ?_
    exact g _ _ k0 ⟨_, _, rfl, (r5_1.tame (m_1.trans m_2))⟩
def D1.v (b0_0 : Bool) (X0_1 : Nat) (x1 : Int) : (Bool × Nat) :=
  bif (decide (x1 ≤ (0 : Int))) then
    letV (dz (sg b0_0 X0_1)) fun p_4 =>
    (p_4.1, p_4.2)
  else
    letV (X0_1 / 2 ^ (Int.toNat x1)) fun p_5 =>
    letV (dz (sg b0_0 p_5)) fun p_6 =>
    D2.v x1 b0_0 X0_1 false 0 p_6.1 p_6.2
theorem D1.hv {R : Rt} {h0 h : Hp} (k0 : Keep h0 h) {b0_0 : Bool} {a0_1 : Option Addr} {c0_1 l0_1 : Nat} {X0_1 : Nat} (r0_1 : RdE eU32 h a0_1 c0_1 (D.digs X0_1)) (e0_1 : l0_1 = (D.digs X0_1).length) (w0_1 : (D.digs X0_1).length ≤ 150000) {x1 : Int} (i1 : In .i64 x1) (g : Post sZD h0 R (D1.v b0_0 X0_1 x1)) : D1.t R b0_0 a0_1 l0_1 c0_1 x1 h := by
  subst e0_1
  have kh := Keep.refl h
  have w_z : (D.digs 0).length = 0 := by simp [D.digs_zero]
  unfold D1.v at g
  unfold D1.t
  refine boxV fun h_1 bx_1 k_1 => ?_
  have o_1 : h0.size ≤ h.size := k0.le
  have oh_1 : h.size ≤ h.size := kh.le
  have lt_1 := bx_1.lt
  have m_1 := k_1.tame
  have k0 := k0.trans k_1
  have kh := kh.trans k_1
  refine boxV fun h_2 bx_2 k_2 => ?_
  have d_1q_2 : h.size ≠ h_1.size := Nat.ne_of_lt bx_1.lt
  have bx_2 : BlkV h_2 (h_1.size) [.bool false, .slice none (D.digs 0).length 0] := by rw [D.digs_zero]; exact bx_2
  have o_2 : h0.size ≤ h_1.size := k0.le
  have oh_2 : h.size ≤ h_1.size := kh.le
  have lt_2 := bx_2.lt
  have m_2 := k_2.tame
  have bx_1 := bx_1.keep k_2
  have k0 := k0.trans k_2
  have kh := kh.trans k_2
  refine lift_dec g (fun q_3 g => ?_) (fun q_3 g => ?_)
  · refine ldA bx_1 (base_add _ _) rfl ?_
    refine gBool_intro rfl ?_
    refine ldA bx_1 (base_add _ _) rfl ?_
    refine gSlice_intro rfl ?_
    refine hc_intro (gnomonref04_Mk.hs (r0_1.tame (m_1.trans m_2)) rfl) fun v h_3 ⟨k_3, s⟩ => ?_
    obtain ⟨p_4, hp_4⟩ : ∃ p, p = dz (sg b0_0 X0_1) := ⟨_, rfl⟩
    rw [← hp_4] at s
    replace g := lift_let2 hp_4 g
    have w_4 := bzMk b0_0 X0_1
    rw [← hp_4] at w_4
    obtain ⟨a_4, c_4, rfl, r_4⟩ := s
    refine gAgg_intro rfl (uncons_intro (gBool_intro rfl (uncons_intro (gSlice_intro rfl (unnil_intro (?_))))))
    have r_4 := r_4.from k0.le
    have m_3 := k_3.tame
    have bx_1 := bx_1.keep k_3
    have bx_2 := bx_2.keep k_3
    have k0 := k0.trans k_3
    have kh := kh.trans k_3
    refine stA bx_2 (base_add _ _) rfl fun h_4 bx_2 k_4 m_4 => ?_
    have bx_1 := bx_1.keepB d_1q_2 k_4
    have k0 := KeepB.keep k0 k_4 o_2
    have kh := KeepB.keep kh k_4 oh_2
    refine stA bx_2 (base_add _ _) rfl fun h_5 bx_2 k_5 m_5 => ?_
    have bx_1 := bx_1.keepB d_1q_2 k_5
    have k0 := KeepB.keep k0 k_5 o_2
    have kh := KeepB.keep kh k_5 oh_2
    refine ldA bx_2 (base_add _ _) rfl ?_
    refine gBool_intro rfl ?_
    refine ldA bx_2 (base_add _ _) rfl ?_
    refine gSlice_intro rfl ?_
    exact g _ _ k0 ⟨_, _, rfl, (r_4.tame (m_4.trans m_5))⟩
  · refine ⟨blkLt (base_add _ _) ((m_2).lt lt_1), ?_⟩
    refine ldA bx_1 (base_add _ _) rfl ?_
    refine gBool_intro rfl ?_
    refine ⟨blkLt (base_add _ _) ((m_2).lt lt_1), ?_⟩
    refine ldA bx_1 (base_add _ _) rfl ?_
    refine gSlice_intro rfl ?_
    refine ⟨?_, ?_⟩
    · refine hc_intro (gnomonref01_Shr.hv (r0_1.tame (m_1.trans m_2)) rfl i1 (by first | assumption | decide | omega)) fun v h_3 ⟨k_3, s⟩ => ?_
      obtain ⟨p_5, hp_5⟩ : ∃ p, p = X0_1 / 2 ^ (Int.toNat x1) := ⟨_, rfl⟩
      rw [← hp_5] at s
      replace g := lift_let2 hp_5 g
      have w_5 := bdLe (Nat.div_le_self X0_1 (2 ^ (Int.toNat x1)))
      rw [← hp_5] at w_5
      obtain ⟨a_5, c_5, rfl, r_5⟩ := s
      refine gSlice_intro rfl (?_)
      have r_5 := r_5.from k0.le
      have m_3 := k_3.tame
      have bx_1 := bx_1.keep k_3
      have bx_2 := bx_2.keep k_3
      have k0 := k0.trans k_3
      have kh := kh.trans k_3
      refine ⟨k_3.preLe (Nat.le_refl _), ?_⟩
      refine ⟨?_, ?_⟩
      · refine hc_intro (gnomonref04_Mk.hs r_5.rd rfl) fun v h_4 ⟨k_4, s⟩ => ?_
        obtain ⟨p_6, hp_6⟩ : ∃ p, p = dz (sg b0_0 p_5) := ⟨_, rfl⟩
        rw [← hp_6] at s
        replace g := lift_let2 hp_6 g
        have w_6 := bzMk b0_0 p_5
        rw [← hp_6] at w_6
        obtain ⟨a_6, c_6, rfl, r_6⟩ := s
        refine gAgg_intro rfl (uncons_intro (gBool_intro rfl (uncons_intro (gSlice_intro rfl (unnil_intro (?_))))))
        have r_6 := r_6.from k0.le
        have m_4 := k_4.tame
        have bx_1 := bx_1.keep k_4
        have bx_2 := bx_2.keep k_4
        have k0 := k0.trans k_4
        have kh := kh.trans k_4
        refine ⟨k_4.preLe (m_3).le, ?_⟩
        refine boxV fun h_5 bx_7 k_5 => ?_
        have d_1q_7 : h.size ≠ h_4.size := Nat.ne_of_lt bx_1.lt
        have d_2q_7 : h_1.size ≠ h_4.size := Nat.ne_of_lt bx_2.lt
        have bx_7 : BlkV h_5 (h_4.size) [.bool false, .slice none (D.digs 0).length 0] := by rw [D.digs_zero]; exact bx_7
        have o_7 : h0.size ≤ h_4.size := k0.le
        have oh_7 : h.size ≤ h_4.size := kh.le
        have lt_7 := bx_7.lt
        have m_5 := k_5.tame
        have bx_1 := bx_1.keep k_5
        have bx_2 := bx_2.keep k_5
        have k0 := k0.trans k_5
        have kh := kh.trans k_5
        refine ⟨k_5.preLe (m_3.trans m_4).le, ?_⟩
        refine stA bx_7 (base_add _ _) rfl fun h_6 bx_7 k_6 m_6 => ?_
        have bx_1 := bx_1.keepB d_1q_7 k_6
        have bx_2 := bx_2.keepB d_2q_7 k_6
        have k0 := KeepB.keep k0 k_6 o_7
        have kh := KeepB.keep kh k_6 oh_7
        refine stA bx_7 (base_add _ _) rfl fun h_7 bx_7 k_7 m_7 => ?_
        have bx_1 := bx_1.keepB d_1q_7 k_7
        have bx_2 := bx_2.keepB d_2q_7 k_7
        have k0 := KeepB.keep k0 k_7 o_7
        have kh := KeepB.keep kh k_7 oh_7
        exact D2.hv k0 i1 (r0_1.tame (m_1.trans (m_2.trans (m_3.trans (m_4.trans (m_5.trans (m_6.trans m_7))))))) (by first | assumption | decide | omega) bx_1 o_1 (gotD0 _ _) (by first | assumption | decide | omega) bx_2 o_2 (r_6.tame (m_5.trans (m_6.trans m_7))) (by first | assumption | decide | omega) bx_7 o_7 d_1q_2 d_1q_7 d_2q_7 (by first | assumption | decide | omega) g
      · refine boxV fun h_4 bx_13 k_4 => ?_
        have d_1q_13 : h.size ≠ h_3.size := Nat.ne_of_lt bx_1.lt
        have d_2q_13 : h_1.size ≠ h_3.size := Nat.ne_of_lt bx_2.lt
        have bx_13 : BlkV h_4 (h_3.size) [.bool false, .slice none (D.digs 0).length 0] := by rw [D.digs_zero]; exact bx_13
        have o_13 : h0.size ≤ h_3.size := k0.le
        have oh_13 : h.size ≤ h_3.size := kh.le
        have lt_13 := bx_13.lt
        have m_4 := k_4.tame
        have bx_1 := bx_1.keep k_4
        have bx_2 := bx_2.keep k_4
        have k0 := k0.trans k_4
        have kh := kh.trans k_4
        refine ⟨k_4.preLe (m_3).le, ?_⟩
        refine hc_intro (gnomonref04_Mk.hs (r_5.tame (m_4)).rd rfl) fun v h_5 ⟨k_5, s⟩ => ?_
        obtain ⟨p_14, hp_14⟩ : ∃ p, p = dz (sg b0_0 p_5) := ⟨_, rfl⟩
        rw [← hp_14] at s
        replace g := lift_let2 hp_14 g
        have w_14 := bzMk b0_0 p_5
        rw [← hp_14] at w_14
        obtain ⟨a_14, c_14, rfl, r_14⟩ := s
        refine gAgg_intro rfl (uncons_intro (gBool_intro rfl (uncons_intro (gSlice_intro rfl (unnil_intro (?_))))))
        have r_14 := r_14.from k0.le
        have m_5 := k_5.tame
        have bx_1 := bx_1.keep k_5
        have bx_2 := bx_2.keep k_5
        have bx_13 := bx_13.keep k_5
        have k0 := k0.trans k_5
        have kh := kh.trans k_5
        refine ⟨k_5.preLe (m_3.trans m_4).le, ?_⟩
        refine stA bx_13 (base_add _ _) rfl fun h_6 bx_13 k_6 m_6 => ?_
        have bx_1 := bx_1.keepB d_1q_13 k_6
        have bx_2 := bx_2.keepB d_2q_13 k_6
        have k0 := KeepB.keep k0 k_6 o_13
        have kh := KeepB.keep kh k_6 oh_13
        refine stA bx_13 (base_add _ _) rfl fun h_7 bx_13 k_7 m_7 => ?_
        have bx_1 := bx_1.keepB d_1q_13 k_7
        have bx_2 := bx_2.keepB d_2q_13 k_7
        have k0 := KeepB.keep k0 k_7 o_13
        have kh := KeepB.keep kh k_7 oh_13
        exact D2.hv k0 i1 (r0_1.tame (m_1.trans (m_2.trans (m_3.trans (m_4.trans (m_5.trans (m_6.trans m_7))))))) (by first | assumption | decide | omega) bx_1 o_1 (gotD0 _ _) (by first | assumption | decide | omega) bx_2 o_2 (r_14.tame (m_6.trans m_7)) (by first | assumption | decide | omega) bx_13 o_13 d_1q_2 d_1q_13 d_2q_13 (by first | assumption | decide | omega) g
    · refine boxV fun h_3 bx_15 k_3 => ?_
      have d_1q_15 : h.size ≠ h_2.size := Nat.ne_of_lt bx_1.lt
      have d_2q_15 : h_1.size ≠ h_2.size := Nat.ne_of_lt bx_2.lt
      have bx_15 : BlkV h_3 (h_2.size) [.bool false, .slice none (D.digs 0).length 0] := by rw [D.digs_zero]; exact bx_15
      have o_15 : h0.size ≤ h_2.size := k0.le
      have oh_15 : h.size ≤ h_2.size := kh.le
      have lt_15 := bx_15.lt
      have m_3 := k_3.tame
      have bx_1 := bx_1.keep k_3
      have bx_2 := bx_2.keep k_3
      have k0 := k0.trans k_3
      have kh := kh.trans k_3
      refine ⟨k_3.preLe (Nat.le_refl _), ?_⟩
      refine hc_intro (gnomonref01_Shr.hv (r0_1.tame (m_1.trans (m_2.trans m_3))) rfl i1 (by first | assumption | decide | omega)) fun v h_4 ⟨k_4, s⟩ => ?_
      obtain ⟨p_16, hp_16⟩ : ∃ p, p = X0_1 / 2 ^ (Int.toNat x1) := ⟨_, rfl⟩
      rw [← hp_16] at s
      replace g := lift_let2 hp_16 g
      have w_16 := bdLe (Nat.div_le_self X0_1 (2 ^ (Int.toNat x1)))
      rw [← hp_16] at w_16
      obtain ⟨a_16, c_16, rfl, r_16⟩ := s
      refine gSlice_intro rfl (?_)
      have r_16 := r_16.from k0.le
      have m_4 := k_4.tame
      have bx_1 := bx_1.keep k_4
      have bx_2 := bx_2.keep k_4
      have bx_15 := bx_15.keep k_4
      have k0 := k0.trans k_4
      have kh := kh.trans k_4
      refine ⟨k_4.preLe (m_3).le, ?_⟩
      refine hc_intro (gnomonref04_Mk.hs r_16.rd rfl) fun v h_5 ⟨k_5, s⟩ => ?_
      obtain ⟨p_17, hp_17⟩ : ∃ p, p = dz (sg b0_0 p_16) := ⟨_, rfl⟩
      rw [← hp_17] at s
      replace g := lift_let2 hp_17 g
      have w_17 := bzMk b0_0 p_16
      rw [← hp_17] at w_17
      obtain ⟨a_17, c_17, rfl, r_17⟩ := s
      refine gAgg_intro rfl (uncons_intro (gBool_intro rfl (uncons_intro (gSlice_intro rfl (unnil_intro (?_))))))
      have r_17 := r_17.from k0.le
      have m_5 := k_5.tame
      have bx_1 := bx_1.keep k_5
      have bx_2 := bx_2.keep k_5
      have bx_15 := bx_15.keep k_5
      have k0 := k0.trans k_5
      have kh := kh.trans k_5
      refine ⟨k_5.preLe (m_3.trans m_4).le, ?_⟩
      refine stA bx_15 (base_add _ _) rfl fun h_6 bx_15 k_6 m_6 => ?_
      have bx_1 := bx_1.keepB d_1q_15 k_6
      have bx_2 := bx_2.keepB d_2q_15 k_6
      have k0 := KeepB.keep k0 k_6 o_15
      have kh := KeepB.keep kh k_6 oh_15
      refine stA bx_15 (base_add _ _) rfl fun h_7 bx_15 k_7 m_7 => ?_
      have bx_1 := bx_1.keepB d_1q_15 k_7
      have bx_2 := bx_2.keepB d_2q_15 k_7
      have k0 := KeepB.keep k0 k_7 o_15
      have kh := KeepB.keep kh k_7 oh_15
      exact D2.hv k0 i1 (r0_1.tame (m_1.trans (m_2.trans (m_3.trans (m_4.trans (m_5.trans (m_6.trans m_7))))))) (by first | assumption | decide | omega) bx_1 o_1 (gotD0 _ _) (by first | assumption | decide | omega) bx_2 o_2 (r_17.tame (m_6.trans m_7)) (by first | assumption | decide | omega) bx_15 o_15 d_1q_2 d_1q_15 d_2q_15 (by first | assumption | decide | omega) g
def v (b0_0 : Bool) (X0_1 : Nat) (x1 : Int) : (Bool × Nat) := D1.v b0_0 X0_1 x1
theorem hv {h : Hp} {b0_0 : Bool} {a0_1 : Option Addr} {c0_1 l0_1 : Nat} {X0_1 : Nat} (r0_1 : RdE eU32 h a0_1 c0_1 (D.digs X0_1)) (e0_1 : l0_1 = (D.digs X0_1).length) (w0_1 : (D.digs X0_1).length ≤ 150000) {x1 : Int} (i1 : In .i64 x1) : HC id #[.agg #[.bool b0_0, .slice a0_1 l0_1 c0_1], .int .i64 x1] h fun v_ h_ => Keep h h_ ∧ sZD h h_ v_ (v b0_0 X0_1 x1) :=
  ok (D1.hv (Keep.refl _) r0_1 e0_1 w0_1 i1 fun v h' k s => ⟨k, s⟩)
end gnomonref04_FloorShr

end Go.Proofs.YtanlcacaihdceaaGreatDoor.G

/- The reference's whole numbers: comparing, rounding up, the rest, shifting down. -/
namespace Go.Proofs.YtanlcacaihdceaaGreatDoor.G
open Go.Gv
set_option linter.unusedVariables false
theorem cmp_sub (i j : Int) : cmpZ (i - j) 0 = cmpZ i j := by
  unfold cmpZ
  rcases Int.lt_trichotomy i j with h | h | h
  · rw [if_pos (by omega), if_pos h]
  · rw [if_neg (by omega), if_pos (by omega), if_neg (by omega), if_pos h]
  · rw [if_neg (by omega), if_neg (by omega), if_neg (by omega), if_neg (by omega)]
theorem rCmp_v (b c : Bool) (X Y : Nat) : gnomonref04_Cmp.v b X c Y = cmpZ (di (b, X)) (di (c, Y)) := by
  unfold gnomonref04_Cmp.v gnomonref04_Cmp.D1.v
  simp only [letV]
  rw [show di ((dz (di (b, X) - di (c, Y))).1, (dz (di (b, X) - di (c, Y))).2) = di (b, X) - di (c, Y) from di_dz _, cmp_sub]
theorem flo_one (a : Int) : flo a 1 = a := by unfold flo; rw [if_neg (by omega), Int.ediv_one]
theorem rFloorShr_v (b : Bool) (X : Nat) (k : Int) : gnomonref04_FloorShr.v b X k = dz (flo (di (b, X)) (2 ^ k.toNat)) := by
  unfold gnomonref04_FloorShr.v gnomonref04_FloorShr.D1.v
  simp only [letV]
  by_cases hk : k ≤ 0
  · simp only [hk, decide_true, cond_true]
    rw [show k.toNat = 0 by omega, Int.pow_zero, flo_one]; rfl
  · simp only [hk, decide_false, cond_false]
    unfold gnomonref04_FloorShr.D2.v
    generalize k.toNat = n
    rw [show di (b, X) = sg b X from rfl, pow2_sg]
    have hd : decide (((D.digs (X % 2 ^ n)).length : Int) > 0) = decide (X % 2 ^ n ≠ 0) := by
      rw [decide_eq_decide]; have := dlenZ (X % 2 ^ n); omega
    by_cases hX : X = 0
    · subst hX
      simp only [Nat.zero_div, sg_zero, flo_zero, Nat.zero_mod, dz0, letV, (dlenZ 0).mpr rfl]
      cases b <;> rfl
    · rw [flo_sg (pow2_ne n) fun _ => hX, Bool.xor_false]
      cases b
      · simp only [cond_false, Bool.false_eq_true, false_and, if_false]
      · simp only [cond_true, letV, true_and]
        rw [hd]
        by_cases hr : X % 2 ^ n = 0
        · simp only [hr, ne_eq, not_true_eq_false, decide_false, cond_false, if_false]
        · simp only [hr, ne_eq, not_false_eq_true, decide_true, cond_true, if_true]
          rw [show di ((dz (sg true (X / 2 ^ n))).1, (dz (sg true (X / 2 ^ n))).2) = sg true (X / 2 ^ n) from di_dz _]
          rw [show di ((dz 1).1, (dz 1).2) = 1 from rfl]
          have : sg true (X / 2 ^ n) - 1 = sg true (X / 2 ^ n + 1) := by unfold sg; simp only [if_true]; omega
          rw [this]
section
variable {a b : Option Addr} {c d l m X Y : Nat} {xs ys : List Nat} {h : Hp} {x y : Int} {p q : Bool}
theorem gnomonref04_Cmp.hs (r : RdE eU32 h a c (D.digs X)) (e : l = (D.digs X).length) (s : RdE eU32 h b d (D.digs Y)) (f : m = (D.digs Y).length) (w1 : (D.digs X).length ≤ 700000) (w2 : (D.digs Y).length ≤ 700000) : HC gnomonref04_Cmp.id #[.agg #[.bool p, .slice a l c], .agg #[.bool q, .slice b m d]] h fun v h' => Keep h h' ∧ sI .i64 h h' v (cmpZ (di (p, X)) (di (q, Y))) := by rw [← rCmp_v]; exact gnomonref04_Cmp.hv r e w1 s f w2
theorem gnomonref04_FloorShr.hs (r : RdE eU32 h a c (D.digs X)) (e : l = (D.digs X).length) (i : In .i64 x) (w1 : (D.digs X).length ≤ 150000) : HC gnomonref04_FloorShr.id #[.agg #[.bool p, .slice a l c], .int .i64 x] h fun v h' => Keep h h' ∧ sZD h h' v (dz (flo (di (p, X)) (2 ^ x.toNat))) := by rw [← rFloorShr_v]; exact gnomonref04_FloorShr.hv r e w1 i
end
end Go.Proofs.YtanlcacaihdceaaGreatDoor.G

/- Functions without loops as functions of values. Written by a program of this work. -/
namespace Go.Proofs.YtanlcacaihdceaaGreatDoor.G
open Go.Gv
set_option linter.unusedVariables false
set_option maxRecDepth 100000
namespace gnomonref04_Near
def D1.v (b0_0 : Bool) (X0_1 : Nat) (b1_0 : Bool) (X1_1 : Nat) : (Bool × Nat) :=
  letV (floZ (di (b0_0, X0_1)) (di (b1_0, X1_1))) fun p_4 =>
  letV (dz (di (p_4.2.1, p_4.2.2) * 2 ^ (Int.toNat (1 : Int)))) fun p_7 =>
  bif (decide (((cmpZ (di (p_7.1, p_7.2)) (di (b1_0, X1_1)))) > (0 : Int))) then
    letV (dz (1 : Int)) fun p_10 =>
    letV (dz (di (p_4.1.1, p_4.1.2) + di (p_10.1, p_10.2))) fun p_11 =>
    (p_11.1, p_11.2)
  else
    bif (((cmpZ (di (p_7.1, p_7.2)) (di (b1_0, X1_1)))) == (0 : Int)) then
      bif (!(decide (p_4.1.2 % 2 = 0))) then
        letV (dz (1 : Int)) fun p_15 =>
        letV (dz (di (p_4.1.1, p_4.1.2) + di (p_15.1, p_15.2))) fun p_16 =>
        (p_16.1, p_16.2)
      else
        (p_4.1.1, p_4.1.2)
    else
      (p_4.1.1, p_4.1.2)
theorem D1.hv {R : Rt} {h0 h : Hp} (k0 : Keep h0 h) {b0_0 : Bool} {a0_1 : Option Addr} {c0_1 l0_1 : Nat} {X0_1 : Nat} (r0_1 : RdE eU32 h a0_1 c0_1 (D.digs X0_1)) (e0_1 : l0_1 = (D.digs X0_1).length) (w0_1 : (D.digs X0_1).length ≤ 300000) {b1_0 : Bool} {a1_1 : Option Addr} {c1_1 l1_1 : Nat} {X1_1 : Nat} (r1_1 : RdE eU32 h a1_1 c1_1 (D.digs X1_1)) (e1_1 : l1_1 = (D.digs X1_1).length) (w1_1 : (D.digs X1_1).length ≤ 300000) (g : Post sZD h0 R (D1.v b0_0 X0_1 b1_0 X1_1)) : D1.t R b0_0 a0_1 l0_1 c0_1 b1_0 a1_1 l1_1 c1_1 h := by
  subst e0_1 e1_1
  have kh := Keep.refl h
  have w_z : (D.digs 0).length = 0 := by simp [D.digs_zero]
  unfold D1.v at g
  unfold D1.t
  refine boxV fun h_1 bx_1 k_1 => ?_
  have o_1 : h0.size ≤ h.size := k0.le
  have oh_1 : h.size ≤ h.size := kh.le
  have lt_1 := bx_1.lt
  have m_1 := k_1.tame
  have k0 := k0.trans k_1
  have kh := kh.trans k_1
  refine boxV fun h_2 bx_2 k_2 => ?_
  have d_1q_2 : h.size ≠ h_1.size := Nat.ne_of_lt bx_1.lt
  have o_2 : h0.size ≤ h_1.size := k0.le
  have oh_2 : h.size ≤ h_1.size := kh.le
  have lt_2 := bx_2.lt
  have m_2 := k_2.tame
  have bx_1 := bx_1.keep k_2
  have k0 := k0.trans k_2
  have kh := kh.trans k_2
  refine boxV fun h_3 bx_3 k_3 => ?_
  have d_1q_3 : h.size ≠ h_2.size := Nat.ne_of_lt bx_1.lt
  have d_2q_3 : h_1.size ≠ h_2.size := Nat.ne_of_lt bx_2.lt
  have bx_3 : BlkV h_3 (h_2.size) [.bool false, .slice none (D.digs 0).length 0] := by rw [D.digs_zero]; exact bx_3
  have o_3 : h0.size ≤ h_2.size := k0.le
  have oh_3 : h.size ≤ h_2.size := kh.le
  have lt_3 := bx_3.lt
  have m_3 := k_3.tame
  have bx_1 := bx_1.keep k_3
  have bx_2 := bx_2.keep k_3
  have k0 := k0.trans k_3
  have kh := kh.trans k_3
  refine ldA bx_1 (base_add _ _) rfl ?_
  refine gBool_intro rfl ?_
  refine ldA bx_1 (base_add _ _) rfl ?_
  refine gSlice_intro rfl ?_
  refine ldA bx_2 (base_add _ _) rfl ?_
  refine gBool_intro rfl ?_
  refine ldA bx_2 (base_add _ _) rfl ?_
  refine gSlice_intro rfl ?_
  refine hc_intro (gnomonref04_Floor.hs (r0_1.tame (m_1.trans (m_2.trans m_3))) rfl (r1_1.tame (m_1.trans (m_2.trans m_3))) rfl (by first | assumption | decide | omega) (by first | assumption | decide | omega)) fun v h_4 ⟨k_4, s⟩ => ?_
  obtain ⟨p_4, hp_4⟩ : ∃ p, p = floZ (di (b0_0, X0_1)) (di (b1_0, X1_1)) := ⟨_, rfl⟩
  rw [← hp_4] at s
  replace g := lift_let2 hp_4 g
  have w_4 := bzFlo1 b0_0 X0_1 b1_0 X1_1
  rw [← hp_4] at w_4
  have w_4_1 := bzFlo2 b0_0 X0_1 b1_0 X1_1
  rw [← hp_4] at w_4_1
  obtain ⟨_, _, rfl, ⟨a_4_0, c_4_0, rfl, r_4_0⟩, ⟨a_4_1, c_4_1, rfl, r_4_1⟩⟩ := s
  refine gTup_intro rfl (uncons_intro (gAgg_intro rfl (uncons_intro (gBool_intro rfl (uncons_intro (gSlice_intro rfl (unnil_intro (uncons_intro (gAgg_intro rfl (uncons_intro (gBool_intro rfl (uncons_intro (gSlice_intro rfl (unnil_intro (unnil_intro (?_))))))))))))))))
  have r_4_0 := r_4_0.from k0.le
  have r_4_1 := r_4_1.from k0.le
  have m_4 := k_4.tame
  have bx_1 := bx_1.keep k_4
  have bx_2 := bx_2.keep k_4
  have bx_3 := bx_3.keep k_4
  have k0 := k0.trans k_4
  have kh := kh.trans k_4
  refine boxV fun h_5 bx_5 k_5 => ?_
  have d_1q_5 : h.size ≠ h_4.size := Nat.ne_of_lt bx_1.lt
  have d_2q_5 : h_1.size ≠ h_4.size := Nat.ne_of_lt bx_2.lt
  have d_3q_5 : h_2.size ≠ h_4.size := Nat.ne_of_lt bx_3.lt
  have bx_5 : BlkV h_5 (h_4.size) [.bool false, .slice none (D.digs 0).length 0] := by rw [D.digs_zero]; exact bx_5
  have o_5 : h0.size ≤ h_4.size := k0.le
  have oh_5 : h.size ≤ h_4.size := kh.le
  have lt_5 := bx_5.lt
  have m_5 := k_5.tame
  have bx_1 := bx_1.keep k_5
  have bx_2 := bx_2.keep k_5
  have bx_3 := bx_3.keep k_5
  have k0 := k0.trans k_5
  have kh := kh.trans k_5
  refine boxV fun h_6 bx_6 k_6 => ?_
  have d_1q_6 : h.size ≠ h_5.size := Nat.ne_of_lt bx_1.lt
  have d_2q_6 : h_1.size ≠ h_5.size := Nat.ne_of_lt bx_2.lt
  have d_3q_6 : h_2.size ≠ h_5.size := Nat.ne_of_lt bx_3.lt
  have d_5q_6 : h_4.size ≠ h_5.size := Nat.ne_of_lt bx_5.lt
  have bx_6 : BlkV h_6 (h_5.size) [.bool false, .slice none (D.digs 0).length 0] := by rw [D.digs_zero]; exact bx_6
  have o_6 : h0.size ≤ h_5.size := k0.le
  have oh_6 : h.size ≤ h_5.size := kh.le
  have lt_6 := bx_6.lt
  have m_6 := k_6.tame
  have bx_1 := bx_1.keep k_6
  have bx_2 := bx_2.keep k_6
  have bx_3 := bx_3.keep k_6
  have bx_5 := bx_5.keep k_6
  have k0 := k0.trans k_6
  have kh := kh.trans k_6
  refine stA bx_5 (base_add _ _) rfl fun h_7 bx_5 k_7 m_7 => ?_
  have bx_1 := bx_1.keepB d_1q_5 k_7
  have bx_2 := bx_2.keepB d_2q_5 k_7
  have bx_3 := bx_3.keepB d_3q_5 k_7
  have bx_6 := bx_6.keepB (Ne.symm d_5q_6) k_7
  have k0 := KeepB.keep k0 k_7 o_5
  have kh := KeepB.keep kh k_7 oh_5
  refine stA bx_5 (base_add _ _) rfl fun h_8 bx_5 k_8 m_8 => ?_
  have bx_1 := bx_1.keepB d_1q_5 k_8
  have bx_2 := bx_2.keepB d_2q_5 k_8
  have bx_3 := bx_3.keepB d_3q_5 k_8
  have bx_6 := bx_6.keepB (Ne.symm d_5q_6) k_8
  have k0 := KeepB.keep k0 k_8 o_5
  have kh := KeepB.keep kh k_8 oh_5
  refine stA bx_6 (base_add _ _) rfl fun h_9 bx_6 k_9 m_9 => ?_
  have bx_1 := bx_1.keepB d_1q_6 k_9
  have bx_2 := bx_2.keepB d_2q_6 k_9
  have bx_3 := bx_3.keepB d_3q_6 k_9
  have bx_5 := bx_5.keepB d_5q_6 k_9
  have k0 := KeepB.keep k0 k_9 o_6
  have kh := KeepB.keep kh k_9 oh_6
  refine stA bx_6 (base_add _ _) rfl fun h_10 bx_6 k_10 m_10 => ?_
  have bx_1 := bx_1.keepB d_1q_6 k_10
  have bx_2 := bx_2.keepB d_2q_6 k_10
  have bx_3 := bx_3.keepB d_3q_6 k_10
  have bx_5 := bx_5.keepB d_5q_6 k_10
  have k0 := KeepB.keep k0 k_10 o_6
  have kh := KeepB.keep kh k_10 oh_6
  refine ⟨blkLt rfl ((m_7.trans (m_8.trans (m_9.trans m_10))).lt lt_6), ?_⟩
  refine ldA bx_6 (base_add _ _) rfl ?_
  refine gBool_intro rfl ?_
  refine ldA bx_6 (base_add _ _) rfl ?_
  refine gSlice_intro rfl ?_
  refine hc_intro (gnomonref04_Shl.hs (r_4_1.tame (m_5.trans (m_6.trans (m_7.trans (m_8.trans (m_9.trans m_10)))))).rd rfl (show In .i64 (1 : Int) by decide) (by first | assumption | decide | omega) (by first | assumption | decide | omega) (by first | assumption | decide | omega)) fun v h_11 ⟨k_11, s⟩ => ?_
  obtain ⟨p_7, hp_7⟩ : ∃ p, p = dz (di (p_4.2.1, p_4.2.2) * 2 ^ (Int.toNat (1 : Int))) := ⟨_, rfl⟩
  rw [← hp_7] at s
  replace g := lift_let2 hp_7 g
  have w_7 := bzShl1 p_4.2.1 p_4.2.2
  rw [← hp_7] at w_7
  obtain ⟨a_7, c_7, rfl, r_7⟩ := s
  refine gAgg_intro rfl (uncons_intro (gBool_intro rfl (uncons_intro (gSlice_intro rfl (unnil_intro (?_))))))
  have r_7 := r_7.from k0.le
  have m_11 := k_11.tame
  have bx_1 := bx_1.keep k_11
  have bx_2 := bx_2.keep k_11
  have bx_3 := bx_3.keep k_11
  have bx_5 := bx_5.keep k_11
  have bx_6 := bx_6.keep k_11
  have k0 := k0.trans k_11
  have kh := kh.trans k_11
  refine ⟨k_11.preLe (Nat.le_refl _), ?_⟩
  refine ⟨blkLt rfl ((m_3.trans (m_4.trans (m_5.trans (m_6.trans (m_7.trans (m_8.trans (m_9.trans m_10))))))).lt lt_2), ?_⟩
  refine ldA bx_2 (base_add _ _) rfl ?_
  refine gBool_intro rfl ?_
  refine ldA bx_2 (base_add _ _) rfl ?_
  refine gSlice_intro rfl ?_
  refine hc_intro (gnomonref04_Cmp.hs r_7.rd rfl (r1_1.tame (m_1.trans (m_2.trans (m_3.trans (m_4.trans (m_5.trans (m_6.trans (m_7.trans (m_8.trans (m_9.trans (m_10.trans m_11))))))))))) rfl (by first | assumption | decide | omega) (by first | assumption | decide | omega)) fun v h_12 ⟨k_12, s⟩ => ?_
  obtain ⟨rfl, i_8⟩ := s
  refine gInt_intro rfl (?_)
  have m_12 := k_12.tame
  have bx_1 := bx_1.keep k_12
  have bx_2 := bx_2.keep k_12
  have bx_3 := bx_3.keep k_12
  have bx_5 := bx_5.keep k_12
  have bx_6 := bx_6.keep k_12
  have k0 := k0.trans k_12
  have kh := kh.trans k_12
  refine ⟨k_12.preLe (m_11).le, ?_⟩
  refine lift_dec g (fun q_9 g => ?_) (fun q_9 g => ?_)
  · refine ⟨blkLt rfl ((m_6.trans (m_7.trans (m_8.trans (m_9.trans (m_10.trans (m_11.trans m_12)))))).lt lt_5), ?_⟩
    refine ldA bx_5 (base_add _ _) rfl ?_
    refine gBool_intro rfl ?_
    refine ldA bx_5 (base_add _ _) rfl ?_
    refine gSlice_intro rfl ?_
    refine hc_intro (gnomonref04_Of.hs (show In .i64 (1 : Int) by decide)) fun v h_13 ⟨k_13, s⟩ => ?_
    obtain ⟨p_10, hp_10⟩ : ∃ p, p = dz (1 : Int) := ⟨_, rfl⟩
    rw [← hp_10] at s
    replace g := lift_let2 hp_10 g
    have w_10 := bzOf (show In .i64 (1 : Int) by decide)
    rw [← hp_10] at w_10
    obtain ⟨a_10, c_10, rfl, r_10⟩ := s
    refine gAgg_intro rfl (uncons_intro (gBool_intro rfl (uncons_intro (gSlice_intro rfl (unnil_intro (?_))))))
    have r_10 := r_10.from k0.le
    have m_13 := k_13.tame
    have bx_1 := bx_1.keep k_13
    have bx_2 := bx_2.keep k_13
    have bx_3 := bx_3.keep k_13
    have bx_5 := bx_5.keep k_13
    have bx_6 := bx_6.keep k_13
    have k0 := k0.trans k_13
    have kh := kh.trans k_13
    refine ⟨k_13.preLe (Nat.le_refl _), ?_⟩
    refine hc_intro (gnomonref04_Add.hs (r_4_0.tame (m_5.trans (m_6.trans (m_7.trans (m_8.trans (m_9.trans (m_10.trans (m_11.trans (m_12.trans m_13))))))))).rd rfl r_10.rd rfl (by first | assumption | decide | omega) (by first | assumption | decide | omega)) fun v h_14 ⟨k_14, s⟩ => ?_
    obtain ⟨p_11, hp_11⟩ : ∃ p, p = dz (di (p_4.1.1, p_4.1.2) + di (p_10.1, p_10.2)) := ⟨_, rfl⟩
    rw [← hp_11] at s
    replace g := lift_let2 hp_11 g
    have w_11 := bzAdd p_4.1.1 p_4.1.2 p_10.1 p_10.2
    rw [← hp_11] at w_11
    obtain ⟨a_11, c_11, rfl, r_11⟩ := s
    refine gAgg_intro rfl (uncons_intro (gBool_intro rfl (uncons_intro (gSlice_intro rfl (unnil_intro (?_))))))
    have r_11 := r_11.from k0.le
    have m_14 := k_14.tame
    have bx_1 := bx_1.keep k_14
    have bx_2 := bx_2.keep k_14
    have bx_3 := bx_3.keep k_14
    have bx_5 := bx_5.keep k_14
    have bx_6 := bx_6.keep k_14
    have k0 := k0.trans k_14
    have kh := kh.trans k_14
    refine ⟨k_14.preLe (m_13).le, ?_⟩
    refine stA bx_3 (base_add _ _) rfl fun h_15 bx_3 k_15 m_15 => ?_
    have bx_1 := bx_1.keepB d_1q_3 k_15
    have bx_2 := bx_2.keepB d_2q_3 k_15
    have bx_5 := bx_5.keepB (Ne.symm d_3q_5) k_15
    have bx_6 := bx_6.keepB (Ne.symm d_3q_6) k_15
    have k0 := KeepB.keep k0 k_15 o_3
    have kh := KeepB.keep kh k_15 oh_3
    refine stA bx_3 (base_add _ _) rfl fun h_16 bx_3 k_16 m_16 => ?_
    have bx_1 := bx_1.keepB d_1q_3 k_16
    have bx_2 := bx_2.keepB d_2q_3 k_16
    have bx_5 := bx_5.keepB (Ne.symm d_3q_5) k_16
    have bx_6 := bx_6.keepB (Ne.symm d_3q_6) k_16
    have k0 := KeepB.keep k0 k_16 o_3
    have kh := KeepB.keep kh k_16 oh_3
    refine ldA bx_3 (base_add _ _) rfl ?_
    refine gBool_intro rfl ?_
    refine ldA bx_3 (base_add _ _) rfl ?_
    refine gSlice_intro rfl ?_
    exact g _ _ k0 ⟨_, _, rfl, (r_11.tame (m_15.trans m_16))⟩
  · refine lift_eq g (fun q_12 g => ?_) (fun q_12 g => ?_)
    · refine ldA bx_5 (base_add _ _) rfl ?_
      refine gBool_intro rfl ?_
      refine ldA bx_5 (base_add _ _) rfl ?_
      refine gSlice_intro rfl ?_
      refine hc_intro (gnomonref04_Even.hs (r_4_0.tame (m_5.trans (m_6.trans (m_7.trans (m_8.trans (m_9.trans (m_10.trans (m_11.trans m_12)))))))).rd rfl) fun v h_13 ⟨k_13, s⟩ => ?_
      obtain rfl := s
      refine gBool_intro rfl (?_)
      have m_13 := k_13.tame
      have bx_1 := bx_1.keep k_13
      have bx_2 := bx_2.keep k_13
      have bx_3 := bx_3.keep k_13
      have bx_5 := bx_5.keep k_13
      have bx_6 := bx_6.keep k_13
      have k0 := k0.trans k_13
      have kh := kh.trans k_13
      refine lift_not g (fun q_14 g => ?_) (fun q_14 g => ?_)
      · refine ⟨blkLt rfl ((m_6.trans (m_7.trans (m_8.trans (m_9.trans (m_10.trans (m_11.trans (m_12.trans m_13))))))).lt lt_5), ?_⟩
        refine ldA bx_5 (base_add _ _) rfl ?_
        refine gBool_intro rfl ?_
        refine ldA bx_5 (base_add _ _) rfl ?_
        refine gSlice_intro rfl ?_
        refine hc_intro (gnomonref04_Of.hs (show In .i64 (1 : Int) by decide)) fun v h_14 ⟨k_14, s⟩ => ?_
        obtain ⟨p_15, hp_15⟩ : ∃ p, p = dz (1 : Int) := ⟨_, rfl⟩
        rw [← hp_15] at s
        replace g := lift_let2 hp_15 g
        have w_15 := bzOf (show In .i64 (1 : Int) by decide)
        rw [← hp_15] at w_15
        obtain ⟨a_15, c_15, rfl, r_15⟩ := s
        refine gAgg_intro rfl (uncons_intro (gBool_intro rfl (uncons_intro (gSlice_intro rfl (unnil_intro (?_))))))
        have r_15 := r_15.from k0.le
        have m_14 := k_14.tame
        have bx_1 := bx_1.keep k_14
        have bx_2 := bx_2.keep k_14
        have bx_3 := bx_3.keep k_14
        have bx_5 := bx_5.keep k_14
        have bx_6 := bx_6.keep k_14
        have k0 := k0.trans k_14
        have kh := kh.trans k_14
        refine ⟨k_14.preLe (Nat.le_refl _), ?_⟩
        refine hc_intro (gnomonref04_Add.hs (r_4_0.tame (m_5.trans (m_6.trans (m_7.trans (m_8.trans (m_9.trans (m_10.trans (m_11.trans (m_12.trans (m_13.trans m_14)))))))))).rd rfl r_15.rd rfl (by first | assumption | decide | omega) (by first | assumption | decide | omega)) fun v h_15 ⟨k_15, s⟩ => ?_
        obtain ⟨p_16, hp_16⟩ : ∃ p, p = dz (di (p_4.1.1, p_4.1.2) + di (p_15.1, p_15.2)) := ⟨_, rfl⟩
        rw [← hp_16] at s
        replace g := lift_let2 hp_16 g
        have w_16 := bzAdd p_4.1.1 p_4.1.2 p_15.1 p_15.2
        rw [← hp_16] at w_16
        obtain ⟨a_16, c_16, rfl, r_16⟩ := s
        refine gAgg_intro rfl (uncons_intro (gBool_intro rfl (uncons_intro (gSlice_intro rfl (unnil_intro (?_))))))
        have r_16 := r_16.from k0.le
        have m_15 := k_15.tame
        have bx_1 := bx_1.keep k_15
        have bx_2 := bx_2.keep k_15
        have bx_3 := bx_3.keep k_15
        have bx_5 := bx_5.keep k_15
        have bx_6 := bx_6.keep k_15
        have k0 := k0.trans k_15
        have kh := kh.trans k_15
        refine ⟨k_15.preLe (m_14).le, ?_⟩
        refine stA bx_3 (base_add _ _) rfl fun h_16 bx_3 k_16 m_16 => ?_
        have bx_1 := bx_1.keepB d_1q_3 k_16
        have bx_2 := bx_2.keepB d_2q_3 k_16
        have bx_5 := bx_5.keepB (Ne.symm d_3q_5) k_16
        have bx_6 := bx_6.keepB (Ne.symm d_3q_6) k_16
        have k0 := KeepB.keep k0 k_16 o_3
        have kh := KeepB.keep kh k_16 oh_3
        refine stA bx_3 (base_add _ _) rfl fun h_17 bx_3 k_17 m_17 => ?_
        have bx_1 := bx_1.keepB d_1q_3 k_17
        have bx_2 := bx_2.keepB d_2q_3 k_17
        have bx_5 := bx_5.keepB (Ne.symm d_3q_5) k_17
        have bx_6 := bx_6.keepB (Ne.symm d_3q_6) k_17
        have k0 := KeepB.keep k0 k_17 o_3
        have kh := KeepB.keep kh k_17 oh_3
        refine ldA bx_3 (base_add _ _) rfl ?_
        refine gBool_intro rfl ?_
        refine ldA bx_3 (base_add _ _) rfl ?_
        refine gSlice_intro rfl ?_
        exact g _ _ k0 ⟨_, _, rfl, (r_16.tame (m_16.trans m_17))⟩
      · refine ldA bx_5 (base_add _ _) rfl ?_
        refine gBool_intro rfl ?_
        refine ldA bx_5 (base_add _ _) rfl ?_
        refine gSlice_intro rfl ?_
        refine stA bx_3 (base_add _ _) rfl fun h_14 bx_3 k_14 m_14 => ?_
        have bx_1 := bx_1.keepB d_1q_3 k_14
        have bx_2 := bx_2.keepB d_2q_3 k_14
        have bx_5 := bx_5.keepB (Ne.symm d_3q_5) k_14
        have bx_6 := bx_6.keepB (Ne.symm d_3q_6) k_14
        have k0 := KeepB.keep k0 k_14 o_3
        have kh := KeepB.keep kh k_14 oh_3
        refine stA bx_3 (base_add _ _) rfl fun h_15 bx_3 k_15 m_15 => ?_
        have bx_1 := bx_1.keepB d_1q_3 k_15
        have bx_2 := bx_2.keepB d_2q_3 k_15
        have bx_5 := bx_5.keepB (Ne.symm d_3q_5) k_15
        have bx_6 := bx_6.keepB (Ne.symm d_3q_6) k_15
        have k0 := KeepB.keep k0 k_15 o_3
        have kh := KeepB.keep kh k_15 oh_3
        refine ldA bx_3 (base_add _ _) rfl ?_
        refine gBool_intro rfl ?_
        refine ldA bx_3 (base_add _ _) rfl ?_
        refine gSlice_intro rfl ?_
        exact g _ _ k0 ⟨_, _, rfl, (r_4_0.tame (m_5.trans (m_6.trans (m_7.trans (m_8.trans (m_9.trans (m_10.trans (m_11.trans (m_12.trans (m_13.trans (m_14.trans m_15)))))))))))⟩
    · refine ldA bx_5 (base_add _ _) rfl ?_
      refine gBool_intro rfl ?_
      refine ldA bx_5 (base_add _ _) rfl ?_
      refine gSlice_intro rfl ?_
      refine stA bx_3 (base_add _ _) rfl fun h_13 bx_3 k_13 m_13 => ?_
      have bx_1 := bx_1.keepB d_1q_3 k_13
      have bx_2 := bx_2.keepB d_2q_3 k_13
      have bx_5 := bx_5.keepB (Ne.symm d_3q_5) k_13
      have bx_6 := bx_6.keepB (Ne.symm d_3q_6) k_13
      have k0 := KeepB.keep k0 k_13 o_3
      have kh := KeepB.keep kh k_13 oh_3
      refine stA bx_3 (base_add _ _) rfl fun h_14 bx_3 k_14 m_14 => ?_
      have bx_1 := bx_1.keepB d_1q_3 k_14
      have bx_2 := bx_2.keepB d_2q_3 k_14
      have bx_5 := bx_5.keepB (Ne.symm d_3q_5) k_14
      have bx_6 := bx_6.keepB (Ne.symm d_3q_6) k_14
      have k0 := KeepB.keep k0 k_14 o_3
      have kh := KeepB.keep kh k_14 oh_3
      refine ldA bx_3 (base_add _ _) rfl ?_
      refine gBool_intro rfl ?_
      refine ldA bx_3 (base_add _ _) rfl ?_
      refine gSlice_intro rfl ?_
      exact g _ _ k0 ⟨_, _, rfl, (r_4_0.tame (m_5.trans (m_6.trans (m_7.trans (m_8.trans (m_9.trans (m_10.trans (m_11.trans (m_12.trans (m_13.trans m_14))))))))))⟩
def v (b0_0 : Bool) (X0_1 : Nat) (b1_0 : Bool) (X1_1 : Nat) : (Bool × Nat) := D1.v b0_0 X0_1 b1_0 X1_1
theorem hv {h : Hp} {b0_0 : Bool} {a0_1 : Option Addr} {c0_1 l0_1 : Nat} {X0_1 : Nat} (r0_1 : RdE eU32 h a0_1 c0_1 (D.digs X0_1)) (e0_1 : l0_1 = (D.digs X0_1).length) (w0_1 : (D.digs X0_1).length ≤ 300000) {b1_0 : Bool} {a1_1 : Option Addr} {c1_1 l1_1 : Nat} {X1_1 : Nat} (r1_1 : RdE eU32 h a1_1 c1_1 (D.digs X1_1)) (e1_1 : l1_1 = (D.digs X1_1).length) (w1_1 : (D.digs X1_1).length ≤ 300000) : HC id #[.agg #[.bool b0_0, .slice a0_1 l0_1 c0_1], .agg #[.bool b1_0, .slice a1_1 l1_1 c1_1]] h fun v_ h_ => Keep h h_ ∧ sZD h h_ v_ (v b0_0 X0_1 b1_0 X1_1) :=
  ok (D1.hv (Keep.refl _) r0_1 e0_1 w0_1 r1_1 e1_1 w1_1 fun v h' k s => ⟨k, s⟩)
end gnomonref04_Near

namespace gnomonref04_CeilShr
def D1.v (b0_0 : Bool) (X0_1 : Nat) (x1 : Int) : (Bool × Nat) :=
  letV (dz (-di (b0_0, X0_1))) fun p_3 =>
  letV (dz (flo (di (p_3.1, p_3.2)) (2 ^ (Int.toNat x1)))) fun p_4 =>
  letV (dz (-di (p_4.1, p_4.2))) fun p_5 =>
  (p_5.1, p_5.2)
theorem D1.hv {R : Rt} {h0 h : Hp} (k0 : Keep h0 h) {b0_0 : Bool} {a0_1 : Option Addr} {c0_1 l0_1 : Nat} {X0_1 : Nat} (r0_1 : RdE eU32 h a0_1 c0_1 (D.digs X0_1)) (e0_1 : l0_1 = (D.digs X0_1).length) (w0_1 : (D.digs X0_1).length ≤ 100000) {x1 : Int} (i1 : In .i64 x1) (g : Post sZD h0 R (D1.v b0_0 X0_1 x1)) : D1.t R b0_0 a0_1 l0_1 c0_1 x1 h := by
  subst e0_1
  have kh := Keep.refl h
  have w_z : (D.digs 0).length = 0 := by simp [D.digs_zero]
  unfold D1.v at g
  unfold D1.t
  refine boxV fun h_1 bx_1 k_1 => ?_
  have o_1 : h0.size ≤ h.size := k0.le
  have oh_1 : h.size ≤ h.size := kh.le
  have lt_1 := bx_1.lt
  have m_1 := k_1.tame
  have k0 := k0.trans k_1
  have kh := kh.trans k_1
  refine boxV fun h_2 bx_2 k_2 => ?_
  have d_1q_2 : h.size ≠ h_1.size := Nat.ne_of_lt bx_1.lt
  have bx_2 : BlkV h_2 (h_1.size) [.bool false, .slice none (D.digs 0).length 0] := by rw [D.digs_zero]; exact bx_2
  have o_2 : h0.size ≤ h_1.size := k0.le
  have oh_2 : h.size ≤ h_1.size := kh.le
  have lt_2 := bx_2.lt
  have m_2 := k_2.tame
  have bx_1 := bx_1.keep k_2
  have k0 := k0.trans k_2
  have kh := kh.trans k_2
  refine ldA bx_1 (base_add _ _) rfl ?_
  refine gBool_intro rfl ?_
  refine ldA bx_1 (base_add _ _) rfl ?_
  refine gSlice_intro rfl ?_
  refine hc_intro (gnomonref04_Flip.hs (r0_1.tame (m_1.trans m_2)) rfl) fun v h_3 ⟨k_3, s⟩ => ?_
  obtain ⟨p_3, hp_3⟩ : ∃ p, p = dz (-di (b0_0, X0_1)) := ⟨_, rfl⟩
  rw [← hp_3] at s
  replace g := lift_let2 hp_3 g
  have w_3 := bzNeg b0_0 X0_1
  rw [← hp_3] at w_3
  obtain ⟨a_3, c_3, rfl, r_3⟩ := s
  refine gAgg_intro rfl (uncons_intro (gBool_intro rfl (uncons_intro (gSlice_intro rfl (unnil_intro (?_))))))
  have r_3 := r_3.from k0.le
  have m_3 := k_3.tame
  have bx_1 := bx_1.keep k_3
  have bx_2 := bx_2.keep k_3
  have k0 := k0.trans k_3
  have kh := kh.trans k_3
  refine hc_intro (gnomonref04_FloorShr.hs r_3.rd rfl i1 (by first | assumption | decide | omega)) fun v h_4 ⟨k_4, s⟩ => ?_
  obtain ⟨p_4, hp_4⟩ : ∃ p, p = dz (flo (di (p_3.1, p_3.2)) (2 ^ (Int.toNat x1))) := ⟨_, rfl⟩
  rw [← hp_4] at s
  replace g := lift_let2 hp_4 g
  have w_4 := bzFloorShr p_3.1 p_3.2 x1
  rw [← hp_4] at w_4
  obtain ⟨a_4, c_4, rfl, r_4⟩ := s
  refine gAgg_intro rfl (uncons_intro (gBool_intro rfl (uncons_intro (gSlice_intro rfl (unnil_intro (?_))))))
  have r_4 := r_4.from k0.le
  have m_4 := k_4.tame
  have bx_1 := bx_1.keep k_4
  have bx_2 := bx_2.keep k_4
  have k0 := k0.trans k_4
  have kh := kh.trans k_4
  refine hc_intro (gnomonref04_Flip.hs r_4.rd rfl) fun v h_5 ⟨k_5, s⟩ => ?_
  obtain ⟨p_5, hp_5⟩ : ∃ p, p = dz (-di (p_4.1, p_4.2)) := ⟨_, rfl⟩
  rw [← hp_5] at s
  replace g := lift_let2 hp_5 g
  have w_5 := bzNeg p_4.1 p_4.2
  rw [← hp_5] at w_5
  obtain ⟨a_5, c_5, rfl, r_5⟩ := s
  refine gAgg_intro rfl (uncons_intro (gBool_intro rfl (uncons_intro (gSlice_intro rfl (unnil_intro (?_))))))
  have r_5 := r_5.from k0.le
  have m_5 := k_5.tame
  have bx_1 := bx_1.keep k_5
  have bx_2 := bx_2.keep k_5
  have k0 := k0.trans k_5
  have kh := kh.trans k_5
  refine stA bx_2 (base_add _ _) rfl fun h_6 bx_2 k_6 m_6 => ?_
  have bx_1 := bx_1.keepB d_1q_2 k_6
  have k0 := KeepB.keep k0 k_6 o_2
  have kh := KeepB.keep kh k_6 oh_2
  refine stA bx_2 (base_add _ _) rfl fun h_7 bx_2 k_7 m_7 => ?_
  have bx_1 := bx_1.keepB d_1q_2 k_7
  have k0 := KeepB.keep k0 k_7 o_2
  have kh := KeepB.keep kh k_7 oh_2
  refine ldA bx_2 (base_add _ _) rfl ?_
  refine gBool_intro rfl ?_
  refine ldA bx_2 (base_add _ _) rfl ?_
  refine gSlice_intro rfl ?_
  exact g _ _ k0 ⟨_, _, rfl, (r_5.tame (m_6.trans m_7))⟩
def v (b0_0 : Bool) (X0_1 : Nat) (x1 : Int) : (Bool × Nat) := D1.v b0_0 X0_1 x1
theorem hv {h : Hp} {b0_0 : Bool} {a0_1 : Option Addr} {c0_1 l0_1 : Nat} {X0_1 : Nat} (r0_1 : RdE eU32 h a0_1 c0_1 (D.digs X0_1)) (e0_1 : l0_1 = (D.digs X0_1).length) (w0_1 : (D.digs X0_1).length ≤ 100000) {x1 : Int} (i1 : In .i64 x1) : HC id #[.agg #[.bool b0_0, .slice a0_1 l0_1 c0_1], .int .i64 x1] h fun v_ h_ => Keep h h_ ∧ sZD h h_ v_ (v b0_0 X0_1 x1) :=
  ok (D1.hv (Keep.refl _) r0_1 e0_1 w0_1 i1 fun v h' k s => ⟨k, s⟩)
end gnomonref04_CeilShr

end Go.Proofs.YtanlcacaihdceaaGreatDoor.G

/- The reference's whole numbers: to the nearest. -/
namespace Go.Proofs.YtanlcacaihdceaaGreatDoor.G
open Go.Gv
set_option linter.unusedVariables false
theorem di_dz' (i : Int) : di ((dz i).1, (dz i).2) = i := di_dz i
theorem cmpZ_gt {i j : Int} : decide (cmpZ i j > 0) = decide (j < i) := by rw [cmp_gt_iff]
theorem cmpZ_eq {i j : Int} : (cmpZ i j == 0) = decide (i = j) := by
  unfold cmpZ
  rcases Int.lt_trichotomy i j with h | h | h
  · rw [if_pos h]; have : i ≠ j := by omega
    simp [this]
  · subst h; simp
  · rw [if_neg (by omega), if_neg (by omega)]; have : i ≠ j := by omega
    simp [this]
theorem near_step {p : Bool} {A B : Nat} (hB : B ≠ 0) (hp : p = true → A ≠ 0) :
    nea (sg p A) (sg false B) = if (B : Int) < mo (sg p A) (sg false B) * 2 ∨ (mo (sg p A) (sg false B) * 2 = (B : Int) ∧ (flo (sg p A) (sg false B)).natAbs % 2 = 1) then flo (sg p A) (sg false B) + 1 else flo (sg p A) (sg false B) := by
  rw [nea_sg hB hp, flo_sg hB hp, mo_sg hB hp, Bool.xor_false, sg_abs]
  unfold nearN
  have hm := Nat.mod_lt A (show 0 < B by omega)
  generalize A % B = r at *
  generalize A / B = Q at *
  cases p
  · simp only [Bool.false_eq_true, false_and, if_false, sg_false]
    by_cases c : B < 2 * r ∨ (2 * r = B ∧ Q % 2 = 1)
    · rw [if_pos c, if_pos (by omega)]; omega
    · rw [if_neg c, if_neg (by omega)]
  · by_cases hr : r = 0
    · subst hr
      simp only [ne_eq, not_true_eq_false, and_false, if_false, sg_zero]
      rw [if_neg (by omega), if_neg (by omega)]
    · simp only [ne_eq, hr, not_false_eq_true, and_self, if_true, sg_false]
      have e : sg true (Q + 1) + 1 = sg true Q := by unfold sg; simp only [if_true]; omega
      by_cases c : B < 2 * r ∨ (2 * r = B ∧ Q % 2 = 1)
      · rw [if_pos c, if_neg (by omega)]
      · rw [if_neg c, if_pos (by omega), e]
theorem rNear_v (b c : Bool) (X Y : Nat) : gnomonref04_Near.v b X c Y = neaZ (di (b, X)) (di (c, Y)) := by
  unfold gnomonref04_Near.v gnomonref04_Near.D1.v
  by_cases h : di (c, Y) ≤ 0
  · have e : floZ (di (b, X)) (di (c, Y)) = ((false, 0), (false, 0)) := by unfold floZ; rw [if_pos h]
    rw [e]
    simp only [letV]
    have e1 : di (false, 0) * 2 ^ Int.toNat 1 = 0 := by rw [di_sg, sg_zero, Int.zero_mul]
    rw [e1, di_dz', cmpZ_gt, cmpZ_eq]
    unfold neaZ
    by_cases h2 : di (c, Y) < 0
    · simp only [h2, decide_true, cond_true, if_true]; rfl
    · have h3 : (0 : Int) = di (c, Y) := by omega
      rw [if_neg h2, if_pos h3.symm]
      simp only [h2, h3.symm, decide_false, decide_true, cond_false, cond_true]; rfl
  · have hc : c = false := by
      cases c
      · rfl
      · exfalso; apply h; rw [di_sg]; unfold sg; simp
    subst hc
    rw [floZ_pos (by omega)]
    simp only [letV]
    have e1 : (2 : Int) ^ Int.toNat 1 = 2 := rfl
    rw [di_dz', e1, di_dz', cmpZ_gt, cmpZ_eq]
    have hne : neaZ (di (b, X)) (di (false, Y)) = dz (nea (di (b, X)) (di (false, Y))) := by unfold neaZ; rw [if_neg (by omega), if_neg (by omega)]
    rw [hne]
    have hY : Y ≠ 0 := fun e => h (by subst e; rw [di_sg, sg_zero]; exact Int.le_refl _)
    obtain ⟨p, A, ea, hp, _⟩ := sg_of (di (b, X))
    have ey : di (false, Y) = sg false Y := rfl
    rw [ea, ey, near_step hY hp]
    generalize mo (sg p A) (sg false Y) = M
    generalize flo (sg p A) (sg false Y) = F
    have e2 : di ((dz F).1, (dz F).2) + di ((dz 1).1, (dz 1).2) = F + 1 := by rw [di_dz', di_dz']
    have e3 : decide ((dz F).2 % 2 = 0) = decide (F.natAbs % 2 = 0) := rfl
    have e4 : sg false Y = (Y : Int) := rfl
    simp only [e2, e3, e4]
    by_cases c1 : (Y : Int) < M * 2
    · simp only [c1, decide_true, cond_true, true_or, if_true]
    · simp only [c1, decide_false, cond_false, false_or]
      by_cases c2 : M * 2 = (Y : Int)
      · simp only [c2, decide_true, cond_true, true_and]
        rcases Nat.mod_two_eq_zero_or_one F.natAbs with e | e
        · simp only [e]; rfl
        · simp only [e]; rfl
      · simp only [c2, decide_false, cond_false, false_and, if_false]
theorem rCeilShr_v (b : Bool) (X : Nat) (k : Int) : gnomonref04_CeilShr.v b X k = dz (cei (di (b, X)) (2 ^ k.toNat)) := by
  unfold gnomonref04_CeilShr.v gnomonref04_CeilShr.D1.v
  simp only [letV]
  rw [di_dz', di_dz']; rfl
section
variable {a b : Option Addr} {c d l m X Y : Nat} {xs ys : List Nat} {h : Hp} {x y : Int} {p q : Bool}
theorem gnomonref04_Near.hs (r : RdE eU32 h a c (D.digs X)) (e : l = (D.digs X).length) (s : RdE eU32 h b d (D.digs Y)) (f : m = (D.digs Y).length) (w1 : (D.digs X).length ≤ 300000) (w2 : (D.digs Y).length ≤ 300000) : HC gnomonref04_Near.id #[.agg #[.bool p, .slice a l c], .agg #[.bool q, .slice b m d]] h fun v h' => Keep h h' ∧ sZD h h' v (neaZ (di (p, X)) (di (q, Y))) := by rw [← rNear_v]; exact gnomonref04_Near.hv r e w1 s f w2
theorem gnomonref04_CeilShr.hs (r : RdE eU32 h a c (D.digs X)) (e : l = (D.digs X).length) (i : In .i64 x) (w1 : (D.digs X).length ≤ 100000) : HC gnomonref04_CeilShr.id #[.agg #[.bool p, .slice a l c], .int .i64 x] h fun v h' => Keep h h' ∧ sZD h h' v (dz (cei (di (p, X)) (2 ^ x.toNat))) := by rw [← rCeilShr_v]; exact gnomonref04_CeilShr.hv r e w1 i
end
end Go.Proofs.YtanlcacaihdceaaGreatDoor.G

/- Functions without loops as functions of values. Written by a program of this work. -/
namespace Go.Proofs.YtanlcacaihdceaaGreatDoor.G
open Go.Gv
set_option linter.unusedVariables false
set_option maxRecDepth 100000

namespace gnomonref04_NearShr
def D1.v (b0_0 : Bool) (X0_1 : Nat) (x1 : Int) : (Bool × Nat) :=
  bif (decide (x1 ≤ (0 : Int))) then
    letV (dz (sg b0_0 X0_1)) fun p_4 =>
    (p_4.1, p_4.2)
  else
    bif (decide (x1 > ((((blen X0_1 : Nat) : Int))))) then
      (false, 0)
    else
      letV (2 ^ (Int.toNat x1)) fun p_7 =>
      letV (dz (sg false p_7)) fun p_8 =>
      letV (neaZ (di (b0_0, X0_1)) (di (p_8.1, p_8.2))) fun p_9 =>
      (p_9.1, p_9.2)
theorem D1.hv {R : Rt} {h0 h : Hp} (k0 : Keep h0 h) {b0_0 : Bool} {a0_1 : Option Addr} {c0_1 l0_1 : Nat} {X0_1 : Nat} (r0_1 : RdE eU32 h a0_1 c0_1 (D.digs X0_1)) (e0_1 : l0_1 = (D.digs X0_1).length) (w0_1 : (D.digs X0_1).length ≤ 100000) {x1 : Int} (i1 : In .i64 x1) (g : Post sZD h0 R (D1.v b0_0 X0_1 x1)) : D1.t R b0_0 a0_1 l0_1 c0_1 x1 h := by
  subst e0_1
  have kh := Keep.refl h
  have w_z : (D.digs 0).length = 0 := by simp [D.digs_zero]
  unfold D1.v at g
  unfold D1.t
  refine boxV fun h_1 bx_1 k_1 => ?_
  have o_1 : h0.size ≤ h.size := k0.le
  have oh_1 : h.size ≤ h.size := kh.le
  have lt_1 := bx_1.lt
  have m_1 := k_1.tame
  have k0 := k0.trans k_1
  have kh := kh.trans k_1
  refine boxV fun h_2 bx_2 k_2 => ?_
  have d_1q_2 : h.size ≠ h_1.size := Nat.ne_of_lt bx_1.lt
  have bx_2 : BlkV h_2 (h_1.size) [.bool false, .slice none (D.digs 0).length 0] := by rw [D.digs_zero]; exact bx_2
  have o_2 : h0.size ≤ h_1.size := k0.le
  have oh_2 : h.size ≤ h_1.size := kh.le
  have lt_2 := bx_2.lt
  have m_2 := k_2.tame
  have bx_1 := bx_1.keep k_2
  have k0 := k0.trans k_2
  have kh := kh.trans k_2
  refine lift_dec g (fun q_3 g => ?_) (fun q_3 g => ?_)
  · refine ldA bx_1 (base_add _ _) rfl ?_
    refine gBool_intro rfl ?_
    refine ldA bx_1 (base_add _ _) rfl ?_
    refine gSlice_intro rfl ?_
    refine hc_intro (gnomonref04_Mk.hs (r0_1.tame (m_1.trans m_2)) rfl) fun v h_3 ⟨k_3, s⟩ => ?_
    obtain ⟨p_4, hp_4⟩ : ∃ p, p = dz (sg b0_0 X0_1) := ⟨_, rfl⟩
    rw [← hp_4] at s
    replace g := lift_let2 hp_4 g
    have w_4 := bzMk b0_0 X0_1
    rw [← hp_4] at w_4
    obtain ⟨a_4, c_4, rfl, r_4⟩ := s
    refine gAgg_intro rfl (uncons_intro (gBool_intro rfl (uncons_intro (gSlice_intro rfl (unnil_intro (?_))))))
    have r_4 := r_4.from k0.le
    have m_3 := k_3.tame
    have bx_1 := bx_1.keep k_3
    have bx_2 := bx_2.keep k_3
    have k0 := k0.trans k_3
    have kh := kh.trans k_3
    refine stA bx_2 (base_add _ _) rfl fun h_4 bx_2 k_4 m_4 => ?_
    have bx_1 := bx_1.keepB d_1q_2 k_4
    have k0 := KeepB.keep k0 k_4 o_2
    have kh := KeepB.keep kh k_4 oh_2
    refine stA bx_2 (base_add _ _) rfl fun h_5 bx_2 k_5 m_5 => ?_
    have bx_1 := bx_1.keepB d_1q_2 k_5
    have k0 := KeepB.keep k0 k_5 o_2
    have kh := KeepB.keep kh k_5 oh_2
    refine ldA bx_2 (base_add _ _) rfl ?_
    refine gBool_intro rfl ?_
    refine ldA bx_2 (base_add _ _) rfl ?_
    refine gSlice_intro rfl ?_
    exact g _ _ k0 ⟨_, _, rfl, (r_4.tame (m_4.trans m_5))⟩
  · refine ldA bx_1 (base_add _ _) rfl ?_
    refine gSlice_intro rfl ?_
    refine hc_intro (gnomonref01_Bits.hv (r0_1.tame (m_1.trans m_2)) rfl) fun v h_3 ⟨k_3, s⟩ => ?_
    have w_5 := bdBits X0_1
    obtain ⟨rfl, i_5⟩ := s
    refine gInt_intro rfl (?_)
    have m_3 := k_3.tame
    have bx_1 := bx_1.keep k_3
    have bx_2 := bx_2.keep k_3
    have k0 := k0.trans k_3
    have kh := kh.trans k_3
    refine lift_dec g (fun q_6 g => ?_) (fun q_6 g => ?_)
    · refine stA bx_2 (base_add _ _) rfl fun h_4 bx_2 k_4 m_4 => ?_
      have bx_1 := bx_1.keepB d_1q_2 k_4
      have k0 := KeepB.keep k0 k_4 o_2
      have kh := KeepB.keep kh k_4 oh_2
      refine stA bx_2 (base_add _ _) rfl fun h_5 bx_2 k_5 m_5 => ?_
      have bx_2 := bx_2.nilD
      have bx_1 := bx_1.keepB d_1q_2 k_5
      have k0 := KeepB.keep k0 k_5 o_2
      have kh := KeepB.keep kh k_5 oh_2
      refine ldA bx_2 (base_add _ _) rfl ?_
      refine gBool_intro rfl ?_
      refine ldA bx_2 (base_add _ _) rfl ?_
      refine gSlice_intro rfl ?_
      exact g _ _ k0 ⟨_, _, rfl, (gotD0 _ _)⟩
    · refine ⟨blkLt rfl ((m_2.trans m_3).lt lt_1), ?_⟩
      refine ldA bx_1 (base_add _ _) rfl ?_
      refine gBool_intro rfl ?_
      refine ldA bx_1 (base_add _ _) rfl ?_
      refine gSlice_intro rfl ?_
      refine hc_intro (gnomonref01_Pow2.hv i1 (by first | assumption | decide | omega) (by first | assumption | decide | omega)) fun v h_4 ⟨k_4, s⟩ => ?_
      obtain ⟨p_7, hp_7⟩ : ∃ p, p = 2 ^ (Int.toNat x1) := ⟨_, rfl⟩
      rw [← hp_7] at s
      replace g := lift_let2 hp_7 g
      have w_7 := bdPow x1
      rw [← hp_7] at w_7
      obtain ⟨a_7, c_7, rfl, r_7⟩ := s
      refine gSlice_intro rfl (?_)
      have r_7 := r_7.from k0.le
      have m_4 := k_4.tame
      have bx_1 := bx_1.keep k_4
      have bx_2 := bx_2.keep k_4
      have k0 := k0.trans k_4
      have kh := kh.trans k_4
      refine ⟨k_4.preLe (Nat.le_refl _), ?_⟩
      refine hc_intro (gnomonref04_Mk.hs r_7.rd rfl) fun v h_5 ⟨k_5, s⟩ => ?_
      obtain ⟨p_8, hp_8⟩ : ∃ p, p = dz (sg false p_7) := ⟨_, rfl⟩
      rw [← hp_8] at s
      replace g := lift_let2 hp_8 g
      have w_8 := bzMk false p_7
      rw [← hp_8] at w_8
      obtain ⟨a_8, c_8, rfl, r_8⟩ := s
      refine gAgg_intro rfl (uncons_intro (gBool_intro rfl (uncons_intro (gSlice_intro rfl (unnil_intro (?_))))))
      have r_8 := r_8.from k0.le
      have m_5 := k_5.tame
      have bx_1 := bx_1.keep k_5
      have bx_2 := bx_2.keep k_5
      have k0 := k0.trans k_5
      have kh := kh.trans k_5
      refine ⟨k_5.preLe (m_4).le, ?_⟩
      refine hc_intro (gnomonref04_Near.hs (r0_1.tame (m_1.trans (m_2.trans (m_3.trans (m_4.trans m_5))))) rfl r_8.rd rfl (by first | assumption | decide | omega) (by first | assumption | decide | omega)) fun v h_6 ⟨k_6, s⟩ => ?_
      obtain ⟨p_9, hp_9⟩ : ∃ p, p = neaZ (di (b0_0, X0_1)) (di (p_8.1, p_8.2)) := ⟨_, rfl⟩
      rw [← hp_9] at s
      replace g := lift_let2 hp_9 g
      have w_9 := bzNea b0_0 X0_1 p_8.1 p_8.2
      rw [← hp_9] at w_9
      obtain ⟨a_9, c_9, rfl, r_9⟩ := s
      refine gAgg_intro rfl (uncons_intro (gBool_intro rfl (uncons_intro (gSlice_intro rfl (unnil_intro (?_))))))
      have r_9 := r_9.from k0.le
      have m_6 := k_6.tame
      have bx_1 := bx_1.keep k_6
      have bx_2 := bx_2.keep k_6
      have k0 := k0.trans k_6
      have kh := kh.trans k_6
      refine ⟨k_6.preLe (m_4.trans m_5).le, ?_⟩
      refine stA bx_2 (base_add _ _) rfl fun h_7 bx_2 k_7 m_7 => ?_
      have bx_1 := bx_1.keepB d_1q_2 k_7
      have k0 := KeepB.keep k0 k_7 o_2
      have kh := KeepB.keep kh k_7 oh_2
      refine stA bx_2 (base_add _ _) rfl fun h_8 bx_2 k_8 m_8 => ?_
      have bx_1 := bx_1.keepB d_1q_2 k_8
      have k0 := KeepB.keep k0 k_8 o_2
      have kh := KeepB.keep kh k_8 oh_2
      refine ldA bx_2 (base_add _ _) rfl ?_
      refine gBool_intro rfl ?_
      refine ldA bx_2 (base_add _ _) rfl ?_
      refine gSlice_intro rfl ?_
      exact g _ _ k0 ⟨_, _, rfl, (r_9.tame (m_7.trans m_8))⟩
def v (b0_0 : Bool) (X0_1 : Nat) (x1 : Int) : (Bool × Nat) := D1.v b0_0 X0_1 x1
theorem hv {h : Hp} {b0_0 : Bool} {a0_1 : Option Addr} {c0_1 l0_1 : Nat} {X0_1 : Nat} (r0_1 : RdE eU32 h a0_1 c0_1 (D.digs X0_1)) (e0_1 : l0_1 = (D.digs X0_1).length) (w0_1 : (D.digs X0_1).length ≤ 100000) {x1 : Int} (i1 : In .i64 x1) : HC id #[.agg #[.bool b0_0, .slice a0_1 l0_1 c0_1], .int .i64 x1] h fun v_ h_ => Keep h h_ ∧ sZD h h_ v_ (v b0_0 X0_1 x1) :=
  ok (D1.hv (Keep.refl _) r0_1 e0_1 w0_1 i1 fun v h' k s => ⟨k, s⟩)
end gnomonref04_NearShr





end Go.Proofs.YtanlcacaihdceaaGreatDoor.G

/- The document's calls of one number, and the rest of the quotients. -/
namespace Go.Proofs.YtanlcacaihdceaaGreatDoor.G
open Go.Gv
set_option linter.unusedVariables false
theorem nea_one (a : Int) : nea a 1 = a := by have := nea_mul a 0; simpa using this
theorem rNearShr_v (b : Bool) (X : Nat) (k : Int) : gnomonref04_NearShr.v b X k = dz (nea (di (b, X)) (2 ^ k.toNat)) := by
  unfold gnomonref04_NearShr.v gnomonref04_NearShr.D1.v
  simp only [letV, di_dz']
  by_cases hk : k ≤ 0
  · simp only [hk, decide_true, cond_true]
    rw [show k.toNat = 0 by omega, Int.pow_zero, nea_one]; rfl
  · simp only [hk, decide_false, cond_false]
    by_cases hb : k > ((blen X : Nat) : Int)
    · simp only [hb, decide_true, cond_true]
      have hX : 2 * X < 2 ^ k.toNat := by
        obtain ⟨m, hm⟩ : ∃ m, k.toNat = m + 1 := ⟨k.toNat - 1, by omega⟩
        have : X < 2 ^ m := blen_le.mp (by omega)
        rw [hm, Nat.pow_succ]; omega
      have : nea (di (b, X)) (2 ^ k.toNat) = 0 := by
        unfold nea
        rw [di_abs, pow2_sg, sg_abs, near_zero hX, sg_zero]
      rw [this]; rfl
    · simp only [hb, decide_false, cond_false]
      have hp := pow2_pos k.toNat
      have e : sg false (2 ^ k.toNat) = (2 : Int) ^ k.toNat := (pow2_sg _).symm
      rw [e]
      show neaZ (di (b, X)) (2 ^ k.toNat) = _
      unfold neaZ
      rw [if_neg (by omega), if_neg (by omega)]
section
variable {a b : Option Addr} {c d l m X Y : Nat} {xs ys : List Nat} {h : Hp} {x y : Int} {p q : Bool}
theorem gnomonref04_NearShr.hs (r : RdE eU32 h a c (D.digs X)) (e : l = (D.digs X).length) (i : In .i64 x) (w1 : (D.digs X).length ≤ 100000) : HC gnomonref04_NearShr.id #[.agg #[.bool p, .slice a l c], .int .i64 x] h fun v h' => Keep h h' ∧ sZD h h' v (dz (nea (di (p, X)) (2 ^ x.toNat))) := by rw [← rNearShr_v]; exact gnomonref04_NearShr.hv r e w1 i
end
end Go.Proofs.YtanlcacaihdceaaGreatDoor.G

/- Functions without loops as functions of values. Written by a program of this work. -/
namespace Go.Proofs.YtanlcacaihdceaaGreatDoor.G
open Go.Gv
set_option linter.unusedVariables false
set_option maxRecDepth 100000
namespace gnomonlaw04_twin
def D1.v (b0_0 : Bool) (xs0_1 : List Nat) : (Bool × List Nat) :=
  (b0_0, (xs0_1))
theorem D1.hv {R : Rt} {h0 h : Hp} (k0 : Keep h0 h) {b0_0 : Bool} {a0_1 : Option Addr} {c0_1 l0_1 : Nat} {xs0_1 : List Nat} (r0_1 : Rd h a0_1 c0_1 xs0_1) (e0_1 : l0_1 = xs0_1.length) (g : Post sZW h0 R (D1.v b0_0 xs0_1)) : D1.t R b0_0 a0_1 l0_1 c0_1 h := by
  subst e0_1
  unfold D1.v at g
  unfold D1.t
  refine boxV fun h_1 bx_1 k_1 => ?_
  have o_1 := k0.le
  have lt_1 := bx_1.lt
  have m_1 := k_1.tame
  refine boxV fun h_2 bx_2 k_2 => ?_
  have o_2 := (k0.trans k_1).le
  have lt_2 := bx_2.lt
  have m_2 := k_2.tame
  have bx_1 := (bx_1.keep k_2)
  refine ⟨blkLt (base_add _ _) ((m_2).lt lt_1), ?_⟩
  refine ldA bx_1 (base_add _ _) rfl (gBool_intro rfl ?_)
  refine ⟨blkLt (base_add _ _) ((m_2).lt lt_1), ?_⟩
  refine ldA bx_1 (base_add _ _) rfl (gSlice_intro rfl ?_)
  refine hc_intro (gnomonref01_Twin.hv (r0_1.tame (m_1.trans m_2)) rfl) fun v h_3 ⟨k_3, s⟩ => ?_
  obtain ⟨a_3, c_3, rfl, r_3⟩ := s
  refine gSlice_intro rfl (?_)
  have m_3 := k_3.tame
  refine ⟨k_3.preLe (Nat.le_refl _), ?_⟩
  have bx_2 := (bx_2.keep k_3)
  refine stA bx_2 (base_add _ _) rfl fun h_4 bx_2 k_4 m_4 => ?_
  refine stA bx_2 (base_add _ _) rfl fun h_5 bx_2 k_5 m_5 => ?_
  refine ldA bx_2 (base_add _ _) rfl (gBool_intro rfl ?_)
  refine ldA bx_2 (base_add _ _) rfl (gSlice_intro rfl ?_)
  exact g _ _ (KeepB.keep (KeepB.keep (((k0.trans k_1).trans k_2).trans k_3) k_4 o_2) k_5 o_2) ⟨_, _, rfl, ((r_3.tame (m_4.trans m_5)).from ((k0.trans k_1).trans k_2).le)⟩
def v (b0_0 : Bool) (xs0_1 : List Nat) : (Bool × List Nat) := D1.v b0_0 xs0_1
theorem hv {h : Hp} {b0_0 : Bool} {a0_1 : Option Addr} {c0_1 l0_1 : Nat} {xs0_1 : List Nat} (r0_1 : Rd h a0_1 c0_1 xs0_1) (e0_1 : l0_1 = xs0_1.length) : HC id #[.agg #[.bool b0_0, .slice a0_1 l0_1 c0_1]] h fun v_ h_ => Keep h h_ ∧ sZW h h_ v_ (v b0_0 xs0_1) :=
  ok (D1.hv (Keep.refl _) r0_1 e0_1 fun v h' k s => ⟨k, s⟩)
end gnomonlaw04_twin

namespace gnomonlaw04_told
def D1.v (b0_0 : Bool) (xs0_1 : List Nat) (x1 : Int) (b2_0 : Bool) (xs2_1 : List Nat) (x3 : Int) : Bool :=
  bif (decide ((b0_0, xs0_1) = (b2_0, xs2_1))) then
    (x1 == x3)
  else
    false
theorem D1.hv {R : Rt} {h0 h : Hp} (k0 : Keep h0 h) {b0_0 : Bool} {a0_1 : Option Addr} {c0_1 l0_1 : Nat} {xs0_1 : List Nat} (r0_1 : Rd h a0_1 c0_1 xs0_1) (e0_1 : l0_1 = xs0_1.length) {x1 : Int} (i1 : In .i64 x1) {b2_0 : Bool} {a2_1 : Option Addr} {c2_1 l2_1 : Nat} {xs2_1 : List Nat} (r2_1 : Rd h a2_1 c2_1 xs2_1) (e2_1 : l2_1 = xs2_1.length) {x3 : Int} (i3 : In .i64 x3) (g : Post sBool h0 R (D1.v b0_0 xs0_1 x1 b2_0 xs2_1 x3)) : D1.t R b0_0 a0_1 l0_1 c0_1 x1 b2_0 a2_1 l2_1 c2_1 x3 h := by
  subst e0_1 e2_1
  unfold D1.v at g
  unfold D1.t
  refine boxV fun h_1 bx_1 k_1 => ?_
  have o_1 := k0.le
  have lt_1 := bx_1.lt
  have m_1 := k_1.tame
  refine boxV fun h_2 bx_2 k_2 => ?_
  have o_2 := (k0.trans k_1).le
  have lt_2 := bx_2.lt
  have m_2 := k_2.tame
  have bx_1 := (bx_1.keep k_2)
  refine ldA bx_1 (base_add _ _) rfl (gBool_intro rfl ?_)
  refine ldA bx_1 (base_add _ _) rfl (gSlice_intro rfl ?_)
  refine ldA bx_2 (base_add _ _) rfl (gBool_intro rfl ?_)
  refine ldA bx_2 (base_add _ _) rfl (gSlice_intro rfl ?_)
  refine hc_intro (gnomonlaw04_same.hs (r0_1.tame (m_1.trans m_2)) rfl (r2_1.tame (m_1.trans m_2)) rfl) fun v h_3 ⟨k_3, s⟩ => ?_
  obtain rfl := s
  refine gBool_intro rfl (?_)
  have m_3 := k_3.tame
  refine lift_dec g (fun q_4 g => ?_) (fun q_4 g => ?_)
  · exact g _ _ (((k0.trans k_1).trans k_2).trans k_3) rfl
  exact g _ _ (((k0.trans k_1).trans k_2).trans k_3) rfl
def v (b0_0 : Bool) (xs0_1 : List Nat) (x1 : Int) (b2_0 : Bool) (xs2_1 : List Nat) (x3 : Int) : Bool := D1.v b0_0 xs0_1 x1 b2_0 xs2_1 x3
theorem hv {h : Hp} {b0_0 : Bool} {a0_1 : Option Addr} {c0_1 l0_1 : Nat} {xs0_1 : List Nat} (r0_1 : Rd h a0_1 c0_1 xs0_1) (e0_1 : l0_1 = xs0_1.length) {x1 : Int} (i1 : In .i64 x1) {b2_0 : Bool} {a2_1 : Option Addr} {c2_1 l2_1 : Nat} {xs2_1 : List Nat} (r2_1 : Rd h a2_1 c2_1 xs2_1) (e2_1 : l2_1 = xs2_1.length) {x3 : Int} (i3 : In .i64 x3) : HC id #[.agg #[.bool b0_0, .slice a0_1 l0_1 c0_1], .int .i64 x1, .agg #[.bool b2_0, .slice a2_1 l2_1 c2_1], .int .i64 x3] h fun v_ h_ => Keep h h_ ∧ sBool h h_ v_ (v b0_0 xs0_1 x1 b2_0 xs2_1 x3) :=
  ok (D1.hv (Keep.refl _) r0_1 e0_1 i1 r2_1 e2_1 i3 fun v h' k s => ⟨k, s⟩)
end gnomonlaw04_told

end Go.Proofs.YtanlcacaihdceaaGreatDoor.G

/- Copies of numbers; what the document answers. -/
namespace Go.Proofs.YtanlcacaihdceaaGreatDoor.G
open Go.Gv
set_option linter.unusedVariables false
set_option maxRecDepth 100000
def docShiftS (k : Int) (x : Zw) (n : Int) : Zw × Int := if k = 0 then shlZ x n else shrZ (if k = 1 then flo else if k = 2 then cei else nea) x n
section
variable {a : Option Addr} {c l : Nat} {xs : List Nat} {h : Hp} {p : Bool}
theorem gnomonlaw04_twin.hs (r : Rd h a c xs) (e : l = xs.length) : HC gnomonlaw04_twin.id #[.agg #[.bool p, .slice a l c]] h fun v h' => Keep h h' ∧ sZW h h' v (p, xs) := gnomonlaw04_twin.hv r e
end
theorem told4_same (x : Zw) (e : Int) : gnomonlaw04_told.v x.1 x.2 e x.1 x.2 e = true := by
  unfold gnomonlaw04_told.v gnomonlaw04_told.D1.v; simp
end Go.Proofs.YtanlcacaihdceaaGreatDoor.G

/- Functions without loops as functions of values. Written by a program of this work. -/
namespace Go.Proofs.YtanlcacaihdceaaGreatDoor.G
open Go.Gv
set_option linter.unusedVariables false
set_option maxRecDepth 100000
namespace gnomonref04_DocShift
def D1.v (x0 : Int) (b1_0 : Bool) (xs1_1 : List Nat) (x2 : Int) : ((Bool × List Nat) × Int) :=
  bif (decide (x2 < (0 : Int))) then
    ((false, ([] : List Nat)), (1 : Int))
  else
    letV (decide (FrmZ (b1_0, xs1_1))) fun p_4 =>
    bif (!p_4) then
      ((false, ([] : List Nat)), (2 : Int))
    else
      letV (dz (zi (b1_0, xs1_1))) fun p_6 =>
      bif (x0 == (0 : Int)) then
        bif (decide (x2 > (524288 : Int))) then
          bif (((cmpZ (di (p_6.1, p_6.2)) 0)) != (0 : Int)) then
            ((false, ([] : List Nat)), (5 : Int))
          else
            letV (dz (di (p_6.1, p_6.2) * 2 ^ (Int.toNat x2))) fun p_12 =>
            letV (zlim (di (p_12.1, p_12.2))) fun p_13 =>
            ((p_13.1.1, p_13.1.2), p_13.2)
        else
          letV (dz (di (p_6.1, p_6.2) * 2 ^ (Int.toNat x2))) fun p_14 =>
          letV (zlim (di (p_14.1, p_14.2))) fun p_15 =>
          ((p_15.1.1, p_15.1.2), p_15.2)
      else
        bif (x0 == (1 : Int)) then
          letV (dz (flo (di (p_6.1, p_6.2)) (2 ^ (Int.toNat x2)))) fun p_17 =>
          letV (zlim (di (p_17.1, p_17.2))) fun p_18 =>
          ((p_18.1.1, p_18.1.2), p_18.2)
        else
          bif (x0 == (2 : Int)) then
            letV (dz (cei (di (p_6.1, p_6.2)) (2 ^ (Int.toNat x2)))) fun p_20 =>
            letV (zlim (di (p_20.1, p_20.2))) fun p_21 =>
            ((p_21.1.1, p_21.1.2), p_21.2)
          else
            letV (dz (nea (di (p_6.1, p_6.2)) (2 ^ (Int.toNat x2)))) fun p_22 =>
            letV (zlim (di (p_22.1, p_22.2))) fun p_23 =>
            ((p_23.1.1, p_23.1.2), p_23.2)
theorem D1.hv {R : Rt} {h0 h : Hp} (k0 : Keep h0 h) {x0 : Int} (i0 : In .i64 x0) {b1_0 : Bool} {a1_1 : Option Addr} {c1_1 l1_1 : Nat} {xs1_1 : List Nat} (r1_1 : Rd h a1_1 c1_1 xs1_1) (e1_1 : l1_1 = xs1_1.length) {x2 : Int} (i2 : In .i64 x2) (g : Post (s2 sZW (sI .i64)) h0 R (D1.v x0 b1_0 xs1_1 x2)) : D1.t R x0 b1_0 a1_1 l1_1 c1_1 x2 h := by
  subst e1_1
  unfold D1.v at g
  unfold D1.t
  refine boxV fun h_1 bx_1 k_1 => ?_
  have o_1 := k0.le
  have lt_1 := bx_1.lt
  have m_1 := k_1.tame
  refine boxV fun h_2 bx_2 k_2 => ?_
  have o_2 := (k0.trans k_1).le
  have lt_2 := bx_2.lt
  have m_2 := k_2.tame
  refine lift_dec g (fun q_3 g => ?_) (fun q_3 g => ?_)
  · refine stA bx_2 (base_add _ _) rfl fun h_3 bx_2 k_3 m_3 => ?_
    refine stA bx_2 (base_add _ _) rfl fun h_4 bx_2 k_4 m_4 => ?_
    refine ldA bx_2 (base_add _ _) rfl (gBool_intro rfl ?_)
    refine ldA bx_2 (base_add _ _) rfl (gSlice_intro rfl ?_)
    exact g _ _ (KeepB.keep (KeepB.keep ((k0.trans k_1).trans k_2) k_3 o_2) k_4 o_2) ⟨_, _, rfl, ⟨_, _, rfl, (GotE.nil _ _)⟩, ⟨rfl, (show In .i64 (1 : Int) by decide)⟩⟩
  have bx_1 := (bx_1.keep k_2)
  refine ldA bx_1 (base_add _ _) rfl (gBool_intro rfl ?_)
  refine ldA bx_1 (base_add _ _) rfl (gSlice_intro rfl ?_)
  refine hc_intro (gnomonref04_DocForm.hs (r1_1.tame (m_1.trans m_2)) rfl) fun v h_3 ⟨k_3, s⟩ => ?_
  obtain ⟨p_4, hp_4⟩ : ∃ p, p = decide (FrmZ (b1_0, xs1_1)) := ⟨_, rfl⟩
  rw [← hp_4] at s
  replace g := lift_let2 hp_4 g
  have u_4 := frmZ_len b1_0 xs1_1
  rw [← hp_4] at u_4
  obtain rfl := s
  refine gBool_intro rfl (?_)
  have m_3 := k_3.tame
  refine lift_not g (fun q_5 g => ?_) (fun q_5 g => ?_)
  · have bx_2 := (bx_2.keep k_3)
    refine stA bx_2 (base_add _ _) rfl fun h_4 bx_2 k_4 m_4 => ?_
    refine stA bx_2 (base_add _ _) rfl fun h_5 bx_2 k_5 m_5 => ?_
    refine ldA bx_2 (base_add _ _) rfl (gBool_intro rfl ?_)
    refine ldA bx_2 (base_add _ _) rfl (gSlice_intro rfl ?_)
    exact g _ _ (KeepB.keep (KeepB.keep (((k0.trans k_1).trans k_2).trans k_3) k_4 o_2) k_5 o_2) ⟨_, _, rfl, ⟨_, _, rfl, (GotE.nil _ _)⟩, ⟨rfl, (show In .i64 (2 : Int) by decide)⟩⟩
  have zu_4 := u_4 q_5
  have bx_1 := (bx_1.keep k_3)
  refine ldA bx_1 (base_add _ _) rfl (gBool_intro rfl ?_)
  refine ldA bx_1 (base_add _ _) rfl (gSlice_intro rfl ?_)
  refine hc_intro (gnomonref04_From.hs (r1_1.tame (m_1.trans (m_2.trans m_3))) rfl) fun v h_4 ⟨k_4, s⟩ => ?_
  obtain ⟨p_6, hp_6⟩ : ∃ p, p = dz (zi (b1_0, xs1_1)) := ⟨_, rfl⟩
  rw [← hp_6] at s
  replace g := lift_let2 hp_6 g
  have w_6 := bzFrom b1_0 ((r1_1.tame (m_1.trans (m_2.trans m_3)))).words
  rw [← hp_6] at w_6
  obtain ⟨a_6, c_6, rfl, r_6⟩ := s
  refine gAgg_intro rfl (uncons_intro (gBool_intro rfl (uncons_intro (gSlice_intro rfl (unnil_intro (?_))))))
  have m_4 := k_4.tame
  refine boxV fun h_5 bx_7 k_5 => ?_
  have bx_7 : BlkV h_5 (h_4.size) [.bool false, .slice none (D.digs 0).length 0] := by rw [D.digs_zero]; exact bx_7
  have o_7 := ((((k0.trans k_1).trans k_2).trans k_3).trans k_4).le
  have lt_7 := bx_7.lt
  have m_5 := k_5.tame
  refine stA bx_7 (base_add _ _) rfl fun h_6 bx_7 k_6 m_6 => ?_
  refine stA bx_7 (base_add _ _) rfl fun h_7 bx_7 k_7 m_7 => ?_
  refine lift_eq g (fun q_8 g => ?_) (fun q_8 g => ?_)
  · refine lift_dec g (fun q_9 g => ?_) (fun q_9 g => ?_)
    · refine ldA bx_7 (base_add _ _) rfl (gBool_intro rfl ?_)
      refine ldA bx_7 (base_add _ _) rfl (gSlice_intro rfl ?_)
      refine hc_intro (gnomonref04_Sign.hs (r_6.tame (m_5.trans (m_6.trans m_7))).rd rfl) fun v h_8 ⟨k_8, s⟩ => ?_
      obtain ⟨rfl, i_10⟩ := s
      refine gInt_intro rfl (?_)
      have m_8 := k_8.tame
      refine lift_ne g (fun q_11 g => ?_) (fun q_11 g => ?_)
      · have bx_2 := ((((((bx_2.keep k_3).keep k_4).keep k_5).keepB (Nat.ne_of_lt ((m_3.trans m_4).lt lt_2)) k_6).keepB (Nat.ne_of_lt ((m_3.trans m_4).lt lt_2)) k_7).keep k_8)
        refine stA bx_2 (base_add _ _) rfl fun h_9 bx_2 k_9 m_9 => ?_
        refine stA bx_2 (base_add _ _) rfl fun h_10 bx_2 k_10 m_10 => ?_
        refine ldA bx_2 (base_add _ _) rfl (gBool_intro rfl ?_)
        refine ldA bx_2 (base_add _ _) rfl (gSlice_intro rfl ?_)
        exact g _ _ (KeepB.keep (KeepB.keep ((KeepB.keep (KeepB.keep (((((k0.trans k_1).trans k_2).trans k_3).trans k_4).trans k_5) k_6 o_7) k_7 o_7).trans k_8) k_9 o_2) k_10 o_2) ⟨_, _, rfl, ⟨_, _, rfl, (GotE.nil _ _)⟩, ⟨rfl, (show In .i64 (5 : Int) by decide)⟩⟩
      have bx_7 := (bx_7.keep k_8)
      refine ldA bx_7 (base_add _ _) rfl (gBool_intro rfl ?_)
      refine ldA bx_7 (base_add _ _) rfl (gSlice_intro rfl ?_)
      refine hc_intro (gnomonref04_Shl.hs (r_6.tame (m_5.trans (m_6.trans (m_7.trans m_8)))).rd rfl i2 (by first | assumption | decide | omega) (by first | assumption | decide | omega) (by first | assumption | decide | omega)) fun v h_9 ⟨k_9, s⟩ => ?_
      obtain ⟨p_12, hp_12⟩ : ∃ p, p = dz (di (p_6.1, p_6.2) * 2 ^ (Int.toNat x2)) := ⟨_, rfl⟩
      rw [← hp_12] at s
      replace g := lift_let2 hp_12 g
      obtain ⟨a_12, c_12, rfl, r_12⟩ := s
      refine gAgg_intro rfl (uncons_intro (gBool_intro rfl (uncons_intro (gSlice_intro rfl (unnil_intro (?_))))))
      have m_9 := k_9.tame
      refine hc_intro (gnomonref04_Told.hs r_12.rd rfl) fun v h_10 ⟨k_10, s⟩ => ?_
      obtain ⟨p_13, hp_13⟩ : ∃ p, p = zlim (di (p_12.1, p_12.2)) := ⟨_, rfl⟩
      rw [← hp_13] at s
      replace g := lift_let2 hp_13 g
      obtain ⟨_, _, rfl, ⟨a_13_0, c_13_0, rfl, r_13_0⟩, ⟨rfl, i_13_1⟩⟩ := s
      refine gTup_intro rfl (uncons_intro (gAgg_intro rfl (uncons_intro (gBool_intro rfl (uncons_intro (gSlice_intro rfl (unnil_intro (uncons_intro (gInt_intro rfl (unnil_intro (?_)))))))))))
      have m_10 := k_10.tame
      have bx_2 := ((((((((bx_2.keep k_3).keep k_4).keep k_5).keepB (Nat.ne_of_lt ((m_3.trans m_4).lt lt_2)) k_6).keepB (Nat.ne_of_lt ((m_3.trans m_4).lt lt_2)) k_7).keep k_8).keep k_9).keep k_10)
      refine stA bx_2 (base_add _ _) rfl fun h_11 bx_2 k_11 m_11 => ?_
      refine stA bx_2 (base_add _ _) rfl fun h_12 bx_2 k_12 m_12 => ?_
      refine ldA bx_2 (base_add _ _) rfl (gBool_intro rfl ?_)
      refine ldA bx_2 (base_add _ _) rfl (gSlice_intro rfl ?_)
      exact g _ _ (KeepB.keep (KeepB.keep ((((KeepB.keep (KeepB.keep (((((k0.trans k_1).trans k_2).trans k_3).trans k_4).trans k_5) k_6 o_7) k_7 o_7).trans k_8).trans k_9).trans k_10) k_11 o_2) k_12 o_2) ⟨_, _, rfl, ⟨_, _, rfl, ((r_13_0.tame (m_11.trans m_12)).from (((KeepB.keep (KeepB.keep (((((k0.trans k_1).trans k_2).trans k_3).trans k_4).trans k_5) k_6 o_7) k_7 o_7).trans k_8).trans k_9).le)⟩, ⟨rfl, i_13_1⟩⟩
    refine ldA bx_7 (base_add _ _) rfl (gBool_intro rfl ?_)
    refine ldA bx_7 (base_add _ _) rfl (gSlice_intro rfl ?_)
    refine hc_intro (gnomonref04_Shl.hs (r_6.tame (m_5.trans (m_6.trans m_7))).rd rfl i2 (by first | assumption | decide | omega) (by first | assumption | decide | omega) (by first | assumption | decide | omega)) fun v h_8 ⟨k_8, s⟩ => ?_
    obtain ⟨p_14, hp_14⟩ : ∃ p, p = dz (di (p_6.1, p_6.2) * 2 ^ (Int.toNat x2)) := ⟨_, rfl⟩
    rw [← hp_14] at s
    replace g := lift_let2 hp_14 g
    obtain ⟨a_14, c_14, rfl, r_14⟩ := s
    refine gAgg_intro rfl (uncons_intro (gBool_intro rfl (uncons_intro (gSlice_intro rfl (unnil_intro (?_))))))
    have m_8 := k_8.tame
    refine hc_intro (gnomonref04_Told.hs r_14.rd rfl) fun v h_9 ⟨k_9, s⟩ => ?_
    obtain ⟨p_15, hp_15⟩ : ∃ p, p = zlim (di (p_14.1, p_14.2)) := ⟨_, rfl⟩
    rw [← hp_15] at s
    replace g := lift_let2 hp_15 g
    obtain ⟨_, _, rfl, ⟨a_15_0, c_15_0, rfl, r_15_0⟩, ⟨rfl, i_15_1⟩⟩ := s
    refine gTup_intro rfl (uncons_intro (gAgg_intro rfl (uncons_intro (gBool_intro rfl (uncons_intro (gSlice_intro rfl (unnil_intro (uncons_intro (gInt_intro rfl (unnil_intro (?_)))))))))))
    have m_9 := k_9.tame
    have bx_2 := (((((((bx_2.keep k_3).keep k_4).keep k_5).keepB (Nat.ne_of_lt ((m_3.trans m_4).lt lt_2)) k_6).keepB (Nat.ne_of_lt ((m_3.trans m_4).lt lt_2)) k_7).keep k_8).keep k_9)
    refine stA bx_2 (base_add _ _) rfl fun h_10 bx_2 k_10 m_10 => ?_
    refine stA bx_2 (base_add _ _) rfl fun h_11 bx_2 k_11 m_11 => ?_
    refine ldA bx_2 (base_add _ _) rfl (gBool_intro rfl ?_)
    refine ldA bx_2 (base_add _ _) rfl (gSlice_intro rfl ?_)
    exact g _ _ (KeepB.keep (KeepB.keep (((KeepB.keep (KeepB.keep (((((k0.trans k_1).trans k_2).trans k_3).trans k_4).trans k_5) k_6 o_7) k_7 o_7).trans k_8).trans k_9) k_10 o_2) k_11 o_2) ⟨_, _, rfl, ⟨_, _, rfl, ((r_15_0.tame (m_10.trans m_11)).from ((KeepB.keep (KeepB.keep (((((k0.trans k_1).trans k_2).trans k_3).trans k_4).trans k_5) k_6 o_7) k_7 o_7).trans k_8).le)⟩, ⟨rfl, i_15_1⟩⟩
  refine lift_eq g (fun q_16 g => ?_) (fun q_16 g => ?_)
  · refine ldA bx_7 (base_add _ _) rfl (gBool_intro rfl ?_)
    refine ldA bx_7 (base_add _ _) rfl (gSlice_intro rfl ?_)
    refine hc_intro (gnomonref04_FloorShr.hs (r_6.tame (m_5.trans (m_6.trans m_7))).rd rfl i2 (by first | assumption | decide | omega)) fun v h_8 ⟨k_8, s⟩ => ?_
    obtain ⟨p_17, hp_17⟩ : ∃ p, p = dz (flo (di (p_6.1, p_6.2)) (2 ^ (Int.toNat x2))) := ⟨_, rfl⟩
    rw [← hp_17] at s
    replace g := lift_let2 hp_17 g
    have w_17 := bzFloorShr p_6.1 p_6.2 x2
    rw [← hp_17] at w_17
    obtain ⟨a_17, c_17, rfl, r_17⟩ := s
    refine gAgg_intro rfl (uncons_intro (gBool_intro rfl (uncons_intro (gSlice_intro rfl (unnil_intro (?_))))))
    have m_8 := k_8.tame
    refine hc_intro (gnomonref04_Told.hs r_17.rd rfl) fun v h_9 ⟨k_9, s⟩ => ?_
    obtain ⟨p_18, hp_18⟩ : ∃ p, p = zlim (di (p_17.1, p_17.2)) := ⟨_, rfl⟩
    rw [← hp_18] at s
    replace g := lift_let2 hp_18 g
    obtain ⟨_, _, rfl, ⟨a_18_0, c_18_0, rfl, r_18_0⟩, ⟨rfl, i_18_1⟩⟩ := s
    refine gTup_intro rfl (uncons_intro (gAgg_intro rfl (uncons_intro (gBool_intro rfl (uncons_intro (gSlice_intro rfl (unnil_intro (uncons_intro (gInt_intro rfl (unnil_intro (?_)))))))))))
    have m_9 := k_9.tame
    have bx_2 := (((((((bx_2.keep k_3).keep k_4).keep k_5).keepB (Nat.ne_of_lt ((m_3.trans m_4).lt lt_2)) k_6).keepB (Nat.ne_of_lt ((m_3.trans m_4).lt lt_2)) k_7).keep k_8).keep k_9)
    refine stA bx_2 (base_add _ _) rfl fun h_10 bx_2 k_10 m_10 => ?_
    refine stA bx_2 (base_add _ _) rfl fun h_11 bx_2 k_11 m_11 => ?_
    refine ldA bx_2 (base_add _ _) rfl (gBool_intro rfl ?_)
    refine ldA bx_2 (base_add _ _) rfl (gSlice_intro rfl ?_)
    exact g _ _ (KeepB.keep (KeepB.keep (((KeepB.keep (KeepB.keep (((((k0.trans k_1).trans k_2).trans k_3).trans k_4).trans k_5) k_6 o_7) k_7 o_7).trans k_8).trans k_9) k_10 o_2) k_11 o_2) ⟨_, _, rfl, ⟨_, _, rfl, ((r_18_0.tame (m_10.trans m_11)).from ((KeepB.keep (KeepB.keep (((((k0.trans k_1).trans k_2).trans k_3).trans k_4).trans k_5) k_6 o_7) k_7 o_7).trans k_8).le)⟩, ⟨rfl, i_18_1⟩⟩
  refine lift_eq g (fun q_19 g => ?_) (fun q_19 g => ?_)
  · refine ldA bx_7 (base_add _ _) rfl (gBool_intro rfl ?_)
    refine ldA bx_7 (base_add _ _) rfl (gSlice_intro rfl ?_)
    refine hc_intro (gnomonref04_CeilShr.hs (r_6.tame (m_5.trans (m_6.trans m_7))).rd rfl i2 (by first | assumption | decide | omega)) fun v h_8 ⟨k_8, s⟩ => ?_
    obtain ⟨p_20, hp_20⟩ : ∃ p, p = dz (cei (di (p_6.1, p_6.2)) (2 ^ (Int.toNat x2))) := ⟨_, rfl⟩
    rw [← hp_20] at s
    replace g := lift_let2 hp_20 g
    have w_20 := bzCeilShr p_6.1 p_6.2 x2
    rw [← hp_20] at w_20
    obtain ⟨a_20, c_20, rfl, r_20⟩ := s
    refine gAgg_intro rfl (uncons_intro (gBool_intro rfl (uncons_intro (gSlice_intro rfl (unnil_intro (?_))))))
    have m_8 := k_8.tame
    refine hc_intro (gnomonref04_Told.hs r_20.rd rfl) fun v h_9 ⟨k_9, s⟩ => ?_
    obtain ⟨p_21, hp_21⟩ : ∃ p, p = zlim (di (p_20.1, p_20.2)) := ⟨_, rfl⟩
    rw [← hp_21] at s
    replace g := lift_let2 hp_21 g
    obtain ⟨_, _, rfl, ⟨a_21_0, c_21_0, rfl, r_21_0⟩, ⟨rfl, i_21_1⟩⟩ := s
    refine gTup_intro rfl (uncons_intro (gAgg_intro rfl (uncons_intro (gBool_intro rfl (uncons_intro (gSlice_intro rfl (unnil_intro (uncons_intro (gInt_intro rfl (unnil_intro (?_)))))))))))
    have m_9 := k_9.tame
    have bx_2 := (((((((bx_2.keep k_3).keep k_4).keep k_5).keepB (Nat.ne_of_lt ((m_3.trans m_4).lt lt_2)) k_6).keepB (Nat.ne_of_lt ((m_3.trans m_4).lt lt_2)) k_7).keep k_8).keep k_9)
    refine stA bx_2 (base_add _ _) rfl fun h_10 bx_2 k_10 m_10 => ?_
    refine stA bx_2 (base_add _ _) rfl fun h_11 bx_2 k_11 m_11 => ?_
    refine ldA bx_2 (base_add _ _) rfl (gBool_intro rfl ?_)
    refine ldA bx_2 (base_add _ _) rfl (gSlice_intro rfl ?_)
    exact g _ _ (KeepB.keep (KeepB.keep (((KeepB.keep (KeepB.keep (((((k0.trans k_1).trans k_2).trans k_3).trans k_4).trans k_5) k_6 o_7) k_7 o_7).trans k_8).trans k_9) k_10 o_2) k_11 o_2) ⟨_, _, rfl, ⟨_, _, rfl, ((r_21_0.tame (m_10.trans m_11)).from ((KeepB.keep (KeepB.keep (((((k0.trans k_1).trans k_2).trans k_3).trans k_4).trans k_5) k_6 o_7) k_7 o_7).trans k_8).le)⟩, ⟨rfl, i_21_1⟩⟩
  refine ldA bx_7 (base_add _ _) rfl (gBool_intro rfl ?_)
  refine ldA bx_7 (base_add _ _) rfl (gSlice_intro rfl ?_)
  refine hc_intro (gnomonref04_NearShr.hs (r_6.tame (m_5.trans (m_6.trans m_7))).rd rfl i2 (by first | assumption | decide | omega)) fun v h_8 ⟨k_8, s⟩ => ?_
  obtain ⟨p_22, hp_22⟩ : ∃ p, p = dz (nea (di (p_6.1, p_6.2)) (2 ^ (Int.toNat x2))) := ⟨_, rfl⟩
  rw [← hp_22] at s
  replace g := lift_let2 hp_22 g
  have w_22 := bzNearShr p_6.1 p_6.2 x2
  rw [← hp_22] at w_22
  obtain ⟨a_22, c_22, rfl, r_22⟩ := s
  refine gAgg_intro rfl (uncons_intro (gBool_intro rfl (uncons_intro (gSlice_intro rfl (unnil_intro (?_))))))
  have m_8 := k_8.tame
  refine hc_intro (gnomonref04_Told.hs r_22.rd rfl) fun v h_9 ⟨k_9, s⟩ => ?_
  obtain ⟨p_23, hp_23⟩ : ∃ p, p = zlim (di (p_22.1, p_22.2)) := ⟨_, rfl⟩
  rw [← hp_23] at s
  replace g := lift_let2 hp_23 g
  obtain ⟨_, _, rfl, ⟨a_23_0, c_23_0, rfl, r_23_0⟩, ⟨rfl, i_23_1⟩⟩ := s
  refine gTup_intro rfl (uncons_intro (gAgg_intro rfl (uncons_intro (gBool_intro rfl (uncons_intro (gSlice_intro rfl (unnil_intro (uncons_intro (gInt_intro rfl (unnil_intro (?_)))))))))))
  have m_9 := k_9.tame
  have bx_2 := (((((((bx_2.keep k_3).keep k_4).keep k_5).keepB (Nat.ne_of_lt ((m_3.trans m_4).lt lt_2)) k_6).keepB (Nat.ne_of_lt ((m_3.trans m_4).lt lt_2)) k_7).keep k_8).keep k_9)
  refine stA bx_2 (base_add _ _) rfl fun h_10 bx_2 k_10 m_10 => ?_
  refine stA bx_2 (base_add _ _) rfl fun h_11 bx_2 k_11 m_11 => ?_
  refine ldA bx_2 (base_add _ _) rfl (gBool_intro rfl ?_)
  refine ldA bx_2 (base_add _ _) rfl (gSlice_intro rfl ?_)
  exact g _ _ (KeepB.keep (KeepB.keep (((KeepB.keep (KeepB.keep (((((k0.trans k_1).trans k_2).trans k_3).trans k_4).trans k_5) k_6 o_7) k_7 o_7).trans k_8).trans k_9) k_10 o_2) k_11 o_2) ⟨_, _, rfl, ⟨_, _, rfl, ((r_23_0.tame (m_10.trans m_11)).from ((KeepB.keep (KeepB.keep (((((k0.trans k_1).trans k_2).trans k_3).trans k_4).trans k_5) k_6 o_7) k_7 o_7).trans k_8).le)⟩, ⟨rfl, i_23_1⟩⟩
def v (x0 : Int) (b1_0 : Bool) (xs1_1 : List Nat) (x2 : Int) : ((Bool × List Nat) × Int) := D1.v x0 b1_0 xs1_1 x2
theorem hv {h : Hp} {x0 : Int} (i0 : In .i64 x0) {b1_0 : Bool} {a1_1 : Option Addr} {c1_1 l1_1 : Nat} {xs1_1 : List Nat} (r1_1 : Rd h a1_1 c1_1 xs1_1) (e1_1 : l1_1 = xs1_1.length) {x2 : Int} (i2 : In .i64 x2) : HC id #[.int .i64 x0, .agg #[.bool b1_0, .slice a1_1 l1_1 c1_1], .int .i64 x2] h fun v_ h_ => Keep h h_ ∧ (s2 sZW (sI .i64)) h h_ v_ (v x0 b1_0 xs1_1 x2) :=
  ok (D1.hv (Keep.refl _) i0 r1_1 e1_1 i2 fun v h' k s => ⟨k, s⟩)
end gnomonref04_DocShift

end Go.Proofs.YtanlcacaihdceaaGreatDoor.G

/- The document's shifts. -/
namespace Go.Proofs.YtanlcacaihdceaaGreatDoor.G
open Go.Gv
set_option linter.unusedVariables false
set_option maxRecDepth 100000
theorem shl_far {i : Int} {n : Int} (hi : i ≠ 0) (hn : n > 524288) : zlim (i * 2 ^ n.toNat) = (nz, 5) := by
  refine zlim_no fun h => ?_
  have h : (digs (i * 2 ^ n.toNat).natAbs).length ≤ 8192 := h
  rw [Int.natAbs_mul] at h
  have e : ((2 : Int) ^ n.toNat).natAbs = 2 ^ n.toNat := by rw [pow2_sg, sg_abs]
  rw [e] at h
  have h2 := (lim_blen (v := i.natAbs * 2 ^ n.toNat)).mpr h
  rw [blen_mul _ (by omega)] at h2
  omega
theorem rDocShift_v (k : Int) (b : Bool) (xs : List Nat) (n : Int) : gnomonref04_DocShift.v k b xs n = docShiftS k (b, xs) n := by
  unfold gnomonref04_DocShift.v gnomonref04_DocShift.D1.v docShiftS
  simp only [letV, di_dz']
  have ne : ∀ i : Int, (cmpZ i 0 != 0) = !decide (i = 0) := fun i => by rw [← cmp_eq_iff]; rfl
  by_cases h0 : k = 0
  · subst h0
    rw [if_pos rfl]
    unfold shlZ
    by_cases hn : n < 0
    · simp only [hn, decide_true, cond_true, if_true]; rfl
    · by_cases f : FrmZ (b, xs)
      · simp only [hn, f, decide_true, decide_false, Bool.not_true, cond_false, if_true, if_false, beq_self_eq_true, cond_true]
        by_cases hb : n > 524288
        · simp only [hb, decide_true, cond_true, ne]
          by_cases hz : zi (b, xs) = 0
          · simp only [hz, decide_true, Bool.not_true, cond_false]
          · simp only [hz, decide_false, Bool.not_false, cond_true]
            rw [shl_far hz hb]; rfl
        · simp only [hb, decide_false, cond_false]
      · simp only [hn, f, decide_false, Bool.not_false, cond_true, cond_false, if_false]; rfl
  · have e0 : (k == 0) = false := by simp [h0]
    rw [if_neg h0]
    unfold shrZ
    by_cases hn : n < 0
    · simp only [hn, decide_true, cond_true, if_true]; rfl
    · by_cases f : FrmZ (b, xs)
      · simp only [hn, f, e0, decide_true, decide_false, Bool.not_true, cond_false, if_true, if_false]
        by_cases h1 : k = 1
        · subst h1; rfl
        · have e1 : (k == 1) = false := by simp [h1]
          rw [e1, cond_false, if_neg h1]
          by_cases h2 : k = 2
          · subst h2; rfl
          · have e2 : (k == 2) = false := by simp [h2]
            rw [e2, cond_false, if_neg h2]
      · simp only [hn, f, decide_false, Bool.not_false, cond_true, cond_false, if_false]; rfl
section
variable {a b : Option Addr} {c d l m X Y : Nat} {xs ys : List Nat} {h : Hp} {x y : Int} {p q : Bool}
theorem gnomonref04_DocShift.hs (i : In .i64 x) (r : Rd h a c xs) (e : l = xs.length) (j : In .i64 y) : HC gnomonref04_DocShift.id #[.int .i64 x, .agg #[.bool p, .slice a l c], .int .i64 y] h fun v h' => Keep h h' ∧ s2 sZW (sI .i64) h h' v (docShiftS x (p, xs) y) := by rw [← rDocShift_v]; exact gnomonref04_DocShift.hv i r e j
end
end Go.Proofs.YtanlcacaihdceaaGreatDoor.G

/- Functions without loops as functions of values. Written by a program of this work. -/
namespace Go.Proofs.YtanlcacaihdceaaGreatDoor.G
open Go.Gv
set_option linter.unusedVariables false
set_option maxRecDepth 100000
namespace gnomonlaw04_doc
def D1.v (x0_0 : Int) (b0_1_0 : Bool) (xs0_1_1 : List Nat) (b0_2_0 : Bool) (xs0_2_1 : List Nat) (x0_3 : Int) : ((Bool × List Nat) × Int) :=
  bif (x0_0 == (10 : Int)) then
    letV (docShiftS (0 : Int) (b0_1_0, xs0_1_1) x0_3) fun p_4 =>
    ((p_4.1.1, p_4.1.2), p_4.2)
  else
    bif (x0_0 == (11 : Int)) then
      letV (docShiftS (1 : Int) (b0_1_0, xs0_1_1) x0_3) fun p_6 =>
      ((p_6.1.1, p_6.1.2), p_6.2)
    else
      bif (x0_0 == (12 : Int)) then
        letV (docShiftS (2 : Int) (b0_1_0, xs0_1_1) x0_3) fun p_8 =>
        ((p_8.1.1, p_8.1.2), p_8.2)
      else
        letV (docShiftS (3 : Int) (b0_1_0, xs0_1_1) x0_3) fun p_9 =>
        ((p_9.1.1, p_9.1.2), p_9.2)
theorem D1.hv {R : Rt} {h0 h : Hp} (k0 : Keep h0 h) {x0_0 : Int} (i0_0 : In .i64 x0_0) (rl0_0 : 10 ≤ x0_0) (rh0_0 : x0_0 ≤ 13) {b0_1_0 : Bool} {a0_1_1 : Option Addr} {c0_1_1 l0_1_1 : Nat} {xs0_1_1 : List Nat} (r0_1_1 : Rd h a0_1_1 c0_1_1 xs0_1_1) (e0_1_1 : l0_1_1 = xs0_1_1.length) {b0_2_0 : Bool} {a0_2_1 : Option Addr} {c0_2_1 l0_2_1 : Nat} {xs0_2_1 : List Nat} (r0_2_1 : Rd h a0_2_1 c0_2_1 xs0_2_1) (e0_2_1 : l0_2_1 = xs0_2_1.length) {x0_3 : Int} (i0_3 : In .i64 x0_3) (g : Post (s2 sZW (sI .i64)) h0 R (D1.v x0_0 b0_1_0 xs0_1_1 b0_2_0 xs0_2_1 x0_3)) : D1.t R x0_0 b0_1_0 a0_1_1 l0_1_1 c0_1_1 b0_2_0 a0_2_1 l0_2_1 c0_2_1 x0_3 h := by
  subst e0_1_1 e0_2_1
  unfold D1.v at g
  unfold D1.t
  refine boxV fun h_1 bx_1 k_1 => ?_
  have o_1 := k0.le
  have lt_1 := bx_1.lt
  have m_1 := k_1.tame
  refine boxV fun h_2 bx_2 k_2 => ?_
  have o_2 := (k0.trans k_1).le
  have lt_2 := bx_2.lt
  have m_2 := k_2.tame
  have bx_1 := (bx_1.keep k_2)
  refine ldA bx_1 (base_add _ _) rfl (gInt_intro rfl ?_)
  refine c_eq (fun q => absurd q (by omega)) fun _ => ?_
  refine c_eq (fun q => absurd q (by omega)) fun _ => ?_
  refine c_eq (fun q => absurd q (by omega)) fun _ => ?_
  refine c_eq (fun q => absurd q (by omega)) fun _ => ?_
  refine c_eq (fun q => absurd q (by omega)) fun _ => ?_
  refine lift_eq g (fun q_3 g => ?_) (fun q_3 g => ?_)
  · have gq := g
    subst q_3
    have g := gq
    clear gq
    refine ldA bx_1 (base_add _ _) rfl (gInt_intro rfl ?_)
    refine letK_intro (y := (0 : Int)) (by decide) ?_
    refine letK_intro (y := (0 : Int)) (by decide) ?_
    refine ldA bx_1 (add2 _ _ _) rfl (gBool_intro rfl ?_)
    refine ldA bx_1 (add2 _ _ _) rfl (gSlice_intro rfl ?_)
    refine ldA bx_1 (base_add _ _) rfl (gInt_intro rfl ?_)
    refine hc_intro (gnomonref04_DocShift.hs (show In .i64 (0 : Int) by decide) (r0_1_1.tame (m_1.trans m_2)) rfl i0_3) fun v h_3 ⟨k_3, s⟩ => ?_
    obtain ⟨p_4, hp_4⟩ : ∃ p, p = docShiftS (0 : Int) (b0_1_0, xs0_1_1) x0_3 := ⟨_, rfl⟩
    rw [← hp_4] at s
    replace g := lift_let2 hp_4 g
    obtain ⟨_, _, rfl, ⟨a_4_0, c_4_0, rfl, r_4_0⟩, ⟨rfl, i_4_1⟩⟩ := s
    refine gTup_intro rfl (uncons_intro (gAgg_intro rfl (uncons_intro (gBool_intro rfl (uncons_intro (gSlice_intro rfl (unnil_intro (uncons_intro (gInt_intro rfl (unnil_intro (?_)))))))))))
    have m_3 := k_3.tame
    have bx_2 := (bx_2.keep k_3)
    refine stA bx_2 (base_add _ _) rfl fun h_4 bx_2 k_4 m_4 => ?_
    refine stA bx_2 (base_add _ _) rfl fun h_5 bx_2 k_5 m_5 => ?_
    refine ldA bx_2 (base_add _ _) rfl (gBool_intro rfl ?_)
    refine ldA bx_2 (base_add _ _) rfl (gSlice_intro rfl ?_)
    exact g _ _ (KeepB.keep (KeepB.keep (((k0.trans k_1).trans k_2).trans k_3) k_4 o_2) k_5 o_2) ⟨_, _, rfl, ⟨_, _, rfl, ((r_4_0.tame (m_4.trans m_5)).from ((k0.trans k_1).trans k_2).le)⟩, ⟨rfl, i_4_1⟩⟩
  refine lift_eq g (fun q_5 g => ?_) (fun q_5 g => ?_)
  · have gq := g
    subst q_5
    have g := gq
    clear gq
    refine ldA bx_1 (base_add _ _) rfl (gInt_intro rfl ?_)
    refine letK_intro (y := (1 : Int)) (by decide) ?_
    refine letK_intro (y := (1 : Int)) (by decide) ?_
    refine ldA bx_1 (add2 _ _ _) rfl (gBool_intro rfl ?_)
    refine ldA bx_1 (add2 _ _ _) rfl (gSlice_intro rfl ?_)
    refine ldA bx_1 (base_add _ _) rfl (gInt_intro rfl ?_)
    refine hc_intro (gnomonref04_DocShift.hs (show In .i64 (1 : Int) by decide) (r0_1_1.tame (m_1.trans m_2)) rfl i0_3) fun v h_3 ⟨k_3, s⟩ => ?_
    obtain ⟨p_6, hp_6⟩ : ∃ p, p = docShiftS (1 : Int) (b0_1_0, xs0_1_1) x0_3 := ⟨_, rfl⟩
    rw [← hp_6] at s
    replace g := lift_let2 hp_6 g
    obtain ⟨_, _, rfl, ⟨a_6_0, c_6_0, rfl, r_6_0⟩, ⟨rfl, i_6_1⟩⟩ := s
    refine gTup_intro rfl (uncons_intro (gAgg_intro rfl (uncons_intro (gBool_intro rfl (uncons_intro (gSlice_intro rfl (unnil_intro (uncons_intro (gInt_intro rfl (unnil_intro (?_)))))))))))
    have m_3 := k_3.tame
    have bx_2 := (bx_2.keep k_3)
    refine stA bx_2 (base_add _ _) rfl fun h_4 bx_2 k_4 m_4 => ?_
    refine stA bx_2 (base_add _ _) rfl fun h_5 bx_2 k_5 m_5 => ?_
    refine ldA bx_2 (base_add _ _) rfl (gBool_intro rfl ?_)
    refine ldA bx_2 (base_add _ _) rfl (gSlice_intro rfl ?_)
    exact g _ _ (KeepB.keep (KeepB.keep (((k0.trans k_1).trans k_2).trans k_3) k_4 o_2) k_5 o_2) ⟨_, _, rfl, ⟨_, _, rfl, ((r_6_0.tame (m_4.trans m_5)).from ((k0.trans k_1).trans k_2).le)⟩, ⟨rfl, i_6_1⟩⟩
  refine lift_eq g (fun q_7 g => ?_) (fun q_7 g => ?_)
  · have gq := g
    subst q_7
    have g := gq
    clear gq
    refine ldA bx_1 (base_add _ _) rfl (gInt_intro rfl ?_)
    refine letK_intro (y := (2 : Int)) (by decide) ?_
    refine letK_intro (y := (2 : Int)) (by decide) ?_
    refine ldA bx_1 (add2 _ _ _) rfl (gBool_intro rfl ?_)
    refine ldA bx_1 (add2 _ _ _) rfl (gSlice_intro rfl ?_)
    refine ldA bx_1 (base_add _ _) rfl (gInt_intro rfl ?_)
    refine hc_intro (gnomonref04_DocShift.hs (show In .i64 (2 : Int) by decide) (r0_1_1.tame (m_1.trans m_2)) rfl i0_3) fun v h_3 ⟨k_3, s⟩ => ?_
    obtain ⟨p_8, hp_8⟩ : ∃ p, p = docShiftS (2 : Int) (b0_1_0, xs0_1_1) x0_3 := ⟨_, rfl⟩
    rw [← hp_8] at s
    replace g := lift_let2 hp_8 g
    obtain ⟨_, _, rfl, ⟨a_8_0, c_8_0, rfl, r_8_0⟩, ⟨rfl, i_8_1⟩⟩ := s
    refine gTup_intro rfl (uncons_intro (gAgg_intro rfl (uncons_intro (gBool_intro rfl (uncons_intro (gSlice_intro rfl (unnil_intro (uncons_intro (gInt_intro rfl (unnil_intro (?_)))))))))))
    have m_3 := k_3.tame
    have bx_2 := (bx_2.keep k_3)
    refine stA bx_2 (base_add _ _) rfl fun h_4 bx_2 k_4 m_4 => ?_
    refine stA bx_2 (base_add _ _) rfl fun h_5 bx_2 k_5 m_5 => ?_
    refine ldA bx_2 (base_add _ _) rfl (gBool_intro rfl ?_)
    refine ldA bx_2 (base_add _ _) rfl (gSlice_intro rfl ?_)
    exact g _ _ (KeepB.keep (KeepB.keep (((k0.trans k_1).trans k_2).trans k_3) k_4 o_2) k_5 o_2) ⟨_, _, rfl, ⟨_, _, rfl, ((r_8_0.tame (m_4.trans m_5)).from ((k0.trans k_1).trans k_2).le)⟩, ⟨rfl, i_8_1⟩⟩
  refine c_eq (fun _ => ?_) fun q => absurd (by omega) q
  have qk : x0_0 = 13 := by omega
  have gq := g
  subst qk
  have g := gq
  clear gq
  refine ldA bx_1 (base_add _ _) rfl (gInt_intro rfl ?_)
  refine letK_intro (y := (3 : Int)) (by decide) ?_
  refine letK_intro (y := (3 : Int)) (by decide) ?_
  refine ldA bx_1 (add2 _ _ _) rfl (gBool_intro rfl ?_)
  refine ldA bx_1 (add2 _ _ _) rfl (gSlice_intro rfl ?_)
  refine ldA bx_1 (base_add _ _) rfl (gInt_intro rfl ?_)
  refine hc_intro (gnomonref04_DocShift.hs (show In .i64 (3 : Int) by decide) (r0_1_1.tame (m_1.trans m_2)) rfl i0_3) fun v h_3 ⟨k_3, s⟩ => ?_
  obtain ⟨p_9, hp_9⟩ : ∃ p, p = docShiftS (3 : Int) (b0_1_0, xs0_1_1) x0_3 := ⟨_, rfl⟩
  rw [← hp_9] at s
  replace g := lift_let2 hp_9 g
  obtain ⟨_, _, rfl, ⟨a_9_0, c_9_0, rfl, r_9_0⟩, ⟨rfl, i_9_1⟩⟩ := s
  refine gTup_intro rfl (uncons_intro (gAgg_intro rfl (uncons_intro (gBool_intro rfl (uncons_intro (gSlice_intro rfl (unnil_intro (uncons_intro (gInt_intro rfl (unnil_intro (?_)))))))))))
  have m_3 := k_3.tame
  have bx_2 := (bx_2.keep k_3)
  refine stA bx_2 (base_add _ _) rfl fun h_4 bx_2 k_4 m_4 => ?_
  refine stA bx_2 (base_add _ _) rfl fun h_5 bx_2 k_5 m_5 => ?_
  refine ldA bx_2 (base_add _ _) rfl (gBool_intro rfl ?_)
  refine ldA bx_2 (base_add _ _) rfl (gSlice_intro rfl ?_)
  exact g _ _ (KeepB.keep (KeepB.keep (((k0.trans k_1).trans k_2).trans k_3) k_4 o_2) k_5 o_2) ⟨_, _, rfl, ⟨_, _, rfl, ((r_9_0.tame (m_4.trans m_5)).from ((k0.trans k_1).trans k_2).le)⟩, ⟨rfl, i_9_1⟩⟩
def v (x0_0 : Int) (b0_1_0 : Bool) (xs0_1_1 : List Nat) (b0_2_0 : Bool) (xs0_2_1 : List Nat) (x0_3 : Int) : ((Bool × List Nat) × Int) := D1.v x0_0 b0_1_0 xs0_1_1 b0_2_0 xs0_2_1 x0_3
theorem hv {h : Hp} {x0_0 : Int} (i0_0 : In .i64 x0_0) (rl0_0 : 10 ≤ x0_0) (rh0_0 : x0_0 ≤ 13) {b0_1_0 : Bool} {a0_1_1 : Option Addr} {c0_1_1 l0_1_1 : Nat} {xs0_1_1 : List Nat} (r0_1_1 : Rd h a0_1_1 c0_1_1 xs0_1_1) (e0_1_1 : l0_1_1 = xs0_1_1.length) {b0_2_0 : Bool} {a0_2_1 : Option Addr} {c0_2_1 l0_2_1 : Nat} {xs0_2_1 : List Nat} (r0_2_1 : Rd h a0_2_1 c0_2_1 xs0_2_1) (e0_2_1 : l0_2_1 = xs0_2_1.length) {x0_3 : Int} (i0_3 : In .i64 x0_3) : HC id #[.agg #[.int .i64 x0_0, .bool b0_1_0, .slice a0_1_1 l0_1_1 c0_1_1, .bool b0_2_0, .slice a0_2_1 l0_2_1 c0_2_1, .int .i64 x0_3]] h fun v_ h_ => Keep h h_ ∧ (s2 sZW (sI .i64)) h h_ v_ (v x0_0 b0_1_0 xs0_1_1 b0_2_0 xs0_2_1 x0_3) :=
  ok (D1.hv (Keep.refl _) i0_0 rl0_0 rh0_0 r0_1_1 e0_1_1 r0_2_1 e0_2_1 i0_3 fun v h' k s => ⟨k, s⟩)
end gnomonlaw04_doc

namespace gnomonlaw04_number
def D2.v (b2_0 : Bool) (xs2_1 : List Nat) (b4_0 : Bool) (xs4_1 : List Nat) (x5 : Int) : ((Bool × List Nat) × Int) :=
  ((b4_0, xs4_1), x5)
theorem D2.hv {R : Rt} {h0 h : Hp} (k0 : Keep h0 h) {b2_0 : Bool} {a2_1 : Option Addr} {c2_1 : Nat} {xs2_1 : List Nat} (r2_1 : GotE eU64 h0 h a2_1 c2_1 xs2_1) {B2 : Nat} (bx2 : BlkV h B2 [.bool b2_0, .slice a2_1 xs2_1.length c2_1]) (o2 : h0.size ≤ B2) {b4_0 : Bool} {a4_1 : Option Addr} {c4_1 : Nat} {xs4_1 : List Nat} (r4_1 : GotE eU64 h0 h a4_1 c4_1 xs4_1) {B4 : Nat} (bx4 : BlkV h B4 [.bool b4_0, .slice a4_1 xs4_1.length c4_1]) (o4 : h0.size ≤ B4) {x5 : Int} (i5 : In .i64 x5) (d2q4 : B2 ≠ B4) (tb : Tab h) (g : Post (s2 sZW (sI .i64)) h0 R (D2.v b2_0 xs2_1 b4_0 xs4_1 x5)) : D2.t R (⟨B2, 0, none⟩ : Addr) (⟨B4, 0, none⟩ : Addr) x5 h := by
  have lt2 := bx2.lt
  have lt4 := bx4.lt
  unfold D2.v at g
  unfold D2.t
  refine ldA bx4 (base_add _ _) rfl (gBool_intro rfl ?_)
  refine ldA bx4 (base_add _ _) rfl (gSlice_intro rfl ?_)
  refine stA bx2 (base_add _ _) rfl fun h_1 bx2 k_1 m_1 => ?_
  refine stA bx2 (base_add _ _) rfl fun h_2 bx2 k_2 m_2 => ?_
  refine ldA bx2 (base_add _ _) rfl (gBool_intro rfl ?_)
  refine ldA bx2 (base_add _ _) rfl (gSlice_intro rfl ?_)
  exact g _ _ (KeepB.keep (KeepB.keep k0 k_1 o2) k_2 o2) ⟨_, _, rfl, ⟨_, _, rfl, (r4_1.tame (m_1.trans m_2))⟩, ⟨rfl, i5⟩⟩
def D1.v (x0_0 : Int) (b0_1_0 : Bool) (xs0_1_1 : List Nat) (b0_2_0 : Bool) (xs0_2_1 : List Nat) (x0_3 : Int) : ((Bool × List Nat) × Int) :=
  bif (x0_0 == (10 : Int)) then
    letV (shlZ (b0_1_0, xs0_1_1) x0_3) fun p_5 =>
    D2.v false ([] : List Nat) p_5.1.1 p_5.1.2 p_5.2
  else
    bif (x0_0 == (11 : Int)) then
      letV (shrZ flo (b0_1_0, xs0_1_1) x0_3) fun p_7 =>
      D2.v false ([] : List Nat) p_7.1.1 p_7.1.2 p_7.2
    else
      bif (x0_0 == (12 : Int)) then
        letV (shrZ cei (b0_1_0, xs0_1_1) x0_3) fun p_9 =>
        D2.v false ([] : List Nat) p_9.1.1 p_9.1.2 p_9.2
      else
        letV (shrZ nea (b0_1_0, xs0_1_1) x0_3) fun p_10 =>
        D2.v false ([] : List Nat) p_10.1.1 p_10.1.2 p_10.2
theorem D1.hv {R : Rt} {h0 h : Hp} (k0 : Keep h0 h) {x0_0 : Int} (i0_0 : In .i64 x0_0) (rl0_0 : 10 ≤ x0_0) (rh0_0 : x0_0 ≤ 13) {b0_1_0 : Bool} {a0_1_1 : Option Addr} {c0_1_1 l0_1_1 : Nat} {xs0_1_1 : List Nat} (r0_1_1 : Rd h a0_1_1 c0_1_1 xs0_1_1) (e0_1_1 : l0_1_1 = xs0_1_1.length) {b0_2_0 : Bool} {a0_2_1 : Option Addr} {c0_2_1 l0_2_1 : Nat} {xs0_2_1 : List Nat} (r0_2_1 : Rd h a0_2_1 c0_2_1 xs0_2_1) (e0_2_1 : l0_2_1 = xs0_2_1.length) {x0_3 : Int} (i0_3 : In .i64 x0_3) (tb : Tab h) (g : Post (s2 sZW (sI .i64)) h0 R (D1.v x0_0 b0_1_0 xs0_1_1 b0_2_0 xs0_2_1 x0_3)) : D1.t R x0_0 b0_1_0 a0_1_1 l0_1_1 c0_1_1 b0_2_0 a0_2_1 l0_2_1 c0_2_1 x0_3 h := by
  subst e0_1_1 e0_2_1
  unfold D1.v at g
  unfold D1.t
  refine boxV fun h_1 bx_1 k_1 => ?_
  have o_1 := k0.le
  have lt_1 := bx_1.lt
  have m_1 := k_1.tame
  refine boxV fun h_2 bx_2 k_2 => ?_
  have o_2 := (k0.trans k_1).le
  have lt_2 := bx_2.lt
  have m_2 := k_2.tame
  refine boxV fun h_3 bx_3 k_3 => ?_
  have o_3 := ((k0.trans k_1).trans k_2).le
  have lt_3 := bx_3.lt
  have m_3 := k_3.tame
  have bx_1 := ((bx_1.keep k_2).keep k_3)
  refine ldA bx_1 (base_add _ _) rfl (gInt_intro rfl ?_)
  refine c_eq (fun q => absurd q (by omega)) fun _ => ?_
  refine c_eq (fun q => absurd q (by omega)) fun _ => ?_
  refine c_eq (fun q => absurd q (by omega)) fun _ => ?_
  refine c_eq (fun q => absurd q (by omega)) fun _ => ?_
  refine c_eq (fun q => absurd q (by omega)) fun _ => ?_
  refine lift_eq g (fun q_4 g => ?_) (fun q_4 g => ?_)
  · have gq := g
    subst q_4
    have g := gq
    clear gq
    refine ldA bx_1 (add2 _ _ _) rfl (gBool_intro rfl ?_)
    refine ldA bx_1 (add2 _ _ _) rfl (gSlice_intro rfl ?_)
    refine ldA bx_1 (base_add _ _) rfl (gInt_intro rfl ?_)
    refine hc_intro (num_Shl.hs (r0_1_1.tame (m_1.trans (m_2.trans m_3))) rfl i0_3) fun v h_4 ⟨k_4, s⟩ => ?_
    obtain ⟨p_5, hp_5⟩ : ∃ p, p = shlZ (b0_1_0, xs0_1_1) x0_3 := ⟨_, rfl⟩
    rw [← hp_5] at s
    replace g := lift_let2 hp_5 g
    obtain ⟨_, _, rfl, ⟨a_5_0, c_5_0, rfl, r_5_0⟩, ⟨rfl, i_5_1⟩⟩ := s
    refine gTup_intro rfl (uncons_intro (gAgg_intro rfl (uncons_intro (gBool_intro rfl (uncons_intro (gSlice_intro rfl (unnil_intro (uncons_intro (gInt_intro rfl (unnil_intro (?_)))))))))))
    have m_4 := k_4.tame
    have bx_3 := (bx_3.keep k_4)
    refine stA bx_3 (base_add _ _) rfl fun h_5 bx_3 k_5 m_5 => ?_
    refine stA bx_3 (base_add _ _) rfl fun h_6 bx_3 k_6 m_6 => ?_
    have bx_2 := ((((bx_2.keep k_3).keep k_4).keepB (Nat.ne_of_lt lt_2) k_5).keepB (Nat.ne_of_lt lt_2) k_6)
    exact D2.hv (KeepB.keep (KeepB.keep ((((k0.trans k_1).trans k_2).trans k_3).trans k_4) k_5 o_3) k_6 o_3) (GotE.nil _ _) bx_2 o_2 ((r_5_0.tame (m_5.trans m_6)).from (((k0.trans k_1).trans k_2).trans k_3).le) bx_3 o_3 i_5_1 (Nat.ne_of_lt lt_2) (tb.tame (m_1.trans (m_2.trans (m_3.trans (m_4.trans (m_5.trans m_6)))))) g
  refine lift_eq g (fun q_6 g => ?_) (fun q_6 g => ?_)
  · have gq := g
    subst q_6
    have g := gq
    clear gq
    refine ldA bx_1 (add2 _ _ _) rfl (gBool_intro rfl ?_)
    refine ldA bx_1 (add2 _ _ _) rfl (gSlice_intro rfl ?_)
    refine ldA bx_1 (base_add _ _) rfl (gInt_intro rfl ?_)
    refine hc_intro (num_FloorShr.hs (r0_1_1.tame (m_1.trans (m_2.trans m_3))) rfl i0_3 (tb.tame (m_1.trans (m_2.trans m_3)))) fun v h_4 ⟨k_4, s⟩ => ?_
    obtain ⟨p_7, hp_7⟩ : ∃ p, p = shrZ flo (b0_1_0, xs0_1_1) x0_3 := ⟨_, rfl⟩
    rw [← hp_7] at s
    replace g := lift_let2 hp_7 g
    obtain ⟨_, _, rfl, ⟨a_7_0, c_7_0, rfl, r_7_0⟩, ⟨rfl, i_7_1⟩⟩ := s
    refine gTup_intro rfl (uncons_intro (gAgg_intro rfl (uncons_intro (gBool_intro rfl (uncons_intro (gSlice_intro rfl (unnil_intro (uncons_intro (gInt_intro rfl (unnil_intro (?_)))))))))))
    have m_4 := k_4.tame
    have bx_3 := (bx_3.keep k_4)
    refine stA bx_3 (base_add _ _) rfl fun h_5 bx_3 k_5 m_5 => ?_
    refine stA bx_3 (base_add _ _) rfl fun h_6 bx_3 k_6 m_6 => ?_
    have bx_2 := ((((bx_2.keep k_3).keep k_4).keepB (Nat.ne_of_lt lt_2) k_5).keepB (Nat.ne_of_lt lt_2) k_6)
    exact D2.hv (KeepB.keep (KeepB.keep ((((k0.trans k_1).trans k_2).trans k_3).trans k_4) k_5 o_3) k_6 o_3) (GotE.nil _ _) bx_2 o_2 ((r_7_0.tame (m_5.trans m_6)).from (((k0.trans k_1).trans k_2).trans k_3).le) bx_3 o_3 i_7_1 (Nat.ne_of_lt lt_2) (tb.tame (m_1.trans (m_2.trans (m_3.trans (m_4.trans (m_5.trans m_6)))))) g
  refine lift_eq g (fun q_8 g => ?_) (fun q_8 g => ?_)
  · have gq := g
    subst q_8
    have g := gq
    clear gq
    refine ldA bx_1 (add2 _ _ _) rfl (gBool_intro rfl ?_)
    refine ldA bx_1 (add2 _ _ _) rfl (gSlice_intro rfl ?_)
    refine ldA bx_1 (base_add _ _) rfl (gInt_intro rfl ?_)
    refine hc_intro (num_CeilShr.hs (r0_1_1.tame (m_1.trans (m_2.trans m_3))) rfl i0_3 (tb.tame (m_1.trans (m_2.trans m_3)))) fun v h_4 ⟨k_4, s⟩ => ?_
    obtain ⟨p_9, hp_9⟩ : ∃ p, p = shrZ cei (b0_1_0, xs0_1_1) x0_3 := ⟨_, rfl⟩
    rw [← hp_9] at s
    replace g := lift_let2 hp_9 g
    obtain ⟨_, _, rfl, ⟨a_9_0, c_9_0, rfl, r_9_0⟩, ⟨rfl, i_9_1⟩⟩ := s
    refine gTup_intro rfl (uncons_intro (gAgg_intro rfl (uncons_intro (gBool_intro rfl (uncons_intro (gSlice_intro rfl (unnil_intro (uncons_intro (gInt_intro rfl (unnil_intro (?_)))))))))))
    have m_4 := k_4.tame
    have bx_3 := (bx_3.keep k_4)
    refine stA bx_3 (base_add _ _) rfl fun h_5 bx_3 k_5 m_5 => ?_
    refine stA bx_3 (base_add _ _) rfl fun h_6 bx_3 k_6 m_6 => ?_
    have bx_2 := ((((bx_2.keep k_3).keep k_4).keepB (Nat.ne_of_lt lt_2) k_5).keepB (Nat.ne_of_lt lt_2) k_6)
    exact D2.hv (KeepB.keep (KeepB.keep ((((k0.trans k_1).trans k_2).trans k_3).trans k_4) k_5 o_3) k_6 o_3) (GotE.nil _ _) bx_2 o_2 ((r_9_0.tame (m_5.trans m_6)).from (((k0.trans k_1).trans k_2).trans k_3).le) bx_3 o_3 i_9_1 (Nat.ne_of_lt lt_2) (tb.tame (m_1.trans (m_2.trans (m_3.trans (m_4.trans (m_5.trans m_6)))))) g
  refine c_eq (fun _ => ?_) fun q => absurd (by omega) q
  have qk : x0_0 = 13 := by omega
  have gq := g
  subst qk
  have g := gq
  clear gq
  refine ldA bx_1 (add2 _ _ _) rfl (gBool_intro rfl ?_)
  refine ldA bx_1 (add2 _ _ _) rfl (gSlice_intro rfl ?_)
  refine ldA bx_1 (base_add _ _) rfl (gInt_intro rfl ?_)
  refine hc_intro (num_NearShr.hs (r0_1_1.tame (m_1.trans (m_2.trans m_3))) rfl i0_3 (tb.tame (m_1.trans (m_2.trans m_3)))) fun v h_4 ⟨k_4, s⟩ => ?_
  obtain ⟨p_10, hp_10⟩ : ∃ p, p = shrZ nea (b0_1_0, xs0_1_1) x0_3 := ⟨_, rfl⟩
  rw [← hp_10] at s
  replace g := lift_let2 hp_10 g
  obtain ⟨_, _, rfl, ⟨a_10_0, c_10_0, rfl, r_10_0⟩, ⟨rfl, i_10_1⟩⟩ := s
  refine gTup_intro rfl (uncons_intro (gAgg_intro rfl (uncons_intro (gBool_intro rfl (uncons_intro (gSlice_intro rfl (unnil_intro (uncons_intro (gInt_intro rfl (unnil_intro (?_)))))))))))
  have m_4 := k_4.tame
  have bx_3 := (bx_3.keep k_4)
  refine stA bx_3 (base_add _ _) rfl fun h_5 bx_3 k_5 m_5 => ?_
  refine stA bx_3 (base_add _ _) rfl fun h_6 bx_3 k_6 m_6 => ?_
  have bx_2 := ((((bx_2.keep k_3).keep k_4).keepB (Nat.ne_of_lt lt_2) k_5).keepB (Nat.ne_of_lt lt_2) k_6)
  exact D2.hv (KeepB.keep (KeepB.keep ((((k0.trans k_1).trans k_2).trans k_3).trans k_4) k_5 o_3) k_6 o_3) (GotE.nil _ _) bx_2 o_2 ((r_10_0.tame (m_5.trans m_6)).from (((k0.trans k_1).trans k_2).trans k_3).le) bx_3 o_3 i_10_1 (Nat.ne_of_lt lt_2) (tb.tame (m_1.trans (m_2.trans (m_3.trans (m_4.trans (m_5.trans m_6)))))) g
def v (x0_0 : Int) (b0_1_0 : Bool) (xs0_1_1 : List Nat) (b0_2_0 : Bool) (xs0_2_1 : List Nat) (x0_3 : Int) : ((Bool × List Nat) × Int) := D1.v x0_0 b0_1_0 xs0_1_1 b0_2_0 xs0_2_1 x0_3
theorem hv {h : Hp} {x0_0 : Int} (i0_0 : In .i64 x0_0) (rl0_0 : 10 ≤ x0_0) (rh0_0 : x0_0 ≤ 13) {b0_1_0 : Bool} {a0_1_1 : Option Addr} {c0_1_1 l0_1_1 : Nat} {xs0_1_1 : List Nat} (r0_1_1 : Rd h a0_1_1 c0_1_1 xs0_1_1) (e0_1_1 : l0_1_1 = xs0_1_1.length) {b0_2_0 : Bool} {a0_2_1 : Option Addr} {c0_2_1 l0_2_1 : Nat} {xs0_2_1 : List Nat} (r0_2_1 : Rd h a0_2_1 c0_2_1 xs0_2_1) (e0_2_1 : l0_2_1 = xs0_2_1.length) {x0_3 : Int} (i0_3 : In .i64 x0_3) (tb : Tab h) : HC id #[.agg #[.int .i64 x0_0, .bool b0_1_0, .slice a0_1_1 l0_1_1 c0_1_1, .bool b0_2_0, .slice a0_2_1 l0_2_1 c0_2_1, .int .i64 x0_3]] h fun v_ h_ => Keep h h_ ∧ (s2 sZW (sI .i64)) h h_ v_ (v x0_0 b0_1_0 xs0_1_1 b0_2_0 xs0_2_1 x0_3) :=
  ok (D1.hv (Keep.refl _) i0_0 rl0_0 rh0_0 r0_1_1 e0_1_1 r0_2_1 e0_2_1 i0_3 tb fun v h' k s => ⟨k, s⟩)
end gnomonlaw04_number

end Go.Proofs.YtanlcacaihdceaaGreatDoor.G

/- The program's answer and the document's are one. -/
namespace Go.Proofs.YtanlcacaihdceaaGreatDoor.G
open Go.Gv
set_option linter.unusedVariables false
set_option maxRecDepth 100000
theorem doc_number {k : Int} (h1 : 10 ≤ k) (h2 : k ≤ 13) (b : Bool) (xs : List Nat) (c : Bool) (ys : List Nat) (n : Int) : gnomonlaw04_doc.v k b xs c ys n = gnomonlaw04_number.v k b xs c ys n := by
  unfold gnomonlaw04_doc.v gnomonlaw04_doc.D1.v gnomonlaw04_number.v gnomonlaw04_number.D1.v gnomonlaw04_number.D2.v
  simp only [letV, eta2]
  by_cases e10 : k = 10
  · subst e10
    rfl
  by_cases e11 : k = 11
  · subst e11
    rfl
  by_cases e12 : k = 12
  · subst e12
    rfl
  by_cases e13 : k = 13
  · subst e13
    rfl
  exfalso; omega
end Go.Proofs.YtanlcacaihdceaaGreatDoor.G

/- Functions without loops as functions of values. Written by a program of this work. -/
namespace Go.Proofs.YtanlcacaihdceaaGreatDoor.G
open Go.Gv
set_option linter.unusedVariables false
set_option maxRecDepth 100000
namespace gnomonlaw04_plays
def D3.v (b11_0 : Bool) (xs11_1 : List Nat) (x12 : Int) (b13_0 : Bool) (xs13_1 : List Nat) (x14 : Int) : Bool :=
  letV (gnomonlaw04_told.v b13_0 xs13_1 x14 b11_0 xs11_1 x12) fun p_8 =>
  p_8
theorem D3.hv {R : Rt} {h0 h : Hp} (k0 : Keep h0 h) {b11_0 : Bool} {a11_1 : Option Addr} {c11_1 : Nat} {xs11_1 : List Nat} (r11_1 : GotE eU64 h0 h a11_1 c11_1 xs11_1) {B11 : Nat} (bx11 : BlkV h B11 [.bool b11_0, .slice a11_1 xs11_1.length c11_1]) (o11 : h0.size ≤ B11) {x12 : Int} (i12 : In .i64 x12) {b13_0 : Bool} {a13_1 : Option Addr} {c13_1 : Nat} {xs13_1 : List Nat} (r13_1 : GotE eU64 h0 h a13_1 c13_1 xs13_1) {B13 : Nat} (bx13 : BlkV h B13 [.bool b13_0, .slice a13_1 xs13_1.length c13_1]) (o13 : h0.size ≤ B13) {x14 : Int} (i14 : In .i64 x14) (d11q13 : B11 ≠ B13) (tb : Tab h) (g : Post sBool h0 R (D3.v b11_0 xs11_1 x12 b13_0 xs13_1 x14)) : D3.t R (⟨B11, 0, none⟩ : Addr) x12 (⟨B13, 0, none⟩ : Addr) x14 h := by
  have lt11 := bx11.lt
  have lt13 := bx13.lt
  unfold D3.v at g
  unfold D3.t
  refine ldA bx13 (base_add _ _) rfl (gBool_intro rfl ?_)
  refine ldA bx13 (base_add _ _) rfl (gSlice_intro rfl ?_)
  refine ldA bx11 (base_add _ _) rfl (gBool_intro rfl ?_)
  refine ldA bx11 (base_add _ _) rfl (gSlice_intro rfl ?_)
  refine hc_intro (gnomonlaw04_told.hv r13_1.rd64 rfl i14 r11_1.rd64 rfl i12) fun v h_1 ⟨k_1, s⟩ => ?_
  obtain ⟨p_8, hp_8⟩ : ∃ p, p = gnomonlaw04_told.v b13_0 xs13_1 x14 b11_0 xs11_1 x12 := ⟨_, rfl⟩
  rw [← hp_8] at s
  replace g := lift_let2 hp_8 g
  obtain rfl := s
  refine gBool_intro rfl (?_)
  have m_1 := k_1.tame
  exact g _ _ (k0.trans k_1) rfl
def D2.v (x1_0 : Int) (b1_1 : Bool) (xs1_2 : List Nat) (b1_3 : Bool) (xs1_4 : List Nat) (x1_5 : Int) : Bool :=
  letV (gnomonlaw04_doc.v x1_0 b1_1 xs1_2 b1_3 xs1_4 x1_5) fun p_2 =>
  letV (gnomonlaw04_number.v x1_0 (((b1_1, xs1_2)).1) (((b1_1, xs1_2)).2) (((b1_3, xs1_4)).1) (((b1_3, xs1_4)).2) x1_5) fun p_6 =>
  D3.v p_2.1.1 p_2.1.2 p_2.2 p_6.1.1 p_6.1.2 p_6.2
theorem D2.hv {R : Rt} {h0 h : Hp} (k0 : Keep h0 h) {x1_0 : Int} (i1_0 : In .i64 x1_0) (rl1_0 : 10 ≤ x1_0) (rh1_0 : x1_0 ≤ 13) {b1_1 : Bool} {a1_2 : Option Addr} {c1_2 : Nat} {xs1_2 : List Nat} (r1_2 : Rd h a1_2 c1_2 xs1_2) {b1_3 : Bool} {a1_4 : Option Addr} {c1_4 : Nat} {xs1_4 : List Nat} (r1_4 : Rd h a1_4 c1_4 xs1_4) {x1_5 : Int} (i1_5 : In .i64 x1_5) {B1 : Nat} (bx1 : BlkV h B1 [.int .i64 x1_0, .bool b1_1, .slice a1_2 xs1_2.length c1_2, .bool b1_3, .slice a1_4 xs1_4.length c1_4, .int .i64 x1_5]) (o1 : h0.size ≤ B1) (v1 : 10 ≤ x1_0) (v2 : x1_0 ≤ 13) (tb : Tab h) (g : Post sBool h0 R (D2.v x1_0 b1_1 xs1_2 b1_3 xs1_4 x1_5)) : D2.t R (⟨B1, 0, none⟩ : Addr) h := by
  have lt1 := bx1.lt
  unfold D2.v at g
  unfold D2.t
  refine ldA bx1 (base_add _ _) rfl (gInt_intro rfl ?_)
  refine ldA bx1 (base_add _ _) rfl (gBool_intro rfl ?_)
  refine ldA bx1 (base_add _ _) rfl (gSlice_intro rfl ?_)
  refine ldA bx1 (base_add _ _) rfl (gBool_intro rfl ?_)
  refine ldA bx1 (base_add _ _) rfl (gSlice_intro rfl ?_)
  refine ldA bx1 (base_add _ _) rfl (gInt_intro rfl ?_)
  refine hc_intro (gnomonlaw04_doc.hv i1_0 (by first | assumption | decide | omega) (by first | assumption | decide | omega) r1_2 rfl r1_4 rfl i1_5) fun v h_1 ⟨k_1, s⟩ => ?_
  obtain ⟨p_2, hp_2⟩ : ∃ p, p = gnomonlaw04_doc.v x1_0 b1_1 xs1_2 b1_3 xs1_4 x1_5 := ⟨_, rfl⟩
  rw [← hp_2] at s
  replace g := lift_let2 hp_2 g
  obtain ⟨_, _, rfl, ⟨a_2_0, c_2_0, rfl, r_2_0⟩, ⟨rfl, i_2_1⟩⟩ := s
  refine gTup_intro rfl (uncons_intro (gAgg_intro rfl (uncons_intro (gBool_intro rfl (uncons_intro (gSlice_intro rfl (unnil_intro (uncons_intro (gInt_intro rfl (unnil_intro (?_)))))))))))
  have m_1 := k_1.tame
  refine boxV fun h_2 bx_3 k_2 => ?_
  have o_3 := (k0.trans k_1).le
  have lt_3 := bx_3.lt
  have m_2 := k_2.tame
  refine stA bx_3 (base_add _ _) rfl fun h_3 bx_3 k_3 m_3 => ?_
  refine stA bx_3 (base_add _ _) rfl fun h_4 bx_3 k_4 m_4 => ?_
  have bx1 := ((((bx1.keep k_1).keep k_2).keepB (Nat.ne_of_lt ((m_1).lt lt1)) k_3).keepB (Nat.ne_of_lt ((m_1).lt lt1)) k_4)
  refine ⟨blkLt (base_add _ _) ((m_1.trans (m_2.trans (m_3.trans m_4))).lt lt1), ?_⟩
  refine ldA bx1 (base_add _ _) rfl (gInt_intro rfl ?_)
  refine ⟨blkLt (base_add _ _) ((m_1.trans (m_2.trans (m_3.trans m_4))).lt lt1), ?_⟩
  refine ldA bx1 (add2 _ _ _) rfl (gBool_intro rfl ?_)
  refine ldA bx1 (add2 _ _ _) rfl (gSlice_intro rfl ?_)
  refine ⟨blkLt (base_add _ _) ((m_1.trans (m_2.trans (m_3.trans m_4))).lt lt1), ?_⟩
  refine ldA bx1 (add2 _ _ _) rfl (gBool_intro rfl ?_)
  refine ldA bx1 (add2 _ _ _) rfl (gSlice_intro rfl ?_)
  refine ⟨blkLt (base_add _ _) ((m_1.trans (m_2.trans (m_3.trans m_4))).lt lt1), ?_⟩
  refine ldA bx1 (base_add _ _) rfl (gInt_intro rfl ?_)
  refine ⟨?_, ?_⟩
  · refine hc_intro (gnomonlaw04_twin.hs (r1_2.tame (m_1.trans (m_2.trans (m_3.trans m_4)))) rfl) fun v h_5 ⟨k_5, s⟩ => ?_
    obtain ⟨a_4, c_4, rfl, r_4⟩ := s
    refine gAgg_intro rfl (uncons_intro (gBool_intro rfl (uncons_intro (gSlice_intro rfl (unnil_intro (?_))))))
    have m_5 := k_5.tame
    refine ⟨k_5.preLe (Nat.le_refl _), ?_⟩
    refine ⟨?_, ?_⟩
    · refine hc_intro (gnomonlaw04_twin.hs (r1_4.tame (m_1.trans (m_2.trans (m_3.trans (m_4.trans m_5))))) rfl) fun v h_6 ⟨k_6, s⟩ => ?_
      obtain ⟨a_5, c_5, rfl, r_5⟩ := s
      refine gAgg_intro rfl (uncons_intro (gBool_intro rfl (uncons_intro (gSlice_intro rfl (unnil_intro (?_))))))
      have m_6 := k_6.tame
      refine ⟨k_6.preLe (m_5).le, ?_⟩
      refine ⟨?_, ?_⟩
      · refine hc_intro (gnomonlaw04_number.hv i1_0 (by first | assumption | decide | omega) (by first | assumption | decide | omega) (r_4.tame (m_6)).rd64 rfl r_5.rd64 rfl i1_5 (tb.tame (m_1.trans (m_2.trans (m_3.trans (m_4.trans (m_5.trans m_6))))))) fun v h_7 ⟨k_7, s⟩ => ?_
        obtain ⟨p_6, hp_6⟩ : ∃ p, p = gnomonlaw04_number.v x1_0 (((b1_1, xs1_2)).1) (((b1_1, xs1_2)).2) (((b1_3, xs1_4)).1) (((b1_3, xs1_4)).2) x1_5 := ⟨_, rfl⟩
        rw [← hp_6] at s
        replace g := lift_let2 hp_6 g
        obtain ⟨_, _, rfl, ⟨a_6_0, c_6_0, rfl, r_6_0⟩, ⟨rfl, i_6_1⟩⟩ := s
        refine gTup_intro rfl (uncons_intro (gAgg_intro rfl (uncons_intro (gBool_intro rfl (uncons_intro (gSlice_intro rfl (unnil_intro (uncons_intro (gInt_intro rfl (unnil_intro (?_)))))))))))
        have m_7 := k_7.tame
        refine ⟨k_7.preLe (m_5.trans m_6).le, ?_⟩
        refine boxV fun h_8 bx_7 k_8 => ?_
        have o_7 := ((((KeepB.keep (KeepB.keep ((k0.trans k_1).trans k_2) k_3 o_3) k_4 o_3).trans k_5).trans k_6).trans k_7).le
        have lt_7 := bx_7.lt
        have m_8 := k_8.tame
        refine ⟨k_8.preLe (m_5.trans (m_6.trans m_7)).le, ?_⟩
        refine stA bx_7 (base_add _ _) rfl fun h_9 bx_7 k_9 m_9 => ?_
        refine stA bx_7 (base_add _ _) rfl fun h_10 bx_7 k_10 m_10 => ?_
        have bx_3 := ((((((bx_3.keep k_5).keep k_6).keep k_7).keep k_8).keepB (Nat.ne_of_lt ((m_3.trans (m_4.trans (m_5.trans (m_6.trans m_7)))).lt lt_3)) k_9).keepB (Nat.ne_of_lt ((m_3.trans (m_4.trans (m_5.trans (m_6.trans m_7)))).lt lt_3)) k_10)
        exact D3.hv (KeepB.keep (KeepB.keep (((((KeepB.keep (KeepB.keep ((k0.trans k_1).trans k_2) k_3 o_3) k_4 o_3).trans k_5).trans k_6).trans k_7).trans k_8) k_9 o_7) k_10 o_7) ((r_2_0.tame (m_2.trans (m_3.trans (m_4.trans (m_5.trans (m_6.trans (m_7.trans (m_8.trans (m_9.trans m_10))))))))).from k0.le) bx_3 o_3 i_2_1 ((r_6_0.tame (m_8.trans (m_9.trans m_10))).from (((KeepB.keep (KeepB.keep ((k0.trans k_1).trans k_2) k_3 o_3) k_4 o_3).trans k_5).trans k_6).le) bx_7 o_7 i_6_1 (Nat.ne_of_lt ((m_3.trans (m_4.trans (m_5.trans (m_6.trans m_7)))).lt lt_3)) (tb.tame (m_1.trans (m_2.trans (m_3.trans (m_4.trans (m_5.trans (m_6.trans (m_7.trans (m_8.trans (m_9.trans m_10)))))))))) g
      refine boxV fun h_7 bx_9 k_7 => ?_
      have o_9 := (((KeepB.keep (KeepB.keep ((k0.trans k_1).trans k_2) k_3 o_3) k_4 o_3).trans k_5).trans k_6).le
      have lt_9 := bx_9.lt
      have m_7 := k_7.tame
      refine ⟨k_7.preLe (m_5.trans m_6).le, ?_⟩
      refine hc_intro (gnomonlaw04_number.hv i1_0 (by first | assumption | decide | omega) (by first | assumption | decide | omega) (r_4.tame (m_6.trans m_7)).rd64 rfl (r_5.tame (m_7)).rd64 rfl i1_5 (tb.tame (m_1.trans (m_2.trans (m_3.trans (m_4.trans (m_5.trans (m_6.trans m_7)))))))) fun v h_8 ⟨k_8, s⟩ => ?_
      obtain ⟨p_10, hp_10⟩ : ∃ p, p = gnomonlaw04_number.v x1_0 (((b1_1, xs1_2)).1) (((b1_1, xs1_2)).2) (((b1_3, xs1_4)).1) (((b1_3, xs1_4)).2) x1_5 := ⟨_, rfl⟩
      rw [← hp_10] at s
      replace g := lift_let2 hp_10 g
      obtain ⟨_, _, rfl, ⟨a_10_0, c_10_0, rfl, r_10_0⟩, ⟨rfl, i_10_1⟩⟩ := s
      refine gTup_intro rfl (uncons_intro (gAgg_intro rfl (uncons_intro (gBool_intro rfl (uncons_intro (gSlice_intro rfl (unnil_intro (uncons_intro (gInt_intro rfl (unnil_intro (?_)))))))))))
      have m_8 := k_8.tame
      refine ⟨k_8.preLe (m_5.trans (m_6.trans m_7)).le, ?_⟩
      have bx_9 := (bx_9.keep k_8)
      refine stA bx_9 (base_add _ _) rfl fun h_9 bx_9 k_9 m_9 => ?_
      refine stA bx_9 (base_add _ _) rfl fun h_10 bx_9 k_10 m_10 => ?_
      have bx_3 := ((((((bx_3.keep k_5).keep k_6).keep k_7).keep k_8).keepB (Nat.ne_of_lt ((m_3.trans (m_4.trans (m_5.trans m_6))).lt lt_3)) k_9).keepB (Nat.ne_of_lt ((m_3.trans (m_4.trans (m_5.trans m_6))).lt lt_3)) k_10)
      exact D3.hv (KeepB.keep (KeepB.keep (((((KeepB.keep (KeepB.keep ((k0.trans k_1).trans k_2) k_3 o_3) k_4 o_3).trans k_5).trans k_6).trans k_7).trans k_8) k_9 o_9) k_10 o_9) ((r_2_0.tame (m_2.trans (m_3.trans (m_4.trans (m_5.trans (m_6.trans (m_7.trans (m_8.trans (m_9.trans m_10))))))))).from k0.le) bx_3 o_3 i_2_1 ((r_10_0.tame (m_9.trans m_10)).from ((((KeepB.keep (KeepB.keep ((k0.trans k_1).trans k_2) k_3 o_3) k_4 o_3).trans k_5).trans k_6).trans k_7).le) bx_9 o_9 i_10_1 (Nat.ne_of_lt ((m_3.trans (m_4.trans (m_5.trans m_6))).lt lt_3)) (tb.tame (m_1.trans (m_2.trans (m_3.trans (m_4.trans (m_5.trans (m_6.trans (m_7.trans (m_8.trans (m_9.trans m_10)))))))))) g
    refine boxV fun h_6 bx_11 k_6 => ?_
    have o_11 := ((KeepB.keep (KeepB.keep ((k0.trans k_1).trans k_2) k_3 o_3) k_4 o_3).trans k_5).le
    have lt_11 := bx_11.lt
    have m_6 := k_6.tame
    refine ⟨k_6.preLe (m_5).le, ?_⟩
    refine hc_intro (gnomonlaw04_twin.hs (r1_4.tame (m_1.trans (m_2.trans (m_3.trans (m_4.trans (m_5.trans m_6)))))) rfl) fun v h_7 ⟨k_7, s⟩ => ?_
    obtain ⟨a_12, c_12, rfl, r_12⟩ := s
    refine gAgg_intro rfl (uncons_intro (gBool_intro rfl (uncons_intro (gSlice_intro rfl (unnil_intro (?_))))))
    have m_7 := k_7.tame
    refine ⟨k_7.preLe (m_5.trans m_6).le, ?_⟩
    refine hc_intro (gnomonlaw04_number.hv i1_0 (by first | assumption | decide | omega) (by first | assumption | decide | omega) (r_4.tame (m_6.trans m_7)).rd64 rfl r_12.rd64 rfl i1_5 (tb.tame (m_1.trans (m_2.trans (m_3.trans (m_4.trans (m_5.trans (m_6.trans m_7)))))))) fun v h_8 ⟨k_8, s⟩ => ?_
    obtain ⟨p_13, hp_13⟩ : ∃ p, p = gnomonlaw04_number.v x1_0 (((b1_1, xs1_2)).1) (((b1_1, xs1_2)).2) (((b1_3, xs1_4)).1) (((b1_3, xs1_4)).2) x1_5 := ⟨_, rfl⟩
    rw [← hp_13] at s
    replace g := lift_let2 hp_13 g
    obtain ⟨_, _, rfl, ⟨a_13_0, c_13_0, rfl, r_13_0⟩, ⟨rfl, i_13_1⟩⟩ := s
    refine gTup_intro rfl (uncons_intro (gAgg_intro rfl (uncons_intro (gBool_intro rfl (uncons_intro (gSlice_intro rfl (unnil_intro (uncons_intro (gInt_intro rfl (unnil_intro (?_)))))))))))
    have m_8 := k_8.tame
    refine ⟨k_8.preLe (m_5.trans (m_6.trans m_7)).le, ?_⟩
    have bx_11 := ((bx_11.keep k_7).keep k_8)
    refine stA bx_11 (base_add _ _) rfl fun h_9 bx_11 k_9 m_9 => ?_
    refine stA bx_11 (base_add _ _) rfl fun h_10 bx_11 k_10 m_10 => ?_
    have bx_3 := ((((((bx_3.keep k_5).keep k_6).keep k_7).keep k_8).keepB (Nat.ne_of_lt ((m_3.trans (m_4.trans m_5)).lt lt_3)) k_9).keepB (Nat.ne_of_lt ((m_3.trans (m_4.trans m_5)).lt lt_3)) k_10)
    exact D3.hv (KeepB.keep (KeepB.keep (((((KeepB.keep (KeepB.keep ((k0.trans k_1).trans k_2) k_3 o_3) k_4 o_3).trans k_5).trans k_6).trans k_7).trans k_8) k_9 o_11) k_10 o_11) ((r_2_0.tame (m_2.trans (m_3.trans (m_4.trans (m_5.trans (m_6.trans (m_7.trans (m_8.trans (m_9.trans m_10))))))))).from k0.le) bx_3 o_3 i_2_1 ((r_13_0.tame (m_9.trans m_10)).from ((((KeepB.keep (KeepB.keep ((k0.trans k_1).trans k_2) k_3 o_3) k_4 o_3).trans k_5).trans k_6).trans k_7).le) bx_11 o_11 i_13_1 (Nat.ne_of_lt ((m_3.trans (m_4.trans m_5)).lt lt_3)) (tb.tame (m_1.trans (m_2.trans (m_3.trans (m_4.trans (m_5.trans (m_6.trans (m_7.trans (m_8.trans (m_9.trans m_10)))))))))) g
  refine boxV fun h_5 bx_14 k_5 => ?_
  have o_14 := (KeepB.keep (KeepB.keep ((k0.trans k_1).trans k_2) k_3 o_3) k_4 o_3).le
  have lt_14 := bx_14.lt
  have m_5 := k_5.tame
  refine ⟨k_5.preLe (Nat.le_refl _), ?_⟩
  refine hc_intro (gnomonlaw04_twin.hs (r1_2.tame (m_1.trans (m_2.trans (m_3.trans (m_4.trans m_5))))) rfl) fun v h_6 ⟨k_6, s⟩ => ?_
  obtain ⟨a_15, c_15, rfl, r_15⟩ := s
  refine gAgg_intro rfl (uncons_intro (gBool_intro rfl (uncons_intro (gSlice_intro rfl (unnil_intro (?_))))))
  have m_6 := k_6.tame
  refine ⟨k_6.preLe (m_5).le, ?_⟩
  refine hc_intro (gnomonlaw04_twin.hs (r1_4.tame (m_1.trans (m_2.trans (m_3.trans (m_4.trans (m_5.trans m_6)))))) rfl) fun v h_7 ⟨k_7, s⟩ => ?_
  obtain ⟨a_16, c_16, rfl, r_16⟩ := s
  refine gAgg_intro rfl (uncons_intro (gBool_intro rfl (uncons_intro (gSlice_intro rfl (unnil_intro (?_))))))
  have m_7 := k_7.tame
  refine ⟨k_7.preLe (m_5.trans m_6).le, ?_⟩
  refine hc_intro (gnomonlaw04_number.hv i1_0 (by first | assumption | decide | omega) (by first | assumption | decide | omega) (r_15.tame (m_7)).rd64 rfl r_16.rd64 rfl i1_5 (tb.tame (m_1.trans (m_2.trans (m_3.trans (m_4.trans (m_5.trans (m_6.trans m_7)))))))) fun v h_8 ⟨k_8, s⟩ => ?_
  obtain ⟨p_17, hp_17⟩ : ∃ p, p = gnomonlaw04_number.v x1_0 (((b1_1, xs1_2)).1) (((b1_1, xs1_2)).2) (((b1_3, xs1_4)).1) (((b1_3, xs1_4)).2) x1_5 := ⟨_, rfl⟩
  rw [← hp_17] at s
  replace g := lift_let2 hp_17 g
  obtain ⟨_, _, rfl, ⟨a_17_0, c_17_0, rfl, r_17_0⟩, ⟨rfl, i_17_1⟩⟩ := s
  refine gTup_intro rfl (uncons_intro (gAgg_intro rfl (uncons_intro (gBool_intro rfl (uncons_intro (gSlice_intro rfl (unnil_intro (uncons_intro (gInt_intro rfl (unnil_intro (?_)))))))))))
  have m_8 := k_8.tame
  refine ⟨k_8.preLe (m_5.trans (m_6.trans m_7)).le, ?_⟩
  have bx_14 := (((bx_14.keep k_6).keep k_7).keep k_8)
  refine stA bx_14 (base_add _ _) rfl fun h_9 bx_14 k_9 m_9 => ?_
  refine stA bx_14 (base_add _ _) rfl fun h_10 bx_14 k_10 m_10 => ?_
  have bx_3 := ((((((bx_3.keep k_5).keep k_6).keep k_7).keep k_8).keepB (Nat.ne_of_lt ((m_3.trans m_4).lt lt_3)) k_9).keepB (Nat.ne_of_lt ((m_3.trans m_4).lt lt_3)) k_10)
  exact D3.hv (KeepB.keep (KeepB.keep (((((KeepB.keep (KeepB.keep ((k0.trans k_1).trans k_2) k_3 o_3) k_4 o_3).trans k_5).trans k_6).trans k_7).trans k_8) k_9 o_14) k_10 o_14) ((r_2_0.tame (m_2.trans (m_3.trans (m_4.trans (m_5.trans (m_6.trans (m_7.trans (m_8.trans (m_9.trans m_10))))))))).from k0.le) bx_3 o_3 i_2_1 ((r_17_0.tame (m_9.trans m_10)).from ((((KeepB.keep (KeepB.keep ((k0.trans k_1).trans k_2) k_3 o_3) k_4 o_3).trans k_5).trans k_6).trans k_7).le) bx_14 o_14 i_17_1 (Nat.ne_of_lt ((m_3.trans m_4).lt lt_3)) (tb.tame (m_1.trans (m_2.trans (m_3.trans (m_4.trans (m_5.trans (m_6.trans (m_7.trans (m_8.trans (m_9.trans m_10)))))))))) g
def D1.v (x0_0 : Int) (b0_1_0 : Bool) (xs0_1_1 : List Nat) (b0_2_0 : Bool) (xs0_2_1 : List Nat) (x0_3 : Int) : Bool :=
  D2.v x0_0 b0_1_0 xs0_1_1 b0_2_0 xs0_2_1 x0_3
theorem D1.hv {R : Rt} {h0 h : Hp} (k0 : Keep h0 h) {x0_0 : Int} (i0_0 : In .i64 x0_0) (rl0_0 : 10 ≤ x0_0) (rh0_0 : x0_0 ≤ 13) {b0_1_0 : Bool} {a0_1_1 : Option Addr} {c0_1_1 l0_1_1 : Nat} {xs0_1_1 : List Nat} (r0_1_1 : Rd h a0_1_1 c0_1_1 xs0_1_1) (e0_1_1 : l0_1_1 = xs0_1_1.length) {b0_2_0 : Bool} {a0_2_1 : Option Addr} {c0_2_1 l0_2_1 : Nat} {xs0_2_1 : List Nat} (r0_2_1 : Rd h a0_2_1 c0_2_1 xs0_2_1) (e0_2_1 : l0_2_1 = xs0_2_1.length) {x0_3 : Int} (i0_3 : In .i64 x0_3) (tb : Tab h) (g : Post sBool h0 R (D1.v x0_0 b0_1_0 xs0_1_1 b0_2_0 xs0_2_1 x0_3)) : D1.t R x0_0 b0_1_0 a0_1_1 l0_1_1 c0_1_1 b0_2_0 a0_2_1 l0_2_1 c0_2_1 x0_3 h := by
  subst e0_1_1 e0_2_1
  unfold D1.v at g
  unfold D1.t
  refine boxV fun h_1 bx_1 k_1 => ?_
  have o_1 := k0.le
  have lt_1 := bx_1.lt
  have m_1 := k_1.tame
  refine ldA bx_1 (base_add _ _) rfl (gInt_intro rfl ?_)
  refine c_eq (fun q => absurd q (by omega)) fun _ => ?_
  refine c_eq (fun q => absurd q (by omega)) fun _ => ?_
  refine c_eq (fun q => absurd q (by omega)) fun _ => ?_
  refine c_eq (fun q => absurd q (by omega)) fun _ => ?_
  refine ldA bx_1 (base_add _ _) rfl (gInt_intro rfl ?_)
  refine c_dec (fun q => absurd q (by omega)) fun _ => ?_
  refine ldA bx_1 (base_add _ _) rfl (gInt_intro rfl ?_)
  refine c_dec (fun q => absurd q (by omega)) fun _ => ?_
  exact D2.hv (k0.trans k_1) i0_0 (by first | assumption | decide | omega) (by first | assumption | decide | omega) (r0_1_1.tame (m_1)) (r0_2_1.tame (m_1)) i0_3 bx_1 o_1 (by first | assumption | decide | omega) (by first | assumption | decide | omega) (tb.tame (m_1)) g
def v (x0_0 : Int) (b0_1_0 : Bool) (xs0_1_1 : List Nat) (b0_2_0 : Bool) (xs0_2_1 : List Nat) (x0_3 : Int) : Bool := D1.v x0_0 b0_1_0 xs0_1_1 b0_2_0 xs0_2_1 x0_3
theorem hv {h : Hp} {x0_0 : Int} (i0_0 : In .i64 x0_0) (rl0_0 : 10 ≤ x0_0) (rh0_0 : x0_0 ≤ 13) {b0_1_0 : Bool} {a0_1_1 : Option Addr} {c0_1_1 l0_1_1 : Nat} {xs0_1_1 : List Nat} (r0_1_1 : Rd h a0_1_1 c0_1_1 xs0_1_1) (e0_1_1 : l0_1_1 = xs0_1_1.length) {b0_2_0 : Bool} {a0_2_1 : Option Addr} {c0_2_1 l0_2_1 : Nat} {xs0_2_1 : List Nat} (r0_2_1 : Rd h a0_2_1 c0_2_1 xs0_2_1) (e0_2_1 : l0_2_1 = xs0_2_1.length) {x0_3 : Int} (i0_3 : In .i64 x0_3) (tb : Tab h) : HC id #[.agg #[.int .i64 x0_0, .bool b0_1_0, .slice a0_1_1 l0_1_1 c0_1_1, .bool b0_2_0, .slice a0_2_1 l0_2_1 c0_2_1, .int .i64 x0_3]] h fun v_ h_ => Keep h h_ ∧ sBool h h_ v_ (v x0_0 b0_1_0 xs0_1_1 b0_2_0 xs0_2_1 x0_3) :=
  ok (D1.hv (Keep.refl _) i0_0 rl0_0 rh0_0 r0_1_1 e0_1_1 r0_2_1 e0_2_1 i0_3 tb fun v h' k s => ⟨k, s⟩)
end gnomonlaw04_plays

end Go.Proofs.YtanlcacaihdceaaGreatDoor.G

/- A script of calls of layer 4: what it reads as. -/
namespace Go.Proofs.YtanlcacaihdceaaGreatDoor.G
open Go.Gv
set_option linter.unusedVariables false
set_option maxRecDepth 100000
abbrev I4 := Bool × List Nat × Unit
abbrev Op4 := Int × (I4 × (I4 × (Int × Unit)))
abbrev saysOp4 : Says Op4 := saysCons (saysInt .i64) 1 (saysCons saysInt4 2 (saysCons saysInt4 2 (saysCons (saysInt .i64) 1 saysEnd)))
abbrev RdOps4 (h : Hp) (a : Option Addr) (c : Nat) (os : List Op4) : Prop := RdList saysOp4 6 1759218604390 h a c os
theorem saysBool_lasts : Lasts saysBool := fun _ _ _ _ z _ => z
theorem saysInt4_lasts : Lasts saysInt4 := saysCons_lasts saysBool_lasts (saysCons_lasts saysWords_lasts saysEnd_lasts 1) 1
theorem saysOp4_lasts : Lasts saysOp4 := saysCons_lasts (saysInt_lasts _) (saysCons_lasts saysInt4_lasts (saysCons_lasts saysInt4_lasts (saysCons_lasts (saysInt_lasts _) saysEnd_lasts 1) 2) 2) 1
theorem RdOps4.keep {h h' : Hp} {a : Option Addr} {c : Nat} {os : List Op4} (r : RdOps4 h a c os) (k : Keep h h') : RdOps4 h' a c os := RdList.keep saysOp4_lasts r k
theorem says_twoZ {α β : Type} {S : Says α} {T : Says β} {h : Hp} {cs : List Value} {p : α × β} (z : saysCons S 2 T h cs p) : ∃ c d rest, cs = c :: d :: rest ∧ S h [c, d] p.1 ∧ T h rest p.2 := by
  obtain ⟨l, s, t⟩ := z
  match cs with
  | [] => simp at l
  | [_] => simp at l
  | c :: d :: r => exact ⟨c, d, r, rfl, s, t⟩
theorem int4_list {h : Hp} {v w : Value} {x : I4} (z : saysInt4 h [v, w] x) : ∃ a c, v = .bool x.1 ∧ w = .slice a x.2.1.length c ∧ Rd h a c x.2.1 := by
  obtain ⟨a, c, e, r⟩ := int4_open (cs := #[v, w]) z
  have e := congrArg Array.toList e
  simp only [List.cons.injEq, and_true] at e
  exact ⟨a, c, e.1, e.2, r⟩
/-- What one call of a script reads as. -/
theorem op4_open {h : Hp} {q : Addr} {vs : List Value} {o : Op4} (rl : RdL h q 0 vs) (s : saysOp4 h vs o) :
    ∃ a c b d, cellH h (q.add 0) = some (.int .i64 o.1) ∧ cellH h (q.add 1) = some (.bool o.2.1.1) ∧ cellH h (q.add 2) = some (.slice a o.2.1.2.1.length c) ∧ cellH h (q.add 3) = some (.bool o.2.2.1.1) ∧ cellH h (q.add 4) = some (.slice b o.2.2.1.2.1.length d) ∧ cellH h (q.add 5) = some (.int .i64 o.2.2.2.1) ∧
      In .i64 o.1 ∧ Rd h a c o.2.1.2.1 ∧ Rd h b d o.2.2.1.2.1 ∧ In .i64 o.2.2.2.1 := by
  obtain ⟨v0, t0, e0, ⟨f0, w0⟩, s⟩ := says_oneZ s
  obtain ⟨v1, v2, t1, e1, z1, s⟩ := says_twoZ s
  obtain ⟨v3, v4, t2, e2, z2, s⟩ := says_twoZ s
  obtain ⟨v5, t3, e3, ⟨f5, w5⟩, s⟩ := says_oneZ s
  have s : t3 = [] := s
  obtain ⟨a, c, g1, g2, r1⟩ := int4_list z1
  obtain ⟨b, d, g3, g4, r2⟩ := int4_list z2
  simp only [List.cons.injEq, and_true] at f0 f5
  subst s e3 e2 e1 e0 f0 f5 g1 g2 g3 g4
  exact ⟨a, c, b, d, rl.1, rl.2.1, rl.2.2.1, rl.2.2.2.1, rl.2.2.2.2.1, rl.2.2.2.2.2.1, in_wf w0, r1, r2, in_wf w5⟩
end Go.Proofs.YtanlcacaihdceaaGreatDoor.G

/- The law NumShifts of the translation answers true. -/
namespace Go.Proofs.YtanlcacaihdceaaGreatDoor.G
open Go.Gv
set_option linter.unusedVariables false
set_option maxRecDepth 100000
theorem plays4_true {k : Int} (h1 : 10 ≤ k) (h2 : k ≤ 13) (b : Bool) (xs : List Nat) (c : Bool) (ys : List Nat) (n : Int) : gnomonlaw04_plays.v k b xs c ys n = true := by
  have d2 : ∀ {k : Int}, 10 ≤ k → k ≤ 13 → gnomonlaw04_plays.D2.v k b xs c ys n = true := by
    intro k h1 h2
    unfold gnomonlaw04_plays.D2.v gnomonlaw04_plays.D3.v
    simp only [letV, doc_number h1 h2]
    exact told4_same _ _
  unfold gnomonlaw04_plays.v gnomonlaw04_plays.D1.v
  exact d2 h1 h2
theorem all4_walk {R : Rt} {a : Option Addr} {c : Nat} {os : List Op4} {h0 : Hp} (r : RdOps4 h0 a c os) (tb : Tab h0) (post : ∀ h', Keep h0 h' → R (.bool true) h') :
    ∀ (k i : Nat) (h : Hp), i + k = os.length → Keep h0 h → gnomonlaw04_all.L4.t R (k + 1) 10 13 a os.length c (os.length : Int) (i : Int) h := by
  have h1 : os.length ≤ 1759218604390 := r.len
  intro k
  induction k with
  | zero =>
    intro i h hik kp
    unfold gnomonlaw04_all.L4.t gnomonlaw04_all.D5.t
    refine c_dec (fun hb => absurd hb (by omega)) fun _ => ?_
    unfold gnomonlaw04_all.D2.t
    exact post _ kp
  | succ k ih =>
    intro i h hik kp
    unfold gnomonlaw04_all.L4.t gnomonlaw04_all.D5.t
    refine c_dec (fun _ => ?_) fun hb => absurd (by omega) hb
    obtain ⟨o, ho⟩ : ∃ o, os[i]? = some o := ⟨os[i]'(by omega), by simp⟩
    refine at_list (r.keep kp) rfl rfl ho fun q vs hvs rl s => ?_
    obtain ⟨a1, c1, b1, d1, e0, e1, e2, e3, e4, e5, i0, r1, r2, i5⟩ := op4_open rl s
    refine ldC e0 ?_
    refine gInt_intro rfl ?_
    refine ldC e1 ?_
    refine gBool_intro rfl ?_
    refine ldC e2 ?_
    refine gSlice_intro rfl ?_
    refine ldC e3 ?_
    refine gBool_intro rfl ?_
    refine ldC e4 ?_
    refine gSlice_intro rfl ?_
    refine ldC e5 ?_
    refine gInt_intro rfl ?_
    refine boxV fun h2 o2 k2 => ?_
    refine stV o2 (Nat.le_of_ble_eq_true rfl) fun h3 o3 k3 => ?_
    refine stV o3 (Nat.le_of_ble_eq_true rfl) fun h4 o4 k4 => ?_
    refine stV o4 (Nat.le_of_ble_eq_true rfl) fun h5 o5 k5 => ?_
    refine stV o5 (Nat.le_of_ble_eq_true rfl) fun h6 o6 k6 => ?_
    refine stV o6 (Nat.le_of_ble_eq_true rfl) fun h7 o7 k7 => ?_
    refine stV o7 (Nat.le_of_ble_eq_true rfl) fun h8 o8 k8 => ?_
    have kh : Keep h h8 := (k3.trans (k4.trans (k5.trans (k6.trans (k7.trans k8))))).keep k2 (Nat.le_refl _)
    have k07 := kp.trans kh
    have next : ∀ h', Keep h0 h' → letK (IntKind.i64.wrap ((i : Int) + 1)) fun n36 => gnomonlaw04_all.L4.t R (k + 1) 10 13 a os.length c (os.length : Int) n36 h' := by
      intro h' k'
      refine k_i64 ((i + 1 : Nat) : Int) (by omega) (by omega) (by omega) ?_
      exact ih (i + 1) h' (by omega) k'
    refine ldV o8 rfl ?_
    refine gInt_intro rfl ?_
    refine c_dec (fun hlo => ?_) fun _ => next _ k07
    refine ldV o8 rfl ?_
    refine gInt_intro rfl ?_
    refine c_dec (fun hhi => ?_) fun _ => next _ k07
    refine ldV o8 rfl ?_
    refine gInt_intro rfl ?_
    refine ldV o8 rfl ?_
    refine gBool_intro rfl ?_
    refine ldV o8 rfl ?_
    refine gSlice_intro rfl ?_
    refine ldV o8 rfl ?_
    refine gBool_intro rfl ?_
    refine ldV o8 rfl ?_
    refine gSlice_intro rfl ?_
    refine ldV o8 rfl ?_
    refine gInt_intro rfl ?_
    refine hc_intro (gnomonlaw04_plays.hv i0 (by omega) (by omega) (r1.keep kh) rfl (r2.keep kh) rfl i5 (tb.keep k07)) fun v h9 ⟨k9, e9⟩ => ?_
    rw [plays4_true (by omega) (by omega)] at e9
    have e9 : v = .bool true := e9
    subst e9
    refine gBool_intro rfl ?_
    refine c_not (fun hh => absurd hh (by simp)) fun _ => ?_
    exact next _ (k07.trans k9)
theorem gnomonlaw04_all.hv {h : Hp} {a : Option Addr} {c l : Nat} {os : List Op4} (r : RdOps4 h a c os) (e : l = os.length) (tb : Tab h) :
    HC gnomonlaw04_all.id #[.slice a l c, .int .i64 10, .int .i64 13] h fun v h' => Keep h h' ∧ sBool h h' v true := by
  subst e
  refine gnomonlaw04_all.ok ?_
  unfold gnomonlaw04_all.t gnomonlaw04_all.D1.t gnomonlaw04_all.D3.t
  refine ⟨os.length + 1, ?_⟩
  exact all4_walk r tb (fun h' k => ⟨k, rfl⟩) os.length 0 h (by omega) (Keep.refl _)
section
variable {h : Hp} {a : Option Addr} {c l : Nat} {os : List Op4}
theorem NumShifts_law (r : RdOps4 h a c os) (e : l = os.length) (tb : Tab h) : HC gnomonlaw04_NumShifts.id #[.slice a l c] h fun v h' => Keep h h' ∧ v = .bool true := by
  refine gnomonlaw04_NumShifts.ok ?_
  unfold gnomonlaw04_NumShifts.t gnomonlaw04_NumShifts.D1.t
  refine hc_intro (halves_hs tb) fun v h' ⟨k, s⟩ => ?_
  have s : v = .bool true := s
  subst s
  refine gBool_intro rfl ?_
  refine c_bool (fun _ => ?_) fun hh => absurd hh (by decide)
  refine hc_intro (gnomonlaw04_all.hv (r.keep k) e (tb.keep k)) fun v h2 ⟨k2, s⟩ => ?_
  have s : v = .bool true := s
  subst s
  exact gBool_intro rfl ⟨k.trans k2, rfl⟩
end
end Go.Proofs.YtanlcacaihdceaaGreatDoor.G
