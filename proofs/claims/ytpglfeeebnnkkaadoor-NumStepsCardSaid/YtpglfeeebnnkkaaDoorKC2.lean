/- Texts of this work, joined: ZLNumSteps, ZLawC, ZLawT. -/
import Derived.Test.YtpglfeeebnnkkaaDoorKB
import Derived.Test.YtpglfeeebnnkkaaDoorKC0
import Derived.Test.YtpglfeeebnnkkaaDoorKC1
/- Functions without loops as functions of values. Written by a program of this work. -/
namespace Go.Proofs.YtpglfeeebnnkkaaDoor.G
open Go.Gv
set_option linter.unusedVariables false
set_option maxRecDepth 100000
namespace gnomonlaw04_NumSteps
def D6.v (x1 : Int) (x2 : Int) (b7_0 : Bool) (xs7_1 : List Nat) : Bool :=
  letV (shrZ flo (b7_0, xs7_1) x1) fun p_49 =>
  letV (shrZ flo (p_49.1.1, p_49.1.2) x2) fun p_51 =>
  letV (shrZ flo (b7_0, xs7_1) ((IntKind.i64.wrap (x1 + x2)))) fun p_53 =>
  bif (p_49.2 == (0 : Int)) then
    bif (p_51.2 == (0 : Int)) then
      bif (p_53.2 == (0 : Int)) then
        (decide ((p_51.1.1, p_51.1.2) = (p_53.1.1, p_53.1.2)))
      else
        false
    else
      false
  else
    false
theorem D6.hv {R : Rt} {h0 h : Hp} (k0 : Keep h0 h) {x1 : Int} (i1 : In .i64 x1) {x2 : Int} (i2 : In .i64 x2) {b7_0 : Bool} {a7_1 : Option Addr} {c7_1 : Nat} {xs7_1 : List Nat} (r7_1 : GotE eU64 h0 h a7_1 c7_1 xs7_1) {B7 : Nat} (bx7 : BlkV h B7 [.bool b7_0, .slice a7_1 xs7_1.length c7_1]) (o7 : h0.size ≤ B7) (tb : Tab h) (g : Post sBool h0 R (D6.v x1 x2 b7_0 xs7_1)) : D6.t R x1 x2 (⟨B7, 0, none⟩ : Addr) h := by
  have kh := Keep.refl h
  have lt7 := bx7.lt
  unfold D6.v at g
  unfold D6.t
  refine ldA bx7 (base_add _ _) rfl ?_
  refine gBool_intro rfl ?_
  refine ldA bx7 (base_add _ _) rfl ?_
  refine gSlice_intro rfl ?_
  refine hc_intro (num_FloorShr.hs r7_1.rd64 rfl i1 tb) fun v h_1 ⟨k_1, s⟩ => ?_
  obtain ⟨p_49, hp_49⟩ : ∃ p, p = shrZ flo (b7_0, xs7_1) x1 := ⟨_, rfl⟩
  rw [← hp_49] at s
  replace g := lift_let2 hp_49 g
  obtain ⟨_, _, rfl, ⟨a_49_0, c_49_0, rfl, r_49_0⟩, ⟨rfl, i_49_1⟩⟩ := s
  refine gTup_intro rfl (uncons_intro (gAgg_intro rfl (uncons_intro (gBool_intro rfl (uncons_intro (gSlice_intro rfl (unnil_intro (uncons_intro (gInt_intro rfl (unnil_intro (?_)))))))))))
  have r_49_0 := r_49_0.from k0.le
  have m_1 := k_1.tame
  have bx7 := bx7.keep k_1
  have k0 := k0.trans k_1
  have kh := kh.trans k_1
  refine boxV fun h_2 bx_50 k_2 => ?_
  have d7q_50 : B7 ≠ h_1.size := Nat.ne_of_lt bx7.lt
  have o_50 : h0.size ≤ h_1.size := k0.le
  have oh_50 : h.size ≤ h_1.size := kh.le
  have lt_50 := bx_50.lt
  have m_2 := k_2.tame
  have bx7 := bx7.keep k_2
  have k0 := k0.trans k_2
  have kh := kh.trans k_2
  refine stA bx_50 (base_add _ _) rfl fun h_3 bx_50 k_3 m_3 => ?_
  have bx7 := bx7.keepB d7q_50 k_3
  have k0 := KeepB.keep k0 k_3 o_50
  have kh := KeepB.keep kh k_3 oh_50
  refine stA bx_50 (base_add _ _) rfl fun h_4 bx_50 k_4 m_4 => ?_
  have bx7 := bx7.keepB d7q_50 k_4
  have k0 := KeepB.keep k0 k_4 o_50
  have kh := KeepB.keep kh k_4 oh_50
  refine ldA bx_50 (base_add _ _) rfl ?_
  refine gBool_intro rfl ?_
  refine ldA bx_50 (base_add _ _) rfl ?_
  refine gSlice_intro rfl ?_
  refine hc_intro (num_FloorShr.hs (r_49_0.tame (m_2.trans (m_3.trans m_4))).rd64 rfl i2 (tb.tame (m_1.trans (m_2.trans (m_3.trans m_4))))) fun v h_5 ⟨k_5, s⟩ => ?_
  obtain ⟨p_51, hp_51⟩ : ∃ p, p = shrZ flo (p_49.1.1, p_49.1.2) x2 := ⟨_, rfl⟩
  rw [← hp_51] at s
  replace g := lift_let2 hp_51 g
  obtain ⟨_, _, rfl, ⟨a_51_0, c_51_0, rfl, r_51_0⟩, ⟨rfl, i_51_1⟩⟩ := s
  refine gTup_intro rfl (uncons_intro (gAgg_intro rfl (uncons_intro (gBool_intro rfl (uncons_intro (gSlice_intro rfl (unnil_intro (uncons_intro (gInt_intro rfl (unnil_intro (?_)))))))))))
  have r_51_0 := r_51_0.from k0.le
  have m_5 := k_5.tame
  have bx7 := bx7.keep k_5
  have bx_50 := bx_50.keep k_5
  have k0 := k0.trans k_5
  have kh := kh.trans k_5
  refine boxV fun h_6 bx_52 k_6 => ?_
  have d7q_52 : B7 ≠ h_5.size := Nat.ne_of_lt bx7.lt
  have d_50q_52 : h_1.size ≠ h_5.size := Nat.ne_of_lt bx_50.lt
  have o_52 : h0.size ≤ h_5.size := k0.le
  have oh_52 : h.size ≤ h_5.size := kh.le
  have lt_52 := bx_52.lt
  have m_6 := k_6.tame
  have bx7 := bx7.keep k_6
  have bx_50 := bx_50.keep k_6
  have k0 := k0.trans k_6
  have kh := kh.trans k_6
  refine stA bx_52 (base_add _ _) rfl fun h_7 bx_52 k_7 m_7 => ?_
  have bx7 := bx7.keepB d7q_52 k_7
  have bx_50 := bx_50.keepB d_50q_52 k_7
  have k0 := KeepB.keep k0 k_7 o_52
  have kh := KeepB.keep kh k_7 oh_52
  refine stA bx_52 (base_add _ _) rfl fun h_8 bx_52 k_8 m_8 => ?_
  have bx7 := bx7.keepB d7q_52 k_8
  have bx_50 := bx_50.keepB d_50q_52 k_8
  have k0 := KeepB.keep k0 k_8 o_52
  have kh := KeepB.keep kh k_8 oh_52
  refine ldA bx7 (base_add _ _) rfl ?_
  refine gBool_intro rfl ?_
  refine ldA bx7 (base_add _ _) rfl ?_
  refine gSlice_intro rfl ?_
  refine letK_out ?_
  refine hc_intro (num_FloorShr.hs (r7_1.tame (m_1.trans (m_2.trans (m_3.trans (m_4.trans (m_5.trans (m_6.trans (m_7.trans m_8)))))))).rd64 rfl (in_wrap _ _) (tb.tame (m_1.trans (m_2.trans (m_3.trans (m_4.trans (m_5.trans (m_6.trans (m_7.trans m_8))))))))) fun v h_9 ⟨k_9, s⟩ => ?_
  obtain ⟨p_53, hp_53⟩ : ∃ p, p = shrZ flo (b7_0, xs7_1) ((IntKind.i64.wrap (x1 + x2))) := ⟨_, rfl⟩
  rw [← hp_53] at s
  replace g := lift_let2 hp_53 g
  obtain ⟨_, _, rfl, ⟨a_53_0, c_53_0, rfl, r_53_0⟩, ⟨rfl, i_53_1⟩⟩ := s
  refine gTup_intro rfl (uncons_intro (gAgg_intro rfl (uncons_intro (gBool_intro rfl (uncons_intro (gSlice_intro rfl (unnil_intro (uncons_intro (gInt_intro rfl (unnil_intro (?_)))))))))))
  have r_53_0 := r_53_0.from k0.le
  have m_9 := k_9.tame
  have bx7 := bx7.keep k_9
  have bx_50 := bx_50.keep k_9
  have bx_52 := bx_52.keep k_9
  have k0 := k0.trans k_9
  have kh := kh.trans k_9
  refine boxV fun h_10 bx_54 k_10 => ?_
  have d7q_54 : B7 ≠ h_9.size := Nat.ne_of_lt bx7.lt
  have d_50q_54 : h_1.size ≠ h_9.size := Nat.ne_of_lt bx_50.lt
  have d_52q_54 : h_5.size ≠ h_9.size := Nat.ne_of_lt bx_52.lt
  have o_54 : h0.size ≤ h_9.size := k0.le
  have oh_54 : h.size ≤ h_9.size := kh.le
  have lt_54 := bx_54.lt
  have m_10 := k_10.tame
  have bx7 := bx7.keep k_10
  have bx_50 := bx_50.keep k_10
  have bx_52 := bx_52.keep k_10
  have k0 := k0.trans k_10
  have kh := kh.trans k_10
  refine stA bx_54 (base_add _ _) rfl fun h_11 bx_54 k_11 m_11 => ?_
  have bx7 := bx7.keepB d7q_54 k_11
  have bx_50 := bx_50.keepB d_50q_54 k_11
  have bx_52 := bx_52.keepB d_52q_54 k_11
  have k0 := KeepB.keep k0 k_11 o_54
  have kh := KeepB.keep kh k_11 oh_54
  refine stA bx_54 (base_add _ _) rfl fun h_12 bx_54 k_12 m_12 => ?_
  have bx7 := bx7.keepB d7q_54 k_12
  have bx_50 := bx_50.keepB d_50q_54 k_12
  have bx_52 := bx_52.keepB d_52q_54 k_12
  have k0 := KeepB.keep k0 k_12 o_54
  have kh := KeepB.keep kh k_12 oh_54
  refine lift_eq g (fun q_55 g => ?_) (fun q_55 g => ?_)
  · refine lift_eq g (fun q_56 g => ?_) (fun q_56 g => ?_)
    · refine lift_eq g (fun q_57 g => ?_) (fun q_57 g => ?_)
      · refine ldA bx_52 (base_add _ _) rfl ?_
        refine gBool_intro rfl ?_
        refine ldA bx_52 (base_add _ _) rfl ?_
        refine gSlice_intro rfl ?_
        refine ldA bx_54 (base_add _ _) rfl ?_
        refine gBool_intro rfl ?_
        refine ldA bx_54 (base_add _ _) rfl ?_
        refine gSlice_intro rfl ?_
        refine hc_intro (gnomonlaw04_same.hs (r_51_0.tame (m_6.trans (m_7.trans (m_8.trans (m_9.trans (m_10.trans (m_11.trans m_12))))))).rd64 rfl (r_53_0.tame (m_10.trans (m_11.trans m_12))).rd64 rfl) fun v h_13 ⟨k_13, s⟩ => ?_
        obtain rfl := s
        refine gBool_intro rfl (?_)
        have m_13 := k_13.tame
        have bx7 := bx7.keep k_13
        have bx_50 := bx_50.keep k_13
        have bx_52 := bx_52.keep k_13
        have bx_54 := bx_54.keep k_13
        have k0 := k0.trans k_13
        have kh := kh.trans k_13
        exact g _ _ k0 rfl
      · exact g _ _ k0 rfl
    · exact g _ _ k0 rfl
  · exact g _ _ k0 rfl
def D5.v (x1 : Int) (x2 : Int) (b7_0 : Bool) (xs7_1 : List Nat) : Bool :=
  bif (decide (x1 ≥ (4611686018427387904 : Int))) then
    true
  else
    bif (decide (x2 ≥ (4611686018427387904 : Int))) then
      true
    else
      D6.v x1 x2 b7_0 xs7_1
theorem D5.hv {R : Rt} {h0 h : Hp} (k0 : Keep h0 h) {x1 : Int} (i1 : In .i64 x1) {x2 : Int} (i2 : In .i64 x2) {b7_0 : Bool} {a7_1 : Option Addr} {c7_1 : Nat} {xs7_1 : List Nat} (r7_1 : GotE eU64 h0 h a7_1 c7_1 xs7_1) {B7 : Nat} (bx7 : BlkV h B7 [.bool b7_0, .slice a7_1 xs7_1.length c7_1]) (o7 : h0.size ≤ B7) (tb : Tab h) (g : Post sBool h0 R (D5.v x1 x2 b7_0 xs7_1)) : D5.t R x1 x2 (⟨B7, 0, none⟩ : Addr) h := by
  have kh := Keep.refl h
  have lt7 := bx7.lt
  unfold D5.v at g
  unfold D5.t
  refine lift_dec g (fun q_47 g => ?_) (fun q_47 g => ?_)
  · exact g _ _ k0 rfl
  · refine lift_dec g (fun q_48 g => ?_) (fun q_48 g => ?_)
    · exact g _ _ k0 rfl
    · exact D6.hv k0 i1 i2 r7_1 bx7 o7 tb g
def D4.v (x1 : Int) (x2 : Int) (b7_0 : Bool) (xs7_1 : List Nat) : Bool :=
  letV (shlZ (b7_0, xs7_1) x2) fun p_39 =>
  bif (p_39.2 == (0 : Int)) then
    letV (shrZ nea (p_39.1.1, p_39.1.2) x2) fun p_42 =>
    bif (p_42.2 != (0 : Int)) then
      false
    else
      bif (!(decide ((p_42.1.1, p_42.1.2) = (b7_0, xs7_1)))) then
        false
      else
        D5.v x1 x2 b7_0 xs7_1
  else
    D5.v x1 x2 b7_0 xs7_1
theorem D4.hv {R : Rt} {h0 h : Hp} (k0 : Keep h0 h) {x1 : Int} (i1 : In .i64 x1) {x2 : Int} (i2 : In .i64 x2) {b7_0 : Bool} {a7_1 : Option Addr} {c7_1 : Nat} {xs7_1 : List Nat} (r7_1 : GotE eU64 h0 h a7_1 c7_1 xs7_1) {B7 : Nat} (bx7 : BlkV h B7 [.bool b7_0, .slice a7_1 xs7_1.length c7_1]) (o7 : h0.size ≤ B7) (tb : Tab h) (g : Post sBool h0 R (D4.v x1 x2 b7_0 xs7_1)) : D4.t R x1 x2 (⟨B7, 0, none⟩ : Addr) h := by
  have kh := Keep.refl h
  have lt7 := bx7.lt
  unfold D4.v at g
  unfold D4.t
  refine ldA bx7 (base_add _ _) rfl ?_
  refine gBool_intro rfl ?_
  refine ldA bx7 (base_add _ _) rfl ?_
  refine gSlice_intro rfl ?_
  refine hc_intro (num_Shl.hs r7_1.rd64 rfl i2) fun v h_1 ⟨k_1, s⟩ => ?_
  obtain ⟨p_39, hp_39⟩ : ∃ p, p = shlZ (b7_0, xs7_1) x2 := ⟨_, rfl⟩
  rw [← hp_39] at s
  replace g := lift_let2 hp_39 g
  obtain ⟨_, _, rfl, ⟨a_39_0, c_39_0, rfl, r_39_0⟩, ⟨rfl, i_39_1⟩⟩ := s
  refine gTup_intro rfl (uncons_intro (gAgg_intro rfl (uncons_intro (gBool_intro rfl (uncons_intro (gSlice_intro rfl (unnil_intro (uncons_intro (gInt_intro rfl (unnil_intro (?_)))))))))))
  have r_39_0 := r_39_0.from k0.le
  have m_1 := k_1.tame
  have bx7 := bx7.keep k_1
  have k0 := k0.trans k_1
  have kh := kh.trans k_1
  refine boxV fun h_2 bx_40 k_2 => ?_
  have d7q_40 : B7 ≠ h_1.size := Nat.ne_of_lt bx7.lt
  have o_40 : h0.size ≤ h_1.size := k0.le
  have oh_40 : h.size ≤ h_1.size := kh.le
  have lt_40 := bx_40.lt
  have m_2 := k_2.tame
  have bx7 := bx7.keep k_2
  have k0 := k0.trans k_2
  have kh := kh.trans k_2
  refine stA bx_40 (base_add _ _) rfl fun h_3 bx_40 k_3 m_3 => ?_
  have bx7 := bx7.keepB d7q_40 k_3
  have k0 := KeepB.keep k0 k_3 o_40
  have kh := KeepB.keep kh k_3 oh_40
  refine stA bx_40 (base_add _ _) rfl fun h_4 bx_40 k_4 m_4 => ?_
  have bx7 := bx7.keepB d7q_40 k_4
  have k0 := KeepB.keep k0 k_4 o_40
  have kh := KeepB.keep kh k_4 oh_40
  refine lift_eq g (fun q_41 g => ?_) (fun q_41 g => ?_)
  · refine ldA bx_40 (base_add _ _) rfl ?_
    refine gBool_intro rfl ?_
    refine ldA bx_40 (base_add _ _) rfl ?_
    refine gSlice_intro rfl ?_
    refine hc_intro (num_NearShr.hs (r_39_0.tame (m_2.trans (m_3.trans m_4))).rd64 rfl i2 (tb.tame (m_1.trans (m_2.trans (m_3.trans m_4))))) fun v h_5 ⟨k_5, s⟩ => ?_
    obtain ⟨p_42, hp_42⟩ : ∃ p, p = shrZ nea (p_39.1.1, p_39.1.2) x2 := ⟨_, rfl⟩
    rw [← hp_42] at s
    replace g := lift_let2 hp_42 g
    obtain ⟨_, _, rfl, ⟨a_42_0, c_42_0, rfl, r_42_0⟩, ⟨rfl, i_42_1⟩⟩ := s
    refine gTup_intro rfl (uncons_intro (gAgg_intro rfl (uncons_intro (gBool_intro rfl (uncons_intro (gSlice_intro rfl (unnil_intro (uncons_intro (gInt_intro rfl (unnil_intro (?_)))))))))))
    have r_42_0 := r_42_0.from k0.le
    have m_5 := k_5.tame
    have bx7 := bx7.keep k_5
    have bx_40 := bx_40.keep k_5
    have k0 := k0.trans k_5
    have kh := kh.trans k_5
    refine boxV fun h_6 bx_43 k_6 => ?_
    have d7q_43 : B7 ≠ h_5.size := Nat.ne_of_lt bx7.lt
    have d_40q_43 : h_1.size ≠ h_5.size := Nat.ne_of_lt bx_40.lt
    have o_43 : h0.size ≤ h_5.size := k0.le
    have oh_43 : h.size ≤ h_5.size := kh.le
    have lt_43 := bx_43.lt
    have m_6 := k_6.tame
    have bx7 := bx7.keep k_6
    have bx_40 := bx_40.keep k_6
    have k0 := k0.trans k_6
    have kh := kh.trans k_6
    refine stA bx_43 (base_add _ _) rfl fun h_7 bx_43 k_7 m_7 => ?_
    have bx7 := bx7.keepB d7q_43 k_7
    have bx_40 := bx_40.keepB d_40q_43 k_7
    have k0 := KeepB.keep k0 k_7 o_43
    have kh := KeepB.keep kh k_7 oh_43
    refine stA bx_43 (base_add _ _) rfl fun h_8 bx_43 k_8 m_8 => ?_
    have bx7 := bx7.keepB d7q_43 k_8
    have bx_40 := bx_40.keepB d_40q_43 k_8
    have k0 := KeepB.keep k0 k_8 o_43
    have kh := KeepB.keep kh k_8 oh_43
    refine lift_ne g (fun q_44 g => ?_) (fun q_44 g => ?_)
    · exact g _ _ k0 rfl
    · refine ldA bx_43 (base_add _ _) rfl ?_
      refine gBool_intro rfl ?_
      refine ldA bx_43 (base_add _ _) rfl ?_
      refine gSlice_intro rfl ?_
      refine ldA bx7 (base_add _ _) rfl ?_
      refine gBool_intro rfl ?_
      refine ldA bx7 (base_add _ _) rfl ?_
      refine gSlice_intro rfl ?_
      refine hc_intro (gnomonlaw04_same.hs (r_42_0.tame (m_6.trans (m_7.trans m_8))).rd64 rfl (r7_1.tame (m_1.trans (m_2.trans (m_3.trans (m_4.trans (m_5.trans (m_6.trans (m_7.trans m_8)))))))).rd64 rfl) fun v h_9 ⟨k_9, s⟩ => ?_
      obtain rfl := s
      refine gBool_intro rfl (?_)
      have m_9 := k_9.tame
      have bx7 := bx7.keep k_9
      have bx_40 := bx_40.keep k_9
      have bx_43 := bx_43.keep k_9
      have k0 := k0.trans k_9
      have kh := kh.trans k_9
      refine lift_not g (fun q_46 g => ?_) (fun q_46 g => ?_)
      · exact g _ _ k0 rfl
      · exact D5.hv k0 i1 i2 (r7_1.tame (m_1.trans (m_2.trans (m_3.trans (m_4.trans (m_5.trans (m_6.trans (m_7.trans (m_8.trans m_9))))))))) bx7 o7 (tb.tame (m_1.trans (m_2.trans (m_3.trans (m_4.trans (m_5.trans (m_6.trans (m_7.trans (m_8.trans m_9))))))))) g
  · exact D5.hv k0 i1 i2 (r7_1.tame (m_1.trans (m_2.trans (m_3.trans m_4)))) bx7 o7 (tb.tame (m_1.trans (m_2.trans (m_3.trans m_4)))) g
def D3.v (x1 : Int) (x2 : Int) (b7_0 : Bool) (xs7_1 : List Nat) : Bool :=
  letV (zz (1 : Int)) fun p_11 =>
  letV (shlZ (p_11.1, p_11.2) x2) fun p_12 =>
  bif (p_12.2 == (0 : Int)) then
    letV (shrZ flo (b7_0, xs7_1) x2) fun p_15 =>
    letV (quoZ flo (b7_0, xs7_1) (p_12.1.1, p_12.1.2)) fun p_17 =>
    letV (shrZ nea (b7_0, xs7_1) x2) fun p_19 =>
    letV (quoZ nea (b7_0, xs7_1) (p_12.1.1, p_12.1.2)) fun p_21 =>
    letV (shrZ cei (b7_0, xs7_1) x2) fun p_23 =>
    letV (quoZ cei (b7_0, xs7_1) (p_12.1.1, p_12.1.2)) fun p_25 =>
    bif (p_15.2 != (0 : Int)) then
      false
    else
      bif (p_17.2 != (0 : Int)) then
        false
      else
        bif (p_19.2 != (0 : Int)) then
          false
        else
          bif (p_21.2 != (0 : Int)) then
            false
          else
            bif (p_23.2 != (0 : Int)) then
              false
            else
              bif (p_25.2 != (0 : Int)) then
                false
              else
                bif (!(decide ((p_15.1.1, p_15.1.2) = (p_17.1.1, p_17.1.2)))) then
                  false
                else
                  bif (!(decide ((p_19.1.1, p_19.1.2) = (p_21.1.1, p_21.1.2)))) then
                    false
                  else
                    bif (!(decide ((p_23.1.1, p_23.1.2) = (p_25.1.1, p_25.1.2)))) then
                      false
                    else
                      D4.v x1 x2 b7_0 xs7_1
  else
    bif (p_12.2 != (5 : Int)) then
      false
    else
      bif (decide (x2 < (524288 : Int))) then
        false
      else
        D4.v x1 x2 b7_0 xs7_1
theorem D3.hv {R : Rt} {h0 h : Hp} (k0 : Keep h0 h) {x1 : Int} (i1 : In .i64 x1) {x2 : Int} (i2 : In .i64 x2) {b7_0 : Bool} {a7_1 : Option Addr} {c7_1 : Nat} {xs7_1 : List Nat} (r7_1 : GotE eU64 h0 h a7_1 c7_1 xs7_1) {B7 : Nat} (bx7 : BlkV h B7 [.bool b7_0, .slice a7_1 xs7_1.length c7_1]) (o7 : h0.size ≤ B7) (tb : Tab h) (g : Post sBool h0 R (D3.v x1 x2 b7_0 xs7_1)) : D3.t R x1 x2 (⟨B7, 0, none⟩ : Addr) h := by
  have kh := Keep.refl h
  have lt7 := bx7.lt
  unfold D3.v at g
  unfold D3.t
  refine hc_intro (num_Of.hs (show In .i64 (1 : Int) by decide)) fun v h_1 ⟨k_1, s⟩ => ?_
  obtain ⟨p_11, hp_11⟩ : ∃ p, p = zz (1 : Int) := ⟨_, rfl⟩
  rw [← hp_11] at s
  replace g := lift_let2 hp_11 g
  obtain ⟨a_11, c_11, rfl, r_11⟩ := s
  refine gAgg_intro rfl (uncons_intro (gBool_intro rfl (uncons_intro (gSlice_intro rfl (unnil_intro (?_))))))
  have r_11 := r_11.from k0.le
  have m_1 := k_1.tame
  have bx7 := bx7.keep k_1
  have k0 := k0.trans k_1
  have kh := kh.trans k_1
  refine hc_intro (num_Shl.hs r_11.rd64 rfl i2) fun v h_2 ⟨k_2, s⟩ => ?_
  obtain ⟨p_12, hp_12⟩ : ∃ p, p = shlZ (p_11.1, p_11.2) x2 := ⟨_, rfl⟩
  rw [← hp_12] at s
  replace g := lift_let2 hp_12 g
  obtain ⟨_, _, rfl, ⟨a_12_0, c_12_0, rfl, r_12_0⟩, ⟨rfl, i_12_1⟩⟩ := s
  refine gTup_intro rfl (uncons_intro (gAgg_intro rfl (uncons_intro (gBool_intro rfl (uncons_intro (gSlice_intro rfl (unnil_intro (uncons_intro (gInt_intro rfl (unnil_intro (?_)))))))))))
  have r_12_0 := r_12_0.from k0.le
  have m_2 := k_2.tame
  have bx7 := bx7.keep k_2
  have k0 := k0.trans k_2
  have kh := kh.trans k_2
  refine boxV fun h_3 bx_13 k_3 => ?_
  have d7q_13 : B7 ≠ h_2.size := Nat.ne_of_lt bx7.lt
  have o_13 : h0.size ≤ h_2.size := k0.le
  have oh_13 : h.size ≤ h_2.size := kh.le
  have lt_13 := bx_13.lt
  have m_3 := k_3.tame
  have bx7 := bx7.keep k_3
  have k0 := k0.trans k_3
  have kh := kh.trans k_3
  refine stA bx_13 (base_add _ _) rfl fun h_4 bx_13 k_4 m_4 => ?_
  have bx7 := bx7.keepB d7q_13 k_4
  have k0 := KeepB.keep k0 k_4 o_13
  have kh := KeepB.keep kh k_4 oh_13
  refine stA bx_13 (base_add _ _) rfl fun h_5 bx_13 k_5 m_5 => ?_
  have bx7 := bx7.keepB d7q_13 k_5
  have k0 := KeepB.keep k0 k_5 o_13
  have kh := KeepB.keep kh k_5 oh_13
  refine lift_eq g (fun q_14 g => ?_) (fun q_14 g => ?_)
  · refine ldA bx7 (base_add _ _) rfl ?_
    refine gBool_intro rfl ?_
    refine ldA bx7 (base_add _ _) rfl ?_
    refine gSlice_intro rfl ?_
    refine hc_intro (num_FloorShr.hs (r7_1.tame (m_1.trans (m_2.trans (m_3.trans (m_4.trans m_5))))).rd64 rfl i2 (tb.tame (m_1.trans (m_2.trans (m_3.trans (m_4.trans m_5)))))) fun v h_6 ⟨k_6, s⟩ => ?_
    obtain ⟨p_15, hp_15⟩ : ∃ p, p = shrZ flo (b7_0, xs7_1) x2 := ⟨_, rfl⟩
    rw [← hp_15] at s
    replace g := lift_let2 hp_15 g
    obtain ⟨_, _, rfl, ⟨a_15_0, c_15_0, rfl, r_15_0⟩, ⟨rfl, i_15_1⟩⟩ := s
    refine gTup_intro rfl (uncons_intro (gAgg_intro rfl (uncons_intro (gBool_intro rfl (uncons_intro (gSlice_intro rfl (unnil_intro (uncons_intro (gInt_intro rfl (unnil_intro (?_)))))))))))
    have r_15_0 := r_15_0.from k0.le
    have m_6 := k_6.tame
    have bx7 := bx7.keep k_6
    have bx_13 := bx_13.keep k_6
    have k0 := k0.trans k_6
    have kh := kh.trans k_6
    refine boxV fun h_7 bx_16 k_7 => ?_
    have d7q_16 : B7 ≠ h_6.size := Nat.ne_of_lt bx7.lt
    have d_13q_16 : h_2.size ≠ h_6.size := Nat.ne_of_lt bx_13.lt
    have o_16 : h0.size ≤ h_6.size := k0.le
    have oh_16 : h.size ≤ h_6.size := kh.le
    have lt_16 := bx_16.lt
    have m_7 := k_7.tame
    have bx7 := bx7.keep k_7
    have bx_13 := bx_13.keep k_7
    have k0 := k0.trans k_7
    have kh := kh.trans k_7
    refine stA bx_16 (base_add _ _) rfl fun h_8 bx_16 k_8 m_8 => ?_
    have bx7 := bx7.keepB d7q_16 k_8
    have bx_13 := bx_13.keepB d_13q_16 k_8
    have k0 := KeepB.keep k0 k_8 o_16
    have kh := KeepB.keep kh k_8 oh_16
    refine stA bx_16 (base_add _ _) rfl fun h_9 bx_16 k_9 m_9 => ?_
    have bx7 := bx7.keepB d7q_16 k_9
    have bx_13 := bx_13.keepB d_13q_16 k_9
    have k0 := KeepB.keep k0 k_9 o_16
    have kh := KeepB.keep kh k_9 oh_16
    refine ldA bx7 (base_add _ _) rfl ?_
    refine gBool_intro rfl ?_
    refine ldA bx7 (base_add _ _) rfl ?_
    refine gSlice_intro rfl ?_
    refine ldA bx_13 (base_add _ _) rfl ?_
    refine gBool_intro rfl ?_
    refine ldA bx_13 (base_add _ _) rfl ?_
    refine gSlice_intro rfl ?_
    refine hc_intro (num_FloorDiv.hs (r7_1.tame (m_1.trans (m_2.trans (m_3.trans (m_4.trans (m_5.trans (m_6.trans (m_7.trans (m_8.trans m_9))))))))).rd64 rfl (r_12_0.tame (m_3.trans (m_4.trans (m_5.trans (m_6.trans (m_7.trans (m_8.trans m_9))))))).rd64 rfl) fun v h_10 ⟨k_10, s⟩ => ?_
    obtain ⟨p_17, hp_17⟩ : ∃ p, p = quoZ flo (b7_0, xs7_1) (p_12.1.1, p_12.1.2) := ⟨_, rfl⟩
    rw [← hp_17] at s
    replace g := lift_let2 hp_17 g
    obtain ⟨_, _, rfl, ⟨a_17_0, c_17_0, rfl, r_17_0⟩, ⟨rfl, i_17_1⟩⟩ := s
    refine gTup_intro rfl (uncons_intro (gAgg_intro rfl (uncons_intro (gBool_intro rfl (uncons_intro (gSlice_intro rfl (unnil_intro (uncons_intro (gInt_intro rfl (unnil_intro (?_)))))))))))
    have r_17_0 := r_17_0.from k0.le
    have m_10 := k_10.tame
    have bx7 := bx7.keep k_10
    have bx_13 := bx_13.keep k_10
    have bx_16 := bx_16.keep k_10
    have k0 := k0.trans k_10
    have kh := kh.trans k_10
    refine boxV fun h_11 bx_18 k_11 => ?_
    have d7q_18 : B7 ≠ h_10.size := Nat.ne_of_lt bx7.lt
    have d_13q_18 : h_2.size ≠ h_10.size := Nat.ne_of_lt bx_13.lt
    have d_16q_18 : h_6.size ≠ h_10.size := Nat.ne_of_lt bx_16.lt
    have o_18 : h0.size ≤ h_10.size := k0.le
    have oh_18 : h.size ≤ h_10.size := kh.le
    have lt_18 := bx_18.lt
    have m_11 := k_11.tame
    have bx7 := bx7.keep k_11
    have bx_13 := bx_13.keep k_11
    have bx_16 := bx_16.keep k_11
    have k0 := k0.trans k_11
    have kh := kh.trans k_11
    refine stA bx_18 (base_add _ _) rfl fun h_12 bx_18 k_12 m_12 => ?_
    have bx7 := bx7.keepB d7q_18 k_12
    have bx_13 := bx_13.keepB d_13q_18 k_12
    have bx_16 := bx_16.keepB d_16q_18 k_12
    have k0 := KeepB.keep k0 k_12 o_18
    have kh := KeepB.keep kh k_12 oh_18
    refine stA bx_18 (base_add _ _) rfl fun h_13 bx_18 k_13 m_13 => ?_
    have bx7 := bx7.keepB d7q_18 k_13
    have bx_13 := bx_13.keepB d_13q_18 k_13
    have bx_16 := bx_16.keepB d_16q_18 k_13
    have k0 := KeepB.keep k0 k_13 o_18
    have kh := KeepB.keep kh k_13 oh_18
    refine ldA bx7 (base_add _ _) rfl ?_
    refine gBool_intro rfl ?_
    refine ldA bx7 (base_add _ _) rfl ?_
    refine gSlice_intro rfl ?_
    refine hc_intro (num_NearShr.hs (r7_1.tame (m_1.trans (m_2.trans (m_3.trans (m_4.trans (m_5.trans (m_6.trans (m_7.trans (m_8.trans (m_9.trans (m_10.trans (m_11.trans (m_12.trans m_13))))))))))))).rd64 rfl i2 (tb.tame (m_1.trans (m_2.trans (m_3.trans (m_4.trans (m_5.trans (m_6.trans (m_7.trans (m_8.trans (m_9.trans (m_10.trans (m_11.trans (m_12.trans m_13)))))))))))))) fun v h_14 ⟨k_14, s⟩ => ?_
    obtain ⟨p_19, hp_19⟩ : ∃ p, p = shrZ nea (b7_0, xs7_1) x2 := ⟨_, rfl⟩
    rw [← hp_19] at s
    replace g := lift_let2 hp_19 g
    obtain ⟨_, _, rfl, ⟨a_19_0, c_19_0, rfl, r_19_0⟩, ⟨rfl, i_19_1⟩⟩ := s
    refine gTup_intro rfl (uncons_intro (gAgg_intro rfl (uncons_intro (gBool_intro rfl (uncons_intro (gSlice_intro rfl (unnil_intro (uncons_intro (gInt_intro rfl (unnil_intro (?_)))))))))))
    have r_19_0 := r_19_0.from k0.le
    have m_14 := k_14.tame
    have bx7 := bx7.keep k_14
    have bx_13 := bx_13.keep k_14
    have bx_16 := bx_16.keep k_14
    have bx_18 := bx_18.keep k_14
    have k0 := k0.trans k_14
    have kh := kh.trans k_14
    refine boxV fun h_15 bx_20 k_15 => ?_
    have d7q_20 : B7 ≠ h_14.size := Nat.ne_of_lt bx7.lt
    have d_13q_20 : h_2.size ≠ h_14.size := Nat.ne_of_lt bx_13.lt
    have d_16q_20 : h_6.size ≠ h_14.size := Nat.ne_of_lt bx_16.lt
    have d_18q_20 : h_10.size ≠ h_14.size := Nat.ne_of_lt bx_18.lt
    have o_20 : h0.size ≤ h_14.size := k0.le
    have oh_20 : h.size ≤ h_14.size := kh.le
    have lt_20 := bx_20.lt
    have m_15 := k_15.tame
    have bx7 := bx7.keep k_15
    have bx_13 := bx_13.keep k_15
    have bx_16 := bx_16.keep k_15
    have bx_18 := bx_18.keep k_15
    have k0 := k0.trans k_15
    have kh := kh.trans k_15
    refine stA bx_20 (base_add _ _) rfl fun h_16 bx_20 k_16 m_16 => ?_
    have bx7 := bx7.keepB d7q_20 k_16
    have bx_13 := bx_13.keepB d_13q_20 k_16
    have bx_16 := bx_16.keepB d_16q_20 k_16
    have bx_18 := bx_18.keepB d_18q_20 k_16
    have k0 := KeepB.keep k0 k_16 o_20
    have kh := KeepB.keep kh k_16 oh_20
    refine stA bx_20 (base_add _ _) rfl fun h_17 bx_20 k_17 m_17 => ?_
    have bx7 := bx7.keepB d7q_20 k_17
    have bx_13 := bx_13.keepB d_13q_20 k_17
    have bx_16 := bx_16.keepB d_16q_20 k_17
    have bx_18 := bx_18.keepB d_18q_20 k_17
    have k0 := KeepB.keep k0 k_17 o_20
    have kh := KeepB.keep kh k_17 oh_20
    refine ldA bx7 (base_add _ _) rfl ?_
    refine gBool_intro rfl ?_
    refine ldA bx7 (base_add _ _) rfl ?_
    refine gSlice_intro rfl ?_
    refine ldA bx_13 (base_add _ _) rfl ?_
    refine gBool_intro rfl ?_
    refine ldA bx_13 (base_add _ _) rfl ?_
    refine gSlice_intro rfl ?_
    refine hc_intro (num_NearDiv.hs (r7_1.tame (m_1.trans (m_2.trans (m_3.trans (m_4.trans (m_5.trans (m_6.trans (m_7.trans (m_8.trans (m_9.trans (m_10.trans (m_11.trans (m_12.trans (m_13.trans (m_14.trans (m_15.trans (m_16.trans m_17))))))))))))))))).rd64 rfl (r_12_0.tame (m_3.trans (m_4.trans (m_5.trans (m_6.trans (m_7.trans (m_8.trans (m_9.trans (m_10.trans (m_11.trans (m_12.trans (m_13.trans (m_14.trans (m_15.trans (m_16.trans m_17))))))))))))))).rd64 rfl) fun v h_18 ⟨k_18, s⟩ => ?_
    obtain ⟨p_21, hp_21⟩ : ∃ p, p = quoZ nea (b7_0, xs7_1) (p_12.1.1, p_12.1.2) := ⟨_, rfl⟩
    rw [← hp_21] at s
    replace g := lift_let2 hp_21 g
    obtain ⟨_, _, rfl, ⟨a_21_0, c_21_0, rfl, r_21_0⟩, ⟨rfl, i_21_1⟩⟩ := s
    refine gTup_intro rfl (uncons_intro (gAgg_intro rfl (uncons_intro (gBool_intro rfl (uncons_intro (gSlice_intro rfl (unnil_intro (uncons_intro (gInt_intro rfl (unnil_intro (?_)))))))))))
    have r_21_0 := r_21_0.from k0.le
    have m_18 := k_18.tame
    have bx7 := bx7.keep k_18
    have bx_13 := bx_13.keep k_18
    have bx_16 := bx_16.keep k_18
    have bx_18 := bx_18.keep k_18
    have bx_20 := bx_20.keep k_18
    have k0 := k0.trans k_18
    have kh := kh.trans k_18
    refine boxV fun h_19 bx_22 k_19 => ?_
    have d7q_22 : B7 ≠ h_18.size := Nat.ne_of_lt bx7.lt
    have d_13q_22 : h_2.size ≠ h_18.size := Nat.ne_of_lt bx_13.lt
    have d_16q_22 : h_6.size ≠ h_18.size := Nat.ne_of_lt bx_16.lt
    have d_18q_22 : h_10.size ≠ h_18.size := Nat.ne_of_lt bx_18.lt
    have d_20q_22 : h_14.size ≠ h_18.size := Nat.ne_of_lt bx_20.lt
    have o_22 : h0.size ≤ h_18.size := k0.le
    have oh_22 : h.size ≤ h_18.size := kh.le
    have lt_22 := bx_22.lt
    have m_19 := k_19.tame
    have bx7 := bx7.keep k_19
    have bx_13 := bx_13.keep k_19
    have bx_16 := bx_16.keep k_19
    have bx_18 := bx_18.keep k_19
    have bx_20 := bx_20.keep k_19
    have k0 := k0.trans k_19
    have kh := kh.trans k_19
    refine stA bx_22 (base_add _ _) rfl fun h_20 bx_22 k_20 m_20 => ?_
    have bx7 := bx7.keepB d7q_22 k_20
    have bx_13 := bx_13.keepB d_13q_22 k_20
    have bx_16 := bx_16.keepB d_16q_22 k_20
    have bx_18 := bx_18.keepB d_18q_22 k_20
    have bx_20 := bx_20.keepB d_20q_22 k_20
    have k0 := KeepB.keep k0 k_20 o_22
    have kh := KeepB.keep kh k_20 oh_22
    refine stA bx_22 (base_add _ _) rfl fun h_21 bx_22 k_21 m_21 => ?_
    have bx7 := bx7.keepB d7q_22 k_21
    have bx_13 := bx_13.keepB d_13q_22 k_21
    have bx_16 := bx_16.keepB d_16q_22 k_21
    have bx_18 := bx_18.keepB d_18q_22 k_21
    have bx_20 := bx_20.keepB d_20q_22 k_21
    have k0 := KeepB.keep k0 k_21 o_22
    have kh := KeepB.keep kh k_21 oh_22
    refine ldA bx7 (base_add _ _) rfl ?_
    refine gBool_intro rfl ?_
    refine ldA bx7 (base_add _ _) rfl ?_
    refine gSlice_intro rfl ?_
    refine hc_intro (num_CeilShr.hs (r7_1.tame (m_1.trans (m_2.trans (m_3.trans (m_4.trans (m_5.trans (m_6.trans (m_7.trans (m_8.trans (m_9.trans (m_10.trans (m_11.trans (m_12.trans (m_13.trans (m_14.trans (m_15.trans (m_16.trans (m_17.trans (m_18.trans (m_19.trans (m_20.trans m_21))))))))))))))))))))).rd64 rfl i2 (tb.tame (m_1.trans (m_2.trans (m_3.trans (m_4.trans (m_5.trans (m_6.trans (m_7.trans (m_8.trans (m_9.trans (m_10.trans (m_11.trans (m_12.trans (m_13.trans (m_14.trans (m_15.trans (m_16.trans (m_17.trans (m_18.trans (m_19.trans (m_20.trans m_21)))))))))))))))))))))) fun v h_22 ⟨k_22, s⟩ => ?_
    obtain ⟨p_23, hp_23⟩ : ∃ p, p = shrZ cei (b7_0, xs7_1) x2 := ⟨_, rfl⟩
    rw [← hp_23] at s
    replace g := lift_let2 hp_23 g
    obtain ⟨_, _, rfl, ⟨a_23_0, c_23_0, rfl, r_23_0⟩, ⟨rfl, i_23_1⟩⟩ := s
    refine gTup_intro rfl (uncons_intro (gAgg_intro rfl (uncons_intro (gBool_intro rfl (uncons_intro (gSlice_intro rfl (unnil_intro (uncons_intro (gInt_intro rfl (unnil_intro (?_)))))))))))
    have r_23_0 := r_23_0.from k0.le
    have m_22 := k_22.tame
    have bx7 := bx7.keep k_22
    have bx_13 := bx_13.keep k_22
    have bx_16 := bx_16.keep k_22
    have bx_18 := bx_18.keep k_22
    have bx_20 := bx_20.keep k_22
    have bx_22 := bx_22.keep k_22
    have k0 := k0.trans k_22
    have kh := kh.trans k_22
    refine boxV fun h_23 bx_24 k_23 => ?_
    have d7q_24 : B7 ≠ h_22.size := Nat.ne_of_lt bx7.lt
    have d_13q_24 : h_2.size ≠ h_22.size := Nat.ne_of_lt bx_13.lt
    have d_16q_24 : h_6.size ≠ h_22.size := Nat.ne_of_lt bx_16.lt
    have d_18q_24 : h_10.size ≠ h_22.size := Nat.ne_of_lt bx_18.lt
    have d_20q_24 : h_14.size ≠ h_22.size := Nat.ne_of_lt bx_20.lt
    have d_22q_24 : h_18.size ≠ h_22.size := Nat.ne_of_lt bx_22.lt
    have o_24 : h0.size ≤ h_22.size := k0.le
    have oh_24 : h.size ≤ h_22.size := kh.le
    have lt_24 := bx_24.lt
    have m_23 := k_23.tame
    have bx7 := bx7.keep k_23
    have bx_13 := bx_13.keep k_23
    have bx_16 := bx_16.keep k_23
    have bx_18 := bx_18.keep k_23
    have bx_20 := bx_20.keep k_23
    have bx_22 := bx_22.keep k_23
    have k0 := k0.trans k_23
    have kh := kh.trans k_23
    refine stA bx_24 (base_add _ _) rfl fun h_24 bx_24 k_24 m_24 => ?_
    have bx7 := bx7.keepB d7q_24 k_24
    have bx_13 := bx_13.keepB d_13q_24 k_24
    have bx_16 := bx_16.keepB d_16q_24 k_24
    have bx_18 := bx_18.keepB d_18q_24 k_24
    have bx_20 := bx_20.keepB d_20q_24 k_24
    have bx_22 := bx_22.keepB d_22q_24 k_24
    have k0 := KeepB.keep k0 k_24 o_24
    have kh := KeepB.keep kh k_24 oh_24
    refine stA bx_24 (base_add _ _) rfl fun h_25 bx_24 k_25 m_25 => ?_
    have bx7 := bx7.keepB d7q_24 k_25
    have bx_13 := bx_13.keepB d_13q_24 k_25
    have bx_16 := bx_16.keepB d_16q_24 k_25
    have bx_18 := bx_18.keepB d_18q_24 k_25
    have bx_20 := bx_20.keepB d_20q_24 k_25
    have bx_22 := bx_22.keepB d_22q_24 k_25
    have k0 := KeepB.keep k0 k_25 o_24
    have kh := KeepB.keep kh k_25 oh_24
    refine ldA bx7 (base_add _ _) rfl ?_
    refine gBool_intro rfl ?_
    refine ldA bx7 (base_add _ _) rfl ?_
    refine gSlice_intro rfl ?_
    refine ldA bx_13 (base_add _ _) rfl ?_
    refine gBool_intro rfl ?_
    refine ldA bx_13 (base_add _ _) rfl ?_
    refine gSlice_intro rfl ?_
    refine hc_intro (num_CeilDiv.hs (r7_1.tame (m_1.trans (m_2.trans (m_3.trans (m_4.trans (m_5.trans (m_6.trans (m_7.trans (m_8.trans (m_9.trans (m_10.trans (m_11.trans (m_12.trans (m_13.trans (m_14.trans (m_15.trans (m_16.trans (m_17.trans (m_18.trans (m_19.trans (m_20.trans (m_21.trans (m_22.trans (m_23.trans (m_24.trans m_25))))))))))))))))))))))))).rd64 rfl (r_12_0.tame (m_3.trans (m_4.trans (m_5.trans (m_6.trans (m_7.trans (m_8.trans (m_9.trans (m_10.trans (m_11.trans (m_12.trans (m_13.trans (m_14.trans (m_15.trans (m_16.trans (m_17.trans (m_18.trans (m_19.trans (m_20.trans (m_21.trans (m_22.trans (m_23.trans (m_24.trans m_25))))))))))))))))))))))).rd64 rfl) fun v h_26 ⟨k_26, s⟩ => ?_
    obtain ⟨p_25, hp_25⟩ : ∃ p, p = quoZ cei (b7_0, xs7_1) (p_12.1.1, p_12.1.2) := ⟨_, rfl⟩
    rw [← hp_25] at s
    replace g := lift_let2 hp_25 g
    obtain ⟨_, _, rfl, ⟨a_25_0, c_25_0, rfl, r_25_0⟩, ⟨rfl, i_25_1⟩⟩ := s
    refine gTup_intro rfl (uncons_intro (gAgg_intro rfl (uncons_intro (gBool_intro rfl (uncons_intro (gSlice_intro rfl (unnil_intro (uncons_intro (gInt_intro rfl (unnil_intro (?_)))))))))))
    have r_25_0 := r_25_0.from k0.le
    have m_26 := k_26.tame
    have bx7 := bx7.keep k_26
    have bx_13 := bx_13.keep k_26
    have bx_16 := bx_16.keep k_26
    have bx_18 := bx_18.keep k_26
    have bx_20 := bx_20.keep k_26
    have bx_22 := bx_22.keep k_26
    have bx_24 := bx_24.keep k_26
    have k0 := k0.trans k_26
    have kh := kh.trans k_26
    refine boxV fun h_27 bx_26 k_27 => ?_
    have d7q_26 : B7 ≠ h_26.size := Nat.ne_of_lt bx7.lt
    have d_13q_26 : h_2.size ≠ h_26.size := Nat.ne_of_lt bx_13.lt
    have d_16q_26 : h_6.size ≠ h_26.size := Nat.ne_of_lt bx_16.lt
    have d_18q_26 : h_10.size ≠ h_26.size := Nat.ne_of_lt bx_18.lt
    have d_20q_26 : h_14.size ≠ h_26.size := Nat.ne_of_lt bx_20.lt
    have d_22q_26 : h_18.size ≠ h_26.size := Nat.ne_of_lt bx_22.lt
    have d_24q_26 : h_22.size ≠ h_26.size := Nat.ne_of_lt bx_24.lt
    have o_26 : h0.size ≤ h_26.size := k0.le
    have oh_26 : h.size ≤ h_26.size := kh.le
    have lt_26 := bx_26.lt
    have m_27 := k_27.tame
    have bx7 := bx7.keep k_27
    have bx_13 := bx_13.keep k_27
    have bx_16 := bx_16.keep k_27
    have bx_18 := bx_18.keep k_27
    have bx_20 := bx_20.keep k_27
    have bx_22 := bx_22.keep k_27
    have bx_24 := bx_24.keep k_27
    have k0 := k0.trans k_27
    have kh := kh.trans k_27
    refine stA bx_26 (base_add _ _) rfl fun h_28 bx_26 k_28 m_28 => ?_
    have bx7 := bx7.keepB d7q_26 k_28
    have bx_13 := bx_13.keepB d_13q_26 k_28
    have bx_16 := bx_16.keepB d_16q_26 k_28
    have bx_18 := bx_18.keepB d_18q_26 k_28
    have bx_20 := bx_20.keepB d_20q_26 k_28
    have bx_22 := bx_22.keepB d_22q_26 k_28
    have bx_24 := bx_24.keepB d_24q_26 k_28
    have k0 := KeepB.keep k0 k_28 o_26
    have kh := KeepB.keep kh k_28 oh_26
    refine stA bx_26 (base_add _ _) rfl fun h_29 bx_26 k_29 m_29 => ?_
    have bx7 := bx7.keepB d7q_26 k_29
    have bx_13 := bx_13.keepB d_13q_26 k_29
    have bx_16 := bx_16.keepB d_16q_26 k_29
    have bx_18 := bx_18.keepB d_18q_26 k_29
    have bx_20 := bx_20.keepB d_20q_26 k_29
    have bx_22 := bx_22.keepB d_22q_26 k_29
    have bx_24 := bx_24.keepB d_24q_26 k_29
    have k0 := KeepB.keep k0 k_29 o_26
    have kh := KeepB.keep kh k_29 oh_26
    refine lift_ne g (fun q_27 g => ?_) (fun q_27 g => ?_)
    · exact g _ _ k0 rfl
    · refine lift_ne g (fun q_28 g => ?_) (fun q_28 g => ?_)
      · exact g _ _ k0 rfl
      · refine lift_ne g (fun q_29 g => ?_) (fun q_29 g => ?_)
        · exact g _ _ k0 rfl
        · refine lift_ne g (fun q_30 g => ?_) (fun q_30 g => ?_)
          · exact g _ _ k0 rfl
          · refine lift_ne g (fun q_31 g => ?_) (fun q_31 g => ?_)
            · exact g _ _ k0 rfl
            · refine lift_ne g (fun q_32 g => ?_) (fun q_32 g => ?_)
              · exact g _ _ k0 rfl
              · refine ldA bx_16 (base_add _ _) rfl ?_
                refine gBool_intro rfl ?_
                refine ldA bx_16 (base_add _ _) rfl ?_
                refine gSlice_intro rfl ?_
                refine ldA bx_18 (base_add _ _) rfl ?_
                refine gBool_intro rfl ?_
                refine ldA bx_18 (base_add _ _) rfl ?_
                refine gSlice_intro rfl ?_
                refine hc_intro (gnomonlaw04_same.hs (r_15_0.tame (m_7.trans (m_8.trans (m_9.trans (m_10.trans (m_11.trans (m_12.trans (m_13.trans (m_14.trans (m_15.trans (m_16.trans (m_17.trans (m_18.trans (m_19.trans (m_20.trans (m_21.trans (m_22.trans (m_23.trans (m_24.trans (m_25.trans (m_26.trans (m_27.trans (m_28.trans m_29))))))))))))))))))))))).rd64 rfl (r_17_0.tame (m_11.trans (m_12.trans (m_13.trans (m_14.trans (m_15.trans (m_16.trans (m_17.trans (m_18.trans (m_19.trans (m_20.trans (m_21.trans (m_22.trans (m_23.trans (m_24.trans (m_25.trans (m_26.trans (m_27.trans (m_28.trans m_29))))))))))))))))))).rd64 rfl) fun v h_30 ⟨k_30, s⟩ => ?_
                obtain rfl := s
                refine gBool_intro rfl (?_)
                have m_30 := k_30.tame
                have bx7 := bx7.keep k_30
                have bx_13 := bx_13.keep k_30
                have bx_16 := bx_16.keep k_30
                have bx_18 := bx_18.keep k_30
                have bx_20 := bx_20.keep k_30
                have bx_22 := bx_22.keep k_30
                have bx_24 := bx_24.keep k_30
                have bx_26 := bx_26.keep k_30
                have k0 := k0.trans k_30
                have kh := kh.trans k_30
                refine lift_not g (fun q_34 g => ?_) (fun q_34 g => ?_)
                · exact g _ _ k0 rfl
                · refine ldA bx_20 (base_add _ _) rfl ?_
                  refine gBool_intro rfl ?_
                  refine ldA bx_20 (base_add _ _) rfl ?_
                  refine gSlice_intro rfl ?_
                  refine ldA bx_22 (base_add _ _) rfl ?_
                  refine gBool_intro rfl ?_
                  refine ldA bx_22 (base_add _ _) rfl ?_
                  refine gSlice_intro rfl ?_
                  refine hc_intro (gnomonlaw04_same.hs (r_19_0.tame (m_15.trans (m_16.trans (m_17.trans (m_18.trans (m_19.trans (m_20.trans (m_21.trans (m_22.trans (m_23.trans (m_24.trans (m_25.trans (m_26.trans (m_27.trans (m_28.trans (m_29.trans m_30)))))))))))))))).rd64 rfl (r_21_0.tame (m_19.trans (m_20.trans (m_21.trans (m_22.trans (m_23.trans (m_24.trans (m_25.trans (m_26.trans (m_27.trans (m_28.trans (m_29.trans m_30)))))))))))).rd64 rfl) fun v h_31 ⟨k_31, s⟩ => ?_
                  obtain rfl := s
                  refine gBool_intro rfl (?_)
                  have m_31 := k_31.tame
                  have bx7 := bx7.keep k_31
                  have bx_13 := bx_13.keep k_31
                  have bx_16 := bx_16.keep k_31
                  have bx_18 := bx_18.keep k_31
                  have bx_20 := bx_20.keep k_31
                  have bx_22 := bx_22.keep k_31
                  have bx_24 := bx_24.keep k_31
                  have bx_26 := bx_26.keep k_31
                  have k0 := k0.trans k_31
                  have kh := kh.trans k_31
                  refine lift_not g (fun q_36 g => ?_) (fun q_36 g => ?_)
                  · exact g _ _ k0 rfl
                  · refine ldA bx_24 (base_add _ _) rfl ?_
                    refine gBool_intro rfl ?_
                    refine ldA bx_24 (base_add _ _) rfl ?_
                    refine gSlice_intro rfl ?_
                    refine ldA bx_26 (base_add _ _) rfl ?_
                    refine gBool_intro rfl ?_
                    refine ldA bx_26 (base_add _ _) rfl ?_
                    refine gSlice_intro rfl ?_
                    refine hc_intro (gnomonlaw04_same.hs (r_23_0.tame (m_23.trans (m_24.trans (m_25.trans (m_26.trans (m_27.trans (m_28.trans (m_29.trans (m_30.trans m_31))))))))).rd64 rfl (r_25_0.tame (m_27.trans (m_28.trans (m_29.trans (m_30.trans m_31))))).rd64 rfl) fun v h_32 ⟨k_32, s⟩ => ?_
                    obtain rfl := s
                    refine gBool_intro rfl (?_)
                    have m_32 := k_32.tame
                    have bx7 := bx7.keep k_32
                    have bx_13 := bx_13.keep k_32
                    have bx_16 := bx_16.keep k_32
                    have bx_18 := bx_18.keep k_32
                    have bx_20 := bx_20.keep k_32
                    have bx_22 := bx_22.keep k_32
                    have bx_24 := bx_24.keep k_32
                    have bx_26 := bx_26.keep k_32
                    have k0 := k0.trans k_32
                    have kh := kh.trans k_32
                    refine lift_not g (fun q_38 g => ?_) (fun q_38 g => ?_)
                    · exact g _ _ k0 rfl
                    · exact D4.hv k0 i1 i2 (r7_1.tame (m_1.trans (m_2.trans (m_3.trans (m_4.trans (m_5.trans (m_6.trans (m_7.trans (m_8.trans (m_9.trans (m_10.trans (m_11.trans (m_12.trans (m_13.trans (m_14.trans (m_15.trans (m_16.trans (m_17.trans (m_18.trans (m_19.trans (m_20.trans (m_21.trans (m_22.trans (m_23.trans (m_24.trans (m_25.trans (m_26.trans (m_27.trans (m_28.trans (m_29.trans (m_30.trans (m_31.trans m_32)))))))))))))))))))))))))))))))) bx7 o7 (tb.tame (m_1.trans (m_2.trans (m_3.trans (m_4.trans (m_5.trans (m_6.trans (m_7.trans (m_8.trans (m_9.trans (m_10.trans (m_11.trans (m_12.trans (m_13.trans (m_14.trans (m_15.trans (m_16.trans (m_17.trans (m_18.trans (m_19.trans (m_20.trans (m_21.trans (m_22.trans (m_23.trans (m_24.trans (m_25.trans (m_26.trans (m_27.trans (m_28.trans (m_29.trans (m_30.trans (m_31.trans m_32)))))))))))))))))))))))))))))))) g
  · refine lift_ne g (fun q_59 g => ?_) (fun q_59 g => ?_)
    · exact g _ _ k0 rfl
    · refine lift_dec g (fun q_60 g => ?_) (fun q_60 g => ?_)
      · exact g _ _ k0 rfl
      · exact D4.hv k0 i1 i2 (r7_1.tame (m_1.trans (m_2.trans (m_3.trans (m_4.trans m_5))))) bx7 o7 (tb.tame (m_1.trans (m_2.trans (m_3.trans (m_4.trans m_5))))) g
def D2.v (x1 : Int) (x2 : Int) (b7_0 : Bool) (xs7_1 : List Nat) (b8 : Bool) : Bool :=
  bif (!b8) then
    true
  else
    bif (decide (x1 < (0 : Int))) then
      true
    else
      bif (decide (x2 < (0 : Int))) then
        true
      else
        D3.v x1 x2 b7_0 xs7_1
theorem D2.hv {R : Rt} {h0 h : Hp} (k0 : Keep h0 h) {x1 : Int} (i1 : In .i64 x1) {x2 : Int} (i2 : In .i64 x2) {b7_0 : Bool} {a7_1 : Option Addr} {c7_1 : Nat} {xs7_1 : List Nat} (r7_1 : GotE eU64 h0 h a7_1 c7_1 xs7_1) {B7 : Nat} (bx7 : BlkV h B7 [.bool b7_0, .slice a7_1 xs7_1.length c7_1]) (o7 : h0.size ≤ B7) {b8 : Bool} (tb : Tab h) (g : Post sBool h0 R (D2.v x1 x2 b7_0 xs7_1 b8)) : D2.t R x1 x2 (⟨B7, 0, none⟩ : Addr) b8 h := by
  have kh := Keep.refl h
  have lt7 := bx7.lt
  unfold D2.v at g
  unfold D2.t
  refine lift_not g (fun q_8 g => ?_) (fun q_8 g => ?_)
  · exact g _ _ k0 rfl
  · refine lift_dec g (fun q_9 g => ?_) (fun q_9 g => ?_)
    · exact g _ _ k0 rfl
    · refine lift_dec g (fun q_10 g => ?_) (fun q_10 g => ?_)
      · exact g _ _ k0 rfl
      · exact D3.hv k0 i1 i2 r7_1 bx7 o7 tb g
def D1.v (b0_0 : Bool) (xs0_1 : List Nat) (x1 : Int) (x2 : Int) : Bool :=
  letV ((zz (zi (b0_0, xs0_1)), decide (SmZ (zi (b0_0, xs0_1))))) fun p_2 =>
  bif (!(true)) then
    false
  else
    bif (!(true)) then
      false
    else
      D2.v x1 x2 p_2.1.1 p_2.1.2 p_2.2
theorem D1.hv {R : Rt} {h0 h : Hp} (k0 : Keep h0 h) {b0_0 : Bool} {a0_1 : Option Addr} {c0_1 l0_1 : Nat} {xs0_1 : List Nat} (r0_1 : Rd h a0_1 c0_1 xs0_1) (e0_1 : l0_1 = xs0_1.length) {x1 : Int} (i1 : In .i64 x1) {x2 : Int} (i2 : In .i64 x2) (tb : Tab h) (g : Post sBool h0 R (D1.v b0_0 xs0_1 x1 x2)) : D1.t R b0_0 a0_1 l0_1 c0_1 x1 x2 h := by
  subst e0_1
  have kh := Keep.refl h
  unfold D1.v at g
  unfold D1.t
  refine boxV fun h_1 bx_1 k_1 => ?_
  have o_1 : h0.size ≤ h.size := k0.le
  have oh_1 : h.size ≤ h.size := kh.le
  have lt_1 := bx_1.lt
  have m_1 := k_1.tame
  have k0 := k0.trans k_1
  have kh := kh.trans k_1
  refine ldA bx_1 (base_add _ _) rfl ?_
  refine gBool_intro rfl ?_
  refine ldA bx_1 (base_add _ _) rfl ?_
  refine gSlice_intro rfl ?_
  refine hc_intro (gnomonlaw04_formed.hs (r0_1.tame (m_1)) rfl) fun v h_2 ⟨k_2, s⟩ => ?_
  obtain ⟨p_2, hp_2⟩ : ∃ p, p = (zz (zi (b0_0, xs0_1)), decide (SmZ (zi (b0_0, xs0_1)))) := ⟨_, rfl⟩
  rw [← hp_2] at s
  replace g := lift_let2 hp_2 g
  obtain ⟨_, _, rfl, ⟨a_2_0, c_2_0, rfl, r_2_0⟩, rfl⟩ := s
  refine gTup_intro rfl (uncons_intro (gAgg_intro rfl (uncons_intro (gBool_intro rfl (uncons_intro (gSlice_intro rfl (unnil_intro (uncons_intro (gBool_intro rfl (unnil_intro (?_)))))))))))
  have r_2_0 := r_2_0.from k0.le
  have m_2 := k_2.tame
  have bx_1 := bx_1.keep k_2
  have k0 := k0.trans k_2
  have kh := kh.trans k_2
  refine boxV fun h_3 bx_3 k_3 => ?_
  have d_1q_3 : h.size ≠ h_2.size := Nat.ne_of_lt bx_1.lt
  have o_3 : h0.size ≤ h_2.size := k0.le
  have oh_3 : h.size ≤ h_2.size := kh.le
  have lt_3 := bx_3.lt
  have m_3 := k_3.tame
  have bx_1 := bx_1.keep k_3
  have k0 := k0.trans k_3
  have kh := kh.trans k_3
  refine stA bx_3 (base_add _ _) rfl fun h_4 bx_3 k_4 m_4 => ?_
  have bx_1 := bx_1.keepB d_1q_3 k_4
  have k0 := KeepB.keep k0 k_4 o_3
  have kh := KeepB.keep kh k_4 oh_3
  refine stA bx_3 (base_add _ _) rfl fun h_5 bx_3 k_5 m_5 => ?_
  have bx_1 := bx_1.keepB d_1q_3 k_5
  have k0 := KeepB.keep k0 k_5 o_3
  have kh := KeepB.keep kh k_5 oh_3
  refine hc_intro (awake_hs) fun v h_6 ⟨k_6, s⟩ => ?_
  obtain rfl := s
  refine gBool_intro rfl (?_)
  have m_6 := k_6.tame
  have bx_1 := bx_1.keep k_6
  have bx_3 := bx_3.keep k_6
  have k0 := k0.trans k_6
  have kh := kh.trans k_6
  refine lift_not g (fun q_5 g => ?_) (fun q_5 g => ?_)
  · exact g _ _ k0 rfl
  · refine hc_intro (halves_hs (tb.tame (m_1.trans (m_2.trans (m_3.trans (m_4.trans (m_5.trans m_6))))))) fun v h_7 ⟨k_7, s⟩ => ?_
    obtain rfl := s
    refine gBool_intro rfl (?_)
    have m_7 := k_7.tame
    have bx_1 := bx_1.keep k_7
    have bx_3 := bx_3.keep k_7
    have k0 := k0.trans k_7
    have kh := kh.trans k_7
    refine lift_not g (fun q_7 g => ?_) (fun q_7 g => ?_)
    · exact g _ _ k0 rfl
    · exact D2.hv k0 i1 i2 (r_2_0.tame (m_3.trans (m_4.trans (m_5.trans (m_6.trans m_7))))) bx_3 o_3 (tb.tame (m_1.trans (m_2.trans (m_3.trans (m_4.trans (m_5.trans (m_6.trans m_7))))))) g
def v (b0_0 : Bool) (xs0_1 : List Nat) (x1 : Int) (x2 : Int) : Bool := D1.v b0_0 xs0_1 x1 x2
theorem hv {h : Hp} {b0_0 : Bool} {a0_1 : Option Addr} {c0_1 l0_1 : Nat} {xs0_1 : List Nat} (r0_1 : Rd h a0_1 c0_1 xs0_1) (e0_1 : l0_1 = xs0_1.length) {x1 : Int} (i1 : In .i64 x1) {x2 : Int} (i2 : In .i64 x2) (tb : Tab h) : HC id #[.agg #[.bool b0_0, .slice a0_1 l0_1 c0_1], .int .i64 x1, .int .i64 x2] h fun v_ h_ => Keep h h_ ∧ sBool h h_ v_ (v b0_0 xs0_1 x1 x2) :=
  ok (D1.hv (Keep.refl _) r0_1 e0_1 i1 i2 tb fun v h' k s => ⟨k, s⟩)
end gnomonlaw04_NumSteps

end Go.Proofs.YtpglfeeebnnkkaaDoor.G

/- Layer 4: a whole number as an argument. -/
namespace Go.Proofs.YtpglfeeebnnkkaaDoor.G
open Go.Gv
set_option linter.unusedVariables false
set_option maxRecDepth 100000
theorem zne : ((0 : Int) != 0) = false := rfl
/-! ### the laws -/
theorem says_oneZ {α β : Type} {S : Says α} {T : Says β} {h : Hp} {cs : List Value} {p : α × β} (z : saysCons S 1 T h cs p) : ∃ c rest, cs = c :: rest ∧ S h [c] p.1 ∧ T h rest p.2 := by
  obtain ⟨l, s, t⟩ := z
  cases cs with
  | nil => simp at l
  | cons c r => exact ⟨c, r, rfl, s, t⟩
abbrev saysInt4 : Says (Bool × List Nat × Unit) := saysCons saysBool 1 (saysCons saysWords 1 saysEnd)
theorem int4_open {h : Hp} {cs : Array Value} {x : Bool × List Nat × Unit} (z : saysInt4 h cs.toList x) : ∃ a c, cs = #[.bool x.1, .slice a x.2.1.length c] ∧ Rd h a c x.2.1 := by
  obtain ⟨v0, t0, e0, f0, z⟩ := says_oneZ z
  obtain ⟨v1, t1, e1, ⟨a1, c1, f1, r1, _⟩, z⟩ := says_oneZ z
  have z : t1 = [] := z
  have f0 : [v0] = [.bool x.1] := f0
  simp only [List.cons.injEq, and_true] at f0 f1
  subst f0 f1
  rw [e1, z] at e0
  exact ⟨a1, c1, Array.toList_inj.mp e0, r1⟩
end Go.Proofs.YtpglfeeebnnkkaaDoor.G

/- The law NumSteps of the translation answers true. -/
namespace Go.Proofs.YtpglfeeebnnkkaaDoor.G
open Go.Gv
set_option linter.unusedVariables false
set_option maxRecDepth 100000
/-! ### steps -/
theorem steps_D5 {X : Int} (hx : SmZ X) {j k : Nat} (hj : j < 9223372036854775808) (hk : k < 9223372036854775808) : gnomonlaw04_NumSteps.D5.v (j : Int) (k : Int) (zz X).1 (zz X).2 = true := by
  unfold gnomonlaw04_NumSteps.D5.v
  by_cases h1 : (j : Int) ≥ 4611686018427387904
  · simp only [h1, decide_true, cond_true]
  · by_cases h2 : (k : Int) ≥ 4611686018427387904
    · simp only [h1, h2, decide_true, decide_false, cond_true, cond_false]
    · simp only [h1, h2, decide_false, cond_false]
      unfold gnomonlaw04_NumSteps.D6.v
      have e : IntKind.i64.wrap ((j : Int) + (k : Int)) = ((j + k : Nat) : Int) := by rw [wrap_i64 (by omega) (by omega)]; omega
      have c1 : SmZ (flo X (2 ^ j)) := smZ_le (flo_abs (pow2_nz j)) hx
      have c2 : SmZ (flo X (2 ^ (j + k))) := smZ_le (flo_abs (pow2_nz _)) hx
      simp only [letV, eta2, e, shr_zz hx, zlim_ok c1, shr_zz c1, flo_two, zlim_ok c2]
      simp
theorem steps_D4 {X : Int} (hx : SmZ X) {j k : Nat} (hj : j < 9223372036854775808) (hk : k < 9223372036854775808) : gnomonlaw04_NumSteps.D4.v (j : Int) (k : Int) (zz X).1 (zz X).2 = true := by
  unfold gnomonlaw04_NumSteps.D4.v
  simp only [letV, eta2, shl_zz hx]
  by_cases h : SmZ (X * 2 ^ k)
  · simp only [zlim_ok h, shr_zz h, nea_mul, zlim_ok hx, steps_D5 hx hj hk, beq_self_eq_true, cond_true, zne, cond_false, decide_true, Bool.not_true]
  · simp only [zlim_no h, steps_D5 hx hj hk]; rfl
theorem steps_D3 {X : Int} (hx : SmZ X) {j k : Nat} (hj : j < 9223372036854775808) (hk : k < 9223372036854775808) : gnomonlaw04_NumSteps.D3.v (j : Int) (k : Int) (zz X).1 (zz X).2 = true := by
  unfold gnomonlaw04_NumSteps.D3.v
  have s1 : SmZ 1 := sm_small (by decide)
  simp only [letV, eta2, shl_zz s1, Int.one_mul]
  by_cases h : SmZ (2 ^ k)
  · have b := pow2_nz k
    have c1 : SmZ (flo X (2 ^ k)) := smZ_le (flo_abs b) hx
    have c2 : SmZ (nea X (2 ^ k)) := smZ_le (nea_abs b) hx
    have c3 : SmZ (cei X (2 ^ k)) := smZ_le (cei_abs b) hx
    simp only [zlim_ok h, shr_zz hx, quo_zz hx h b, zlim_ok c1, zlim_ok c2, zlim_ok c3, steps_D4 hx hj hk, beq_self_eq_true, cond_true, zne, cond_false, decide_true, Bool.not_true]
  · simp only [zlim_no h, steps_D4 hx hj hk]
    have e : ¬ ((k : Int) < 524288) := by
      intro hlt; apply h
      unfold SmZ
      rw [pow2_sg, sg_abs]
      exact dl_pow2 (by omega)
    have e1 : ((5 : Int) == 0) = false := rfl
    have e2 : ((5 : Int) != 5) = false := rfl
    simp only [e1, e2, e, cond_false, decide_false]
theorem NumSteps_v (b : Bool) (xs : List Nat) {j k : Int} (ij : In .i64 j) (ik : In .i64 k) : gnomonlaw04_NumSteps.v b xs j k = true := by
  rw [in_i64] at ij ik
  unfold gnomonlaw04_NumSteps.v gnomonlaw04_NumSteps.D1.v
  simp only [letV, Bool.not_true, cond_false]
  unfold gnomonlaw04_NumSteps.D2.v
  by_cases hx : SmZ (zi (b, xs))
  · by_cases h1 : j < 0
    · simp only [hx, h1, decide_true, Bool.not_true, cond_false, cond_true]
    · by_cases h2 : k < 0
      · simp only [hx, h1, h2, decide_true, decide_false, Bool.not_true, cond_false, cond_true]
      · simp only [hx, h1, h2, decide_true, decide_false, Bool.not_true, cond_false]
        obtain ⟨m, rfl⟩ := Int.eq_ofNat_of_zero_le (Int.not_lt.mp h1)
        obtain ⟨n, rfl⟩ := Int.eq_ofNat_of_zero_le (Int.not_lt.mp h2)
        exact steps_D3 hx (by omega) (by omega)
  · simp only [hx, decide_false, Bool.not_false, cond_true]
section
variable {h : Hp} {cs ds : Array Value} {X Y : Bool × List Nat × Unit} {x y : Int}
theorem NumSteps_law (z0 : saysInt4 h cs.toList X) (i : -9223372036854775808 ≤ x ∧ x < 9223372036854775808) (j : -9223372036854775808 ≤ y ∧ y < 9223372036854775808) (tb : Tab h) : HC gnomonlaw04_NumSteps.id #[.agg cs, .int .i64 x, .int .i64 y] h fun v h' => Keep h h' ∧ v = .bool true := by
  obtain ⟨a, c, e, r⟩ := int4_open z0
  subst e
  have := gnomonlaw04_NumSteps.hv (b0_0 := X.1) r rfl (in_i64.mpr i) (in_i64.mpr j) tb
  rw [NumSteps_v _ _ (in_i64.mpr i) (in_i64.mpr j)] at this; exact this
end
end Go.Proofs.YtpglfeeebnnkkaaDoor.G
