/- Texts of this work, joined: ZLNumMirrors, ZLawC, ZLawM. -/
import Derived.Test.YtpglfeeebnnkkaaDoorKB
import Derived.Test.YtpglfeeebnnkkaaDoorKC0
import Derived.Test.YtpglfeeebnnkkaaDoorKC1
/- Functions without loops as functions of values. Written by a program of this work. -/
namespace Go.Proofs.YtpglfeeebnnkkaaDoor.G
open Go.Gv
set_option linter.unusedVariables false
set_option maxRecDepth 100000
namespace gnomonlaw04_NumMirrors
def D5.v (b7_0 : Bool) (xs7_1 : List Nat) (b9_0 : Bool) (xs9_1 : List Nat) (b13_0 : Bool) (xs13_1 : List Nat) : Bool :=
  letV (quoZ flo (b7_0, xs7_1) (b13_0, xs13_1)) fun p_52 =>
  letV (quoZ cei (b7_0, xs7_1) (b9_0, xs9_1)) fun p_54 =>
  letV (negZ (p_54.1.1, p_54.1.2)) fun p_56 =>
  bif (((cmpZ (zi (b9_0, xs9_1)) 0)) == (0 : Int)) then
    bif (p_52.2 == (4 : Int)) then
      (p_54.2 == (4 : Int))
    else
      false
  else
    bif (p_52.2 == (0 : Int)) then
      bif (p_54.2 == (0 : Int)) then
        bif (p_56.2 == (0 : Int)) then
          (decide ((p_52.1.1, p_52.1.2) = (p_56.1.1, p_56.1.2)))
        else
          false
      else
        false
    else
      false
theorem D5.hv {R : Rt} {h0 h : Hp} (k0 : Keep h0 h) {b7_0 : Bool} {a7_1 : Option Addr} {c7_1 : Nat} {xs7_1 : List Nat} (r7_1 : GotE eU64 h0 h a7_1 c7_1 xs7_1) {B7 : Nat} (bx7 : BlkV h B7 [.bool b7_0, .slice a7_1 xs7_1.length c7_1]) (o7 : h0.size ≤ B7) {b9_0 : Bool} {a9_1 : Option Addr} {c9_1 : Nat} {xs9_1 : List Nat} (r9_1 : GotE eU64 h0 h a9_1 c9_1 xs9_1) {B9 : Nat} (bx9 : BlkV h B9 [.bool b9_0, .slice a9_1 xs9_1.length c9_1]) (o9 : h0.size ≤ B9) {b13_0 : Bool} {a13_1 : Option Addr} {c13_1 : Nat} {xs13_1 : List Nat} (r13_1 : GotE eU64 h0 h a13_1 c13_1 xs13_1) {B13 : Nat} (bx13 : BlkV h B13 [.bool b13_0, .slice a13_1 xs13_1.length c13_1]) (o13 : h0.size ≤ B13) (d7q9 : B7 ≠ B9) (d7q13 : B7 ≠ B13) (d9q13 : B9 ≠ B13) (tb : Tab h) (g : Post sBool h0 R (D5.v b7_0 xs7_1 b9_0 xs9_1 b13_0 xs13_1)) : D5.t R (⟨B7, 0, none⟩ : Addr) (⟨B9, 0, none⟩ : Addr) (⟨B13, 0, none⟩ : Addr) h := by
  have kh := Keep.refl h
  have lt7 := bx7.lt
  have lt9 := bx9.lt
  have lt13 := bx13.lt
  unfold D5.v at g
  unfold D5.t
  refine ldA bx7 (base_add _ _) rfl ?_
  refine gBool_intro rfl ?_
  refine ldA bx7 (base_add _ _) rfl ?_
  refine gSlice_intro rfl ?_
  refine ldA bx13 (base_add _ _) rfl ?_
  refine gBool_intro rfl ?_
  refine ldA bx13 (base_add _ _) rfl ?_
  refine gSlice_intro rfl ?_
  refine hc_intro (num_FloorDiv.hs r7_1.rd64 rfl r13_1.rd64 rfl) fun v h_1 ⟨k_1, s⟩ => ?_
  obtain ⟨p_52, hp_52⟩ : ∃ p, p = quoZ flo (b7_0, xs7_1) (b13_0, xs13_1) := ⟨_, rfl⟩
  rw [← hp_52] at s
  replace g := lift_let2 hp_52 g
  obtain ⟨_, _, rfl, ⟨a_52_0, c_52_0, rfl, r_52_0⟩, ⟨rfl, i_52_1⟩⟩ := s
  refine gTup_intro rfl (uncons_intro (gAgg_intro rfl (uncons_intro (gBool_intro rfl (uncons_intro (gSlice_intro rfl (unnil_intro (uncons_intro (gInt_intro rfl (unnil_intro (?_)))))))))))
  have r_52_0 := r_52_0.from k0.le
  have m_1 := k_1.tame
  have bx7 := bx7.keep k_1
  have bx9 := bx9.keep k_1
  have bx13 := bx13.keep k_1
  have k0 := k0.trans k_1
  have kh := kh.trans k_1
  refine boxV fun h_2 bx_53 k_2 => ?_
  have d7q_53 : B7 ≠ h_1.size := Nat.ne_of_lt bx7.lt
  have d9q_53 : B9 ≠ h_1.size := Nat.ne_of_lt bx9.lt
  have d13q_53 : B13 ≠ h_1.size := Nat.ne_of_lt bx13.lt
  have o_53 : h0.size ≤ h_1.size := k0.le
  have oh_53 : h.size ≤ h_1.size := kh.le
  have lt_53 := bx_53.lt
  have m_2 := k_2.tame
  have bx7 := bx7.keep k_2
  have bx9 := bx9.keep k_2
  have bx13 := bx13.keep k_2
  have k0 := k0.trans k_2
  have kh := kh.trans k_2
  refine stA bx_53 (base_add _ _) rfl fun h_3 bx_53 k_3 m_3 => ?_
  have bx7 := bx7.keepB d7q_53 k_3
  have bx9 := bx9.keepB d9q_53 k_3
  have bx13 := bx13.keepB d13q_53 k_3
  have k0 := KeepB.keep k0 k_3 o_53
  have kh := KeepB.keep kh k_3 oh_53
  refine stA bx_53 (base_add _ _) rfl fun h_4 bx_53 k_4 m_4 => ?_
  have bx7 := bx7.keepB d7q_53 k_4
  have bx9 := bx9.keepB d9q_53 k_4
  have bx13 := bx13.keepB d13q_53 k_4
  have k0 := KeepB.keep k0 k_4 o_53
  have kh := KeepB.keep kh k_4 oh_53
  refine ldA bx7 (base_add _ _) rfl ?_
  refine gBool_intro rfl ?_
  refine ldA bx7 (base_add _ _) rfl ?_
  refine gSlice_intro rfl ?_
  refine ldA bx9 (base_add _ _) rfl ?_
  refine gBool_intro rfl ?_
  refine ldA bx9 (base_add _ _) rfl ?_
  refine gSlice_intro rfl ?_
  refine hc_intro (num_CeilDiv.hs (r7_1.tame (m_1.trans (m_2.trans (m_3.trans m_4)))).rd64 rfl (r9_1.tame (m_1.trans (m_2.trans (m_3.trans m_4)))).rd64 rfl) fun v h_5 ⟨k_5, s⟩ => ?_
  obtain ⟨p_54, hp_54⟩ : ∃ p, p = quoZ cei (b7_0, xs7_1) (b9_0, xs9_1) := ⟨_, rfl⟩
  rw [← hp_54] at s
  replace g := lift_let2 hp_54 g
  obtain ⟨_, _, rfl, ⟨a_54_0, c_54_0, rfl, r_54_0⟩, ⟨rfl, i_54_1⟩⟩ := s
  refine gTup_intro rfl (uncons_intro (gAgg_intro rfl (uncons_intro (gBool_intro rfl (uncons_intro (gSlice_intro rfl (unnil_intro (uncons_intro (gInt_intro rfl (unnil_intro (?_)))))))))))
  have r_54_0 := r_54_0.from k0.le
  have m_5 := k_5.tame
  have bx7 := bx7.keep k_5
  have bx9 := bx9.keep k_5
  have bx13 := bx13.keep k_5
  have bx_53 := bx_53.keep k_5
  have k0 := k0.trans k_5
  have kh := kh.trans k_5
  refine boxV fun h_6 bx_55 k_6 => ?_
  have d7q_55 : B7 ≠ h_5.size := Nat.ne_of_lt bx7.lt
  have d9q_55 : B9 ≠ h_5.size := Nat.ne_of_lt bx9.lt
  have d13q_55 : B13 ≠ h_5.size := Nat.ne_of_lt bx13.lt
  have d_53q_55 : h_1.size ≠ h_5.size := Nat.ne_of_lt bx_53.lt
  have o_55 : h0.size ≤ h_5.size := k0.le
  have oh_55 : h.size ≤ h_5.size := kh.le
  have lt_55 := bx_55.lt
  have m_6 := k_6.tame
  have bx7 := bx7.keep k_6
  have bx9 := bx9.keep k_6
  have bx13 := bx13.keep k_6
  have bx_53 := bx_53.keep k_6
  have k0 := k0.trans k_6
  have kh := kh.trans k_6
  refine stA bx_55 (base_add _ _) rfl fun h_7 bx_55 k_7 m_7 => ?_
  have bx7 := bx7.keepB d7q_55 k_7
  have bx9 := bx9.keepB d9q_55 k_7
  have bx13 := bx13.keepB d13q_55 k_7
  have bx_53 := bx_53.keepB d_53q_55 k_7
  have k0 := KeepB.keep k0 k_7 o_55
  have kh := KeepB.keep kh k_7 oh_55
  refine stA bx_55 (base_add _ _) rfl fun h_8 bx_55 k_8 m_8 => ?_
  have bx7 := bx7.keepB d7q_55 k_8
  have bx9 := bx9.keepB d9q_55 k_8
  have bx13 := bx13.keepB d13q_55 k_8
  have bx_53 := bx_53.keepB d_53q_55 k_8
  have k0 := KeepB.keep k0 k_8 o_55
  have kh := KeepB.keep kh k_8 oh_55
  refine ldA bx_55 (base_add _ _) rfl ?_
  refine gBool_intro rfl ?_
  refine ldA bx_55 (base_add _ _) rfl ?_
  refine gSlice_intro rfl ?_
  refine hc_intro (num_Neg.hs (r_54_0.tame (m_6.trans (m_7.trans m_8))).rd64 rfl) fun v h_9 ⟨k_9, s⟩ => ?_
  obtain ⟨p_56, hp_56⟩ : ∃ p, p = negZ (p_54.1.1, p_54.1.2) := ⟨_, rfl⟩
  rw [← hp_56] at s
  replace g := lift_let2 hp_56 g
  obtain ⟨_, _, rfl, ⟨a_56_0, c_56_0, rfl, r_56_0⟩, ⟨rfl, i_56_1⟩⟩ := s
  refine gTup_intro rfl (uncons_intro (gAgg_intro rfl (uncons_intro (gBool_intro rfl (uncons_intro (gSlice_intro rfl (unnil_intro (uncons_intro (gInt_intro rfl (unnil_intro (?_)))))))))))
  have r_56_0 := r_56_0.from k0.le
  have m_9 := k_9.tame
  have bx7 := bx7.keep k_9
  have bx9 := bx9.keep k_9
  have bx13 := bx13.keep k_9
  have bx_53 := bx_53.keep k_9
  have bx_55 := bx_55.keep k_9
  have k0 := k0.trans k_9
  have kh := kh.trans k_9
  refine boxV fun h_10 bx_57 k_10 => ?_
  have d7q_57 : B7 ≠ h_9.size := Nat.ne_of_lt bx7.lt
  have d9q_57 : B9 ≠ h_9.size := Nat.ne_of_lt bx9.lt
  have d13q_57 : B13 ≠ h_9.size := Nat.ne_of_lt bx13.lt
  have d_53q_57 : h_1.size ≠ h_9.size := Nat.ne_of_lt bx_53.lt
  have d_55q_57 : h_5.size ≠ h_9.size := Nat.ne_of_lt bx_55.lt
  have o_57 : h0.size ≤ h_9.size := k0.le
  have oh_57 : h.size ≤ h_9.size := kh.le
  have lt_57 := bx_57.lt
  have m_10 := k_10.tame
  have bx7 := bx7.keep k_10
  have bx9 := bx9.keep k_10
  have bx13 := bx13.keep k_10
  have bx_53 := bx_53.keep k_10
  have bx_55 := bx_55.keep k_10
  have k0 := k0.trans k_10
  have kh := kh.trans k_10
  refine stA bx_57 (base_add _ _) rfl fun h_11 bx_57 k_11 m_11 => ?_
  have bx7 := bx7.keepB d7q_57 k_11
  have bx9 := bx9.keepB d9q_57 k_11
  have bx13 := bx13.keepB d13q_57 k_11
  have bx_53 := bx_53.keepB d_53q_57 k_11
  have bx_55 := bx_55.keepB d_55q_57 k_11
  have k0 := KeepB.keep k0 k_11 o_57
  have kh := KeepB.keep kh k_11 oh_57
  refine stA bx_57 (base_add _ _) rfl fun h_12 bx_57 k_12 m_12 => ?_
  have bx7 := bx7.keepB d7q_57 k_12
  have bx9 := bx9.keepB d9q_57 k_12
  have bx13 := bx13.keepB d13q_57 k_12
  have bx_53 := bx_53.keepB d_53q_57 k_12
  have bx_55 := bx_55.keepB d_55q_57 k_12
  have k0 := KeepB.keep k0 k_12 o_57
  have kh := KeepB.keep kh k_12 oh_57
  refine ldA bx9 (base_add _ _) rfl ?_
  refine gBool_intro rfl ?_
  refine ldA bx9 (base_add _ _) rfl ?_
  refine gSlice_intro rfl ?_
  refine hc_intro (num_Sign.hs (r9_1.tame (m_1.trans (m_2.trans (m_3.trans (m_4.trans (m_5.trans (m_6.trans (m_7.trans (m_8.trans (m_9.trans (m_10.trans (m_11.trans m_12)))))))))))).rd64 rfl) fun v h_13 ⟨k_13, s⟩ => ?_
  obtain ⟨rfl, i_58⟩ := s
  refine gInt_intro rfl (?_)
  have m_13 := k_13.tame
  have bx7 := bx7.keep k_13
  have bx9 := bx9.keep k_13
  have bx13 := bx13.keep k_13
  have bx_53 := bx_53.keep k_13
  have bx_55 := bx_55.keep k_13
  have bx_57 := bx_57.keep k_13
  have k0 := k0.trans k_13
  have kh := kh.trans k_13
  refine lift_eq g (fun q_59 g => ?_) (fun q_59 g => ?_)
  · refine lift_eq g (fun q_60 g => ?_) (fun q_60 g => ?_)
    · exact g _ _ k0 rfl
    · exact g _ _ k0 rfl
  · refine lift_eq g (fun q_61 g => ?_) (fun q_61 g => ?_)
    · refine lift_eq g (fun q_62 g => ?_) (fun q_62 g => ?_)
      · refine lift_eq g (fun q_63 g => ?_) (fun q_63 g => ?_)
        · refine ldA bx_53 (base_add _ _) rfl ?_
          refine gBool_intro rfl ?_
          refine ldA bx_53 (base_add _ _) rfl ?_
          refine gSlice_intro rfl ?_
          refine ldA bx_57 (base_add _ _) rfl ?_
          refine gBool_intro rfl ?_
          refine ldA bx_57 (base_add _ _) rfl ?_
          refine gSlice_intro rfl ?_
          refine hc_intro (gnomonlaw04_same.hs (r_52_0.tame (m_2.trans (m_3.trans (m_4.trans (m_5.trans (m_6.trans (m_7.trans (m_8.trans (m_9.trans (m_10.trans (m_11.trans (m_12.trans m_13)))))))))))).rd64 rfl (r_56_0.tame (m_10.trans (m_11.trans (m_12.trans m_13)))).rd64 rfl) fun v h_14 ⟨k_14, s⟩ => ?_
          obtain rfl := s
          refine gBool_intro rfl (?_)
          have m_14 := k_14.tame
          have bx7 := bx7.keep k_14
          have bx9 := bx9.keep k_14
          have bx13 := bx13.keep k_14
          have bx_53 := bx_53.keep k_14
          have bx_55 := bx_55.keep k_14
          have bx_57 := bx_57.keep k_14
          have k0 := k0.trans k_14
          have kh := kh.trans k_14
          exact g _ _ k0 rfl
        · exact g _ _ k0 rfl
      · exact g _ _ k0 rfl
    · exact g _ _ k0 rfl
def D4.v (x2 : Int) (b7_0 : Bool) (xs7_1 : List Nat) (b9_0 : Bool) (xs9_1 : List Nat) (b11_0 : Bool) (xs11_1 : List Nat) (b13_0 : Bool) (xs13_1 : List Nat) : Bool :=
  bif (decide (x2 < (0 : Int))) then
    letV (shrZ flo (b7_0, xs7_1) x2) fun p_28 =>
    (p_28.2 == (1 : Int))
  else
    letV (shrZ flo (b11_0, xs11_1) x2) fun p_30 =>
    letV (shrZ cei (b7_0, xs7_1) x2) fun p_32 =>
    letV (shrZ nea (b11_0, xs11_1) x2) fun p_34 =>
    letV (shrZ nea (b7_0, xs7_1) x2) fun p_36 =>
    letV (negZ (p_32.1.1, p_32.1.2)) fun p_38 =>
    letV (negZ (p_36.1.1, p_36.1.2)) fun p_40 =>
    bif (p_30.2 != (0 : Int)) then
      false
    else
      bif (p_32.2 != (0 : Int)) then
        false
      else
        bif (p_34.2 != (0 : Int)) then
          false
        else
          bif (p_36.2 != (0 : Int)) then
            false
          else
            bif (p_38.2 != (0 : Int)) then
              false
            else
              bif (p_40.2 != (0 : Int)) then
                false
              else
                bif (!(decide ((p_30.1.1, p_30.1.2) = (p_38.1.1, p_38.1.2)))) then
                  false
                else
                  bif (!(decide ((p_34.1.1, p_34.1.2) = (p_40.1.1, p_40.1.2)))) then
                    false
                  else
                    D5.v b7_0 xs7_1 b9_0 xs9_1 b13_0 xs13_1
theorem D4.hv {R : Rt} {h0 h : Hp} (k0 : Keep h0 h) {x2 : Int} (i2 : In .i64 x2) {b7_0 : Bool} {a7_1 : Option Addr} {c7_1 : Nat} {xs7_1 : List Nat} (r7_1 : GotE eU64 h0 h a7_1 c7_1 xs7_1) {B7 : Nat} (bx7 : BlkV h B7 [.bool b7_0, .slice a7_1 xs7_1.length c7_1]) (o7 : h0.size ≤ B7) {b9_0 : Bool} {a9_1 : Option Addr} {c9_1 : Nat} {xs9_1 : List Nat} (r9_1 : GotE eU64 h0 h a9_1 c9_1 xs9_1) {B9 : Nat} (bx9 : BlkV h B9 [.bool b9_0, .slice a9_1 xs9_1.length c9_1]) (o9 : h0.size ≤ B9) {b11_0 : Bool} {a11_1 : Option Addr} {c11_1 : Nat} {xs11_1 : List Nat} (r11_1 : GotE eU64 h0 h a11_1 c11_1 xs11_1) {B11 : Nat} (bx11 : BlkV h B11 [.bool b11_0, .slice a11_1 xs11_1.length c11_1]) (o11 : h0.size ≤ B11) {b13_0 : Bool} {a13_1 : Option Addr} {c13_1 : Nat} {xs13_1 : List Nat} (r13_1 : GotE eU64 h0 h a13_1 c13_1 xs13_1) {B13 : Nat} (bx13 : BlkV h B13 [.bool b13_0, .slice a13_1 xs13_1.length c13_1]) (o13 : h0.size ≤ B13) (d7q9 : B7 ≠ B9) (d7q11 : B7 ≠ B11) (d7q13 : B7 ≠ B13) (d9q11 : B9 ≠ B11) (d9q13 : B9 ≠ B13) (d11q13 : B11 ≠ B13) (tb : Tab h) (g : Post sBool h0 R (D4.v x2 b7_0 xs7_1 b9_0 xs9_1 b11_0 xs11_1 b13_0 xs13_1)) : D4.t R x2 (⟨B7, 0, none⟩ : Addr) (⟨B9, 0, none⟩ : Addr) (⟨B11, 0, none⟩ : Addr) (⟨B13, 0, none⟩ : Addr) h := by
  have kh := Keep.refl h
  have lt7 := bx7.lt
  have lt9 := bx9.lt
  have lt11 := bx11.lt
  have lt13 := bx13.lt
  unfold D4.v at g
  unfold D4.t
  refine lift_dec g (fun q_27 g => ?_) (fun q_27 g => ?_)
  · refine ldA bx7 (base_add _ _) rfl ?_
    refine gBool_intro rfl ?_
    refine ldA bx7 (base_add _ _) rfl ?_
    refine gSlice_intro rfl ?_
    refine hc_intro (num_FloorShr.hs r7_1.rd64 rfl i2 tb) fun v h_1 ⟨k_1, s⟩ => ?_
    obtain ⟨p_28, hp_28⟩ : ∃ p, p = shrZ flo (b7_0, xs7_1) x2 := ⟨_, rfl⟩
    rw [← hp_28] at s
    replace g := lift_let2 hp_28 g
    obtain ⟨_, _, rfl, ⟨a_28_0, c_28_0, rfl, r_28_0⟩, ⟨rfl, i_28_1⟩⟩ := s
    refine gTup_intro rfl (uncons_intro (gAgg_intro rfl (uncons_intro (gBool_intro rfl (uncons_intro (gSlice_intro rfl (unnil_intro (uncons_intro (gInt_intro rfl (unnil_intro (?_)))))))))))
    have r_28_0 := r_28_0.from k0.le
    have m_1 := k_1.tame
    have bx7 := bx7.keep k_1
    have bx9 := bx9.keep k_1
    have bx11 := bx11.keep k_1
    have bx13 := bx13.keep k_1
    have k0 := k0.trans k_1
    have kh := kh.trans k_1
    refine boxV fun h_2 bx_29 k_2 => ?_
    have d7q_29 : B7 ≠ h_1.size := Nat.ne_of_lt bx7.lt
    have d9q_29 : B9 ≠ h_1.size := Nat.ne_of_lt bx9.lt
    have d11q_29 : B11 ≠ h_1.size := Nat.ne_of_lt bx11.lt
    have d13q_29 : B13 ≠ h_1.size := Nat.ne_of_lt bx13.lt
    have o_29 : h0.size ≤ h_1.size := k0.le
    have oh_29 : h.size ≤ h_1.size := kh.le
    have lt_29 := bx_29.lt
    have m_2 := k_2.tame
    have bx7 := bx7.keep k_2
    have bx9 := bx9.keep k_2
    have bx11 := bx11.keep k_2
    have bx13 := bx13.keep k_2
    have k0 := k0.trans k_2
    have kh := kh.trans k_2
    refine stA bx_29 (base_add _ _) rfl fun h_3 bx_29 k_3 m_3 => ?_
    have bx7 := bx7.keepB d7q_29 k_3
    have bx9 := bx9.keepB d9q_29 k_3
    have bx11 := bx11.keepB d11q_29 k_3
    have bx13 := bx13.keepB d13q_29 k_3
    have k0 := KeepB.keep k0 k_3 o_29
    have kh := KeepB.keep kh k_3 oh_29
    refine stA bx_29 (base_add _ _) rfl fun h_4 bx_29 k_4 m_4 => ?_
    have bx7 := bx7.keepB d7q_29 k_4
    have bx9 := bx9.keepB d9q_29 k_4
    have bx11 := bx11.keepB d11q_29 k_4
    have bx13 := bx13.keepB d13q_29 k_4
    have k0 := KeepB.keep k0 k_4 o_29
    have kh := KeepB.keep kh k_4 oh_29
    exact g _ _ k0 rfl
  · refine ldA bx11 (base_add _ _) rfl ?_
    refine gBool_intro rfl ?_
    refine ldA bx11 (base_add _ _) rfl ?_
    refine gSlice_intro rfl ?_
    refine hc_intro (num_FloorShr.hs r11_1.rd64 rfl i2 tb) fun v h_1 ⟨k_1, s⟩ => ?_
    obtain ⟨p_30, hp_30⟩ : ∃ p, p = shrZ flo (b11_0, xs11_1) x2 := ⟨_, rfl⟩
    rw [← hp_30] at s
    replace g := lift_let2 hp_30 g
    obtain ⟨_, _, rfl, ⟨a_30_0, c_30_0, rfl, r_30_0⟩, ⟨rfl, i_30_1⟩⟩ := s
    refine gTup_intro rfl (uncons_intro (gAgg_intro rfl (uncons_intro (gBool_intro rfl (uncons_intro (gSlice_intro rfl (unnil_intro (uncons_intro (gInt_intro rfl (unnil_intro (?_)))))))))))
    have r_30_0 := r_30_0.from k0.le
    have m_1 := k_1.tame
    have bx7 := bx7.keep k_1
    have bx9 := bx9.keep k_1
    have bx11 := bx11.keep k_1
    have bx13 := bx13.keep k_1
    have k0 := k0.trans k_1
    have kh := kh.trans k_1
    refine boxV fun h_2 bx_31 k_2 => ?_
    have d7q_31 : B7 ≠ h_1.size := Nat.ne_of_lt bx7.lt
    have d9q_31 : B9 ≠ h_1.size := Nat.ne_of_lt bx9.lt
    have d11q_31 : B11 ≠ h_1.size := Nat.ne_of_lt bx11.lt
    have d13q_31 : B13 ≠ h_1.size := Nat.ne_of_lt bx13.lt
    have o_31 : h0.size ≤ h_1.size := k0.le
    have oh_31 : h.size ≤ h_1.size := kh.le
    have lt_31 := bx_31.lt
    have m_2 := k_2.tame
    have bx7 := bx7.keep k_2
    have bx9 := bx9.keep k_2
    have bx11 := bx11.keep k_2
    have bx13 := bx13.keep k_2
    have k0 := k0.trans k_2
    have kh := kh.trans k_2
    refine stA bx_31 (base_add _ _) rfl fun h_3 bx_31 k_3 m_3 => ?_
    have bx7 := bx7.keepB d7q_31 k_3
    have bx9 := bx9.keepB d9q_31 k_3
    have bx11 := bx11.keepB d11q_31 k_3
    have bx13 := bx13.keepB d13q_31 k_3
    have k0 := KeepB.keep k0 k_3 o_31
    have kh := KeepB.keep kh k_3 oh_31
    refine stA bx_31 (base_add _ _) rfl fun h_4 bx_31 k_4 m_4 => ?_
    have bx7 := bx7.keepB d7q_31 k_4
    have bx9 := bx9.keepB d9q_31 k_4
    have bx11 := bx11.keepB d11q_31 k_4
    have bx13 := bx13.keepB d13q_31 k_4
    have k0 := KeepB.keep k0 k_4 o_31
    have kh := KeepB.keep kh k_4 oh_31
    refine ldA bx7 (base_add _ _) rfl ?_
    refine gBool_intro rfl ?_
    refine ldA bx7 (base_add _ _) rfl ?_
    refine gSlice_intro rfl ?_
    refine hc_intro (num_CeilShr.hs (r7_1.tame (m_1.trans (m_2.trans (m_3.trans m_4)))).rd64 rfl i2 (tb.tame (m_1.trans (m_2.trans (m_3.trans m_4))))) fun v h_5 ⟨k_5, s⟩ => ?_
    obtain ⟨p_32, hp_32⟩ : ∃ p, p = shrZ cei (b7_0, xs7_1) x2 := ⟨_, rfl⟩
    rw [← hp_32] at s
    replace g := lift_let2 hp_32 g
    obtain ⟨_, _, rfl, ⟨a_32_0, c_32_0, rfl, r_32_0⟩, ⟨rfl, i_32_1⟩⟩ := s
    refine gTup_intro rfl (uncons_intro (gAgg_intro rfl (uncons_intro (gBool_intro rfl (uncons_intro (gSlice_intro rfl (unnil_intro (uncons_intro (gInt_intro rfl (unnil_intro (?_)))))))))))
    have r_32_0 := r_32_0.from k0.le
    have m_5 := k_5.tame
    have bx7 := bx7.keep k_5
    have bx9 := bx9.keep k_5
    have bx11 := bx11.keep k_5
    have bx13 := bx13.keep k_5
    have bx_31 := bx_31.keep k_5
    have k0 := k0.trans k_5
    have kh := kh.trans k_5
    refine boxV fun h_6 bx_33 k_6 => ?_
    have d7q_33 : B7 ≠ h_5.size := Nat.ne_of_lt bx7.lt
    have d9q_33 : B9 ≠ h_5.size := Nat.ne_of_lt bx9.lt
    have d11q_33 : B11 ≠ h_5.size := Nat.ne_of_lt bx11.lt
    have d13q_33 : B13 ≠ h_5.size := Nat.ne_of_lt bx13.lt
    have d_31q_33 : h_1.size ≠ h_5.size := Nat.ne_of_lt bx_31.lt
    have o_33 : h0.size ≤ h_5.size := k0.le
    have oh_33 : h.size ≤ h_5.size := kh.le
    have lt_33 := bx_33.lt
    have m_6 := k_6.tame
    have bx7 := bx7.keep k_6
    have bx9 := bx9.keep k_6
    have bx11 := bx11.keep k_6
    have bx13 := bx13.keep k_6
    have bx_31 := bx_31.keep k_6
    have k0 := k0.trans k_6
    have kh := kh.trans k_6
    refine stA bx_33 (base_add _ _) rfl fun h_7 bx_33 k_7 m_7 => ?_
    have bx7 := bx7.keepB d7q_33 k_7
    have bx9 := bx9.keepB d9q_33 k_7
    have bx11 := bx11.keepB d11q_33 k_7
    have bx13 := bx13.keepB d13q_33 k_7
    have bx_31 := bx_31.keepB d_31q_33 k_7
    have k0 := KeepB.keep k0 k_7 o_33
    have kh := KeepB.keep kh k_7 oh_33
    refine stA bx_33 (base_add _ _) rfl fun h_8 bx_33 k_8 m_8 => ?_
    have bx7 := bx7.keepB d7q_33 k_8
    have bx9 := bx9.keepB d9q_33 k_8
    have bx11 := bx11.keepB d11q_33 k_8
    have bx13 := bx13.keepB d13q_33 k_8
    have bx_31 := bx_31.keepB d_31q_33 k_8
    have k0 := KeepB.keep k0 k_8 o_33
    have kh := KeepB.keep kh k_8 oh_33
    refine ldA bx11 (base_add _ _) rfl ?_
    refine gBool_intro rfl ?_
    refine ldA bx11 (base_add _ _) rfl ?_
    refine gSlice_intro rfl ?_
    refine hc_intro (num_NearShr.hs (r11_1.tame (m_1.trans (m_2.trans (m_3.trans (m_4.trans (m_5.trans (m_6.trans (m_7.trans m_8)))))))).rd64 rfl i2 (tb.tame (m_1.trans (m_2.trans (m_3.trans (m_4.trans (m_5.trans (m_6.trans (m_7.trans m_8))))))))) fun v h_9 ⟨k_9, s⟩ => ?_
    obtain ⟨p_34, hp_34⟩ : ∃ p, p = shrZ nea (b11_0, xs11_1) x2 := ⟨_, rfl⟩
    rw [← hp_34] at s
    replace g := lift_let2 hp_34 g
    obtain ⟨_, _, rfl, ⟨a_34_0, c_34_0, rfl, r_34_0⟩, ⟨rfl, i_34_1⟩⟩ := s
    refine gTup_intro rfl (uncons_intro (gAgg_intro rfl (uncons_intro (gBool_intro rfl (uncons_intro (gSlice_intro rfl (unnil_intro (uncons_intro (gInt_intro rfl (unnil_intro (?_)))))))))))
    have r_34_0 := r_34_0.from k0.le
    have m_9 := k_9.tame
    have bx7 := bx7.keep k_9
    have bx9 := bx9.keep k_9
    have bx11 := bx11.keep k_9
    have bx13 := bx13.keep k_9
    have bx_31 := bx_31.keep k_9
    have bx_33 := bx_33.keep k_9
    have k0 := k0.trans k_9
    have kh := kh.trans k_9
    refine boxV fun h_10 bx_35 k_10 => ?_
    have d7q_35 : B7 ≠ h_9.size := Nat.ne_of_lt bx7.lt
    have d9q_35 : B9 ≠ h_9.size := Nat.ne_of_lt bx9.lt
    have d11q_35 : B11 ≠ h_9.size := Nat.ne_of_lt bx11.lt
    have d13q_35 : B13 ≠ h_9.size := Nat.ne_of_lt bx13.lt
    have d_31q_35 : h_1.size ≠ h_9.size := Nat.ne_of_lt bx_31.lt
    have d_33q_35 : h_5.size ≠ h_9.size := Nat.ne_of_lt bx_33.lt
    have o_35 : h0.size ≤ h_9.size := k0.le
    have oh_35 : h.size ≤ h_9.size := kh.le
    have lt_35 := bx_35.lt
    have m_10 := k_10.tame
    have bx7 := bx7.keep k_10
    have bx9 := bx9.keep k_10
    have bx11 := bx11.keep k_10
    have bx13 := bx13.keep k_10
    have bx_31 := bx_31.keep k_10
    have bx_33 := bx_33.keep k_10
    have k0 := k0.trans k_10
    have kh := kh.trans k_10
    refine stA bx_35 (base_add _ _) rfl fun h_11 bx_35 k_11 m_11 => ?_
    have bx7 := bx7.keepB d7q_35 k_11
    have bx9 := bx9.keepB d9q_35 k_11
    have bx11 := bx11.keepB d11q_35 k_11
    have bx13 := bx13.keepB d13q_35 k_11
    have bx_31 := bx_31.keepB d_31q_35 k_11
    have bx_33 := bx_33.keepB d_33q_35 k_11
    have k0 := KeepB.keep k0 k_11 o_35
    have kh := KeepB.keep kh k_11 oh_35
    refine stA bx_35 (base_add _ _) rfl fun h_12 bx_35 k_12 m_12 => ?_
    have bx7 := bx7.keepB d7q_35 k_12
    have bx9 := bx9.keepB d9q_35 k_12
    have bx11 := bx11.keepB d11q_35 k_12
    have bx13 := bx13.keepB d13q_35 k_12
    have bx_31 := bx_31.keepB d_31q_35 k_12
    have bx_33 := bx_33.keepB d_33q_35 k_12
    have k0 := KeepB.keep k0 k_12 o_35
    have kh := KeepB.keep kh k_12 oh_35
    refine ldA bx7 (base_add _ _) rfl ?_
    refine gBool_intro rfl ?_
    refine ldA bx7 (base_add _ _) rfl ?_
    refine gSlice_intro rfl ?_
    refine hc_intro (num_NearShr.hs (r7_1.tame (m_1.trans (m_2.trans (m_3.trans (m_4.trans (m_5.trans (m_6.trans (m_7.trans (m_8.trans (m_9.trans (m_10.trans (m_11.trans m_12)))))))))))).rd64 rfl i2 (tb.tame (m_1.trans (m_2.trans (m_3.trans (m_4.trans (m_5.trans (m_6.trans (m_7.trans (m_8.trans (m_9.trans (m_10.trans (m_11.trans m_12))))))))))))) fun v h_13 ⟨k_13, s⟩ => ?_
    obtain ⟨p_36, hp_36⟩ : ∃ p, p = shrZ nea (b7_0, xs7_1) x2 := ⟨_, rfl⟩
    rw [← hp_36] at s
    replace g := lift_let2 hp_36 g
    obtain ⟨_, _, rfl, ⟨a_36_0, c_36_0, rfl, r_36_0⟩, ⟨rfl, i_36_1⟩⟩ := s
    refine gTup_intro rfl (uncons_intro (gAgg_intro rfl (uncons_intro (gBool_intro rfl (uncons_intro (gSlice_intro rfl (unnil_intro (uncons_intro (gInt_intro rfl (unnil_intro (?_)))))))))))
    have r_36_0 := r_36_0.from k0.le
    have m_13 := k_13.tame
    have bx7 := bx7.keep k_13
    have bx9 := bx9.keep k_13
    have bx11 := bx11.keep k_13
    have bx13 := bx13.keep k_13
    have bx_31 := bx_31.keep k_13
    have bx_33 := bx_33.keep k_13
    have bx_35 := bx_35.keep k_13
    have k0 := k0.trans k_13
    have kh := kh.trans k_13
    refine boxV fun h_14 bx_37 k_14 => ?_
    have d7q_37 : B7 ≠ h_13.size := Nat.ne_of_lt bx7.lt
    have d9q_37 : B9 ≠ h_13.size := Nat.ne_of_lt bx9.lt
    have d11q_37 : B11 ≠ h_13.size := Nat.ne_of_lt bx11.lt
    have d13q_37 : B13 ≠ h_13.size := Nat.ne_of_lt bx13.lt
    have d_31q_37 : h_1.size ≠ h_13.size := Nat.ne_of_lt bx_31.lt
    have d_33q_37 : h_5.size ≠ h_13.size := Nat.ne_of_lt bx_33.lt
    have d_35q_37 : h_9.size ≠ h_13.size := Nat.ne_of_lt bx_35.lt
    have o_37 : h0.size ≤ h_13.size := k0.le
    have oh_37 : h.size ≤ h_13.size := kh.le
    have lt_37 := bx_37.lt
    have m_14 := k_14.tame
    have bx7 := bx7.keep k_14
    have bx9 := bx9.keep k_14
    have bx11 := bx11.keep k_14
    have bx13 := bx13.keep k_14
    have bx_31 := bx_31.keep k_14
    have bx_33 := bx_33.keep k_14
    have bx_35 := bx_35.keep k_14
    have k0 := k0.trans k_14
    have kh := kh.trans k_14
    refine stA bx_37 (base_add _ _) rfl fun h_15 bx_37 k_15 m_15 => ?_
    have bx7 := bx7.keepB d7q_37 k_15
    have bx9 := bx9.keepB d9q_37 k_15
    have bx11 := bx11.keepB d11q_37 k_15
    have bx13 := bx13.keepB d13q_37 k_15
    have bx_31 := bx_31.keepB d_31q_37 k_15
    have bx_33 := bx_33.keepB d_33q_37 k_15
    have bx_35 := bx_35.keepB d_35q_37 k_15
    have k0 := KeepB.keep k0 k_15 o_37
    have kh := KeepB.keep kh k_15 oh_37
    refine stA bx_37 (base_add _ _) rfl fun h_16 bx_37 k_16 m_16 => ?_
    have bx7 := bx7.keepB d7q_37 k_16
    have bx9 := bx9.keepB d9q_37 k_16
    have bx11 := bx11.keepB d11q_37 k_16
    have bx13 := bx13.keepB d13q_37 k_16
    have bx_31 := bx_31.keepB d_31q_37 k_16
    have bx_33 := bx_33.keepB d_33q_37 k_16
    have bx_35 := bx_35.keepB d_35q_37 k_16
    have k0 := KeepB.keep k0 k_16 o_37
    have kh := KeepB.keep kh k_16 oh_37
    refine ldA bx_33 (base_add _ _) rfl ?_
    refine gBool_intro rfl ?_
    refine ldA bx_33 (base_add _ _) rfl ?_
    refine gSlice_intro rfl ?_
    refine hc_intro (num_Neg.hs (r_32_0.tame (m_6.trans (m_7.trans (m_8.trans (m_9.trans (m_10.trans (m_11.trans (m_12.trans (m_13.trans (m_14.trans (m_15.trans m_16))))))))))).rd64 rfl) fun v h_17 ⟨k_17, s⟩ => ?_
    obtain ⟨p_38, hp_38⟩ : ∃ p, p = negZ (p_32.1.1, p_32.1.2) := ⟨_, rfl⟩
    rw [← hp_38] at s
    replace g := lift_let2 hp_38 g
    obtain ⟨_, _, rfl, ⟨a_38_0, c_38_0, rfl, r_38_0⟩, ⟨rfl, i_38_1⟩⟩ := s
    refine gTup_intro rfl (uncons_intro (gAgg_intro rfl (uncons_intro (gBool_intro rfl (uncons_intro (gSlice_intro rfl (unnil_intro (uncons_intro (gInt_intro rfl (unnil_intro (?_)))))))))))
    have r_38_0 := r_38_0.from k0.le
    have m_17 := k_17.tame
    have bx7 := bx7.keep k_17
    have bx9 := bx9.keep k_17
    have bx11 := bx11.keep k_17
    have bx13 := bx13.keep k_17
    have bx_31 := bx_31.keep k_17
    have bx_33 := bx_33.keep k_17
    have bx_35 := bx_35.keep k_17
    have bx_37 := bx_37.keep k_17
    have k0 := k0.trans k_17
    have kh := kh.trans k_17
    refine boxV fun h_18 bx_39 k_18 => ?_
    have d7q_39 : B7 ≠ h_17.size := Nat.ne_of_lt bx7.lt
    have d9q_39 : B9 ≠ h_17.size := Nat.ne_of_lt bx9.lt
    have d11q_39 : B11 ≠ h_17.size := Nat.ne_of_lt bx11.lt
    have d13q_39 : B13 ≠ h_17.size := Nat.ne_of_lt bx13.lt
    have d_31q_39 : h_1.size ≠ h_17.size := Nat.ne_of_lt bx_31.lt
    have d_33q_39 : h_5.size ≠ h_17.size := Nat.ne_of_lt bx_33.lt
    have d_35q_39 : h_9.size ≠ h_17.size := Nat.ne_of_lt bx_35.lt
    have d_37q_39 : h_13.size ≠ h_17.size := Nat.ne_of_lt bx_37.lt
    have o_39 : h0.size ≤ h_17.size := k0.le
    have oh_39 : h.size ≤ h_17.size := kh.le
    have lt_39 := bx_39.lt
    have m_18 := k_18.tame
    have bx7 := bx7.keep k_18
    have bx9 := bx9.keep k_18
    have bx11 := bx11.keep k_18
    have bx13 := bx13.keep k_18
    have bx_31 := bx_31.keep k_18
    have bx_33 := bx_33.keep k_18
    have bx_35 := bx_35.keep k_18
    have bx_37 := bx_37.keep k_18
    have k0 := k0.trans k_18
    have kh := kh.trans k_18
    refine stA bx_39 (base_add _ _) rfl fun h_19 bx_39 k_19 m_19 => ?_
    have bx7 := bx7.keepB d7q_39 k_19
    have bx9 := bx9.keepB d9q_39 k_19
    have bx11 := bx11.keepB d11q_39 k_19
    have bx13 := bx13.keepB d13q_39 k_19
    have bx_31 := bx_31.keepB d_31q_39 k_19
    have bx_33 := bx_33.keepB d_33q_39 k_19
    have bx_35 := bx_35.keepB d_35q_39 k_19
    have bx_37 := bx_37.keepB d_37q_39 k_19
    have k0 := KeepB.keep k0 k_19 o_39
    have kh := KeepB.keep kh k_19 oh_39
    refine stA bx_39 (base_add _ _) rfl fun h_20 bx_39 k_20 m_20 => ?_
    have bx7 := bx7.keepB d7q_39 k_20
    have bx9 := bx9.keepB d9q_39 k_20
    have bx11 := bx11.keepB d11q_39 k_20
    have bx13 := bx13.keepB d13q_39 k_20
    have bx_31 := bx_31.keepB d_31q_39 k_20
    have bx_33 := bx_33.keepB d_33q_39 k_20
    have bx_35 := bx_35.keepB d_35q_39 k_20
    have bx_37 := bx_37.keepB d_37q_39 k_20
    have k0 := KeepB.keep k0 k_20 o_39
    have kh := KeepB.keep kh k_20 oh_39
    refine ldA bx_37 (base_add _ _) rfl ?_
    refine gBool_intro rfl ?_
    refine ldA bx_37 (base_add _ _) rfl ?_
    refine gSlice_intro rfl ?_
    refine hc_intro (num_Neg.hs (r_36_0.tame (m_14.trans (m_15.trans (m_16.trans (m_17.trans (m_18.trans (m_19.trans m_20))))))).rd64 rfl) fun v h_21 ⟨k_21, s⟩ => ?_
    obtain ⟨p_40, hp_40⟩ : ∃ p, p = negZ (p_36.1.1, p_36.1.2) := ⟨_, rfl⟩
    rw [← hp_40] at s
    replace g := lift_let2 hp_40 g
    obtain ⟨_, _, rfl, ⟨a_40_0, c_40_0, rfl, r_40_0⟩, ⟨rfl, i_40_1⟩⟩ := s
    refine gTup_intro rfl (uncons_intro (gAgg_intro rfl (uncons_intro (gBool_intro rfl (uncons_intro (gSlice_intro rfl (unnil_intro (uncons_intro (gInt_intro rfl (unnil_intro (?_)))))))))))
    have r_40_0 := r_40_0.from k0.le
    have m_21 := k_21.tame
    have bx7 := bx7.keep k_21
    have bx9 := bx9.keep k_21
    have bx11 := bx11.keep k_21
    have bx13 := bx13.keep k_21
    have bx_31 := bx_31.keep k_21
    have bx_33 := bx_33.keep k_21
    have bx_35 := bx_35.keep k_21
    have bx_37 := bx_37.keep k_21
    have bx_39 := bx_39.keep k_21
    have k0 := k0.trans k_21
    have kh := kh.trans k_21
    refine boxV fun h_22 bx_41 k_22 => ?_
    have d7q_41 : B7 ≠ h_21.size := Nat.ne_of_lt bx7.lt
    have d9q_41 : B9 ≠ h_21.size := Nat.ne_of_lt bx9.lt
    have d11q_41 : B11 ≠ h_21.size := Nat.ne_of_lt bx11.lt
    have d13q_41 : B13 ≠ h_21.size := Nat.ne_of_lt bx13.lt
    have d_31q_41 : h_1.size ≠ h_21.size := Nat.ne_of_lt bx_31.lt
    have d_33q_41 : h_5.size ≠ h_21.size := Nat.ne_of_lt bx_33.lt
    have d_35q_41 : h_9.size ≠ h_21.size := Nat.ne_of_lt bx_35.lt
    have d_37q_41 : h_13.size ≠ h_21.size := Nat.ne_of_lt bx_37.lt
    have d_39q_41 : h_17.size ≠ h_21.size := Nat.ne_of_lt bx_39.lt
    have o_41 : h0.size ≤ h_21.size := k0.le
    have oh_41 : h.size ≤ h_21.size := kh.le
    have lt_41 := bx_41.lt
    have m_22 := k_22.tame
    have bx7 := bx7.keep k_22
    have bx9 := bx9.keep k_22
    have bx11 := bx11.keep k_22
    have bx13 := bx13.keep k_22
    have bx_31 := bx_31.keep k_22
    have bx_33 := bx_33.keep k_22
    have bx_35 := bx_35.keep k_22
    have bx_37 := bx_37.keep k_22
    have bx_39 := bx_39.keep k_22
    have k0 := k0.trans k_22
    have kh := kh.trans k_22
    refine stA bx_41 (base_add _ _) rfl fun h_23 bx_41 k_23 m_23 => ?_
    have bx7 := bx7.keepB d7q_41 k_23
    have bx9 := bx9.keepB d9q_41 k_23
    have bx11 := bx11.keepB d11q_41 k_23
    have bx13 := bx13.keepB d13q_41 k_23
    have bx_31 := bx_31.keepB d_31q_41 k_23
    have bx_33 := bx_33.keepB d_33q_41 k_23
    have bx_35 := bx_35.keepB d_35q_41 k_23
    have bx_37 := bx_37.keepB d_37q_41 k_23
    have bx_39 := bx_39.keepB d_39q_41 k_23
    have k0 := KeepB.keep k0 k_23 o_41
    have kh := KeepB.keep kh k_23 oh_41
    refine stA bx_41 (base_add _ _) rfl fun h_24 bx_41 k_24 m_24 => ?_
    have bx7 := bx7.keepB d7q_41 k_24
    have bx9 := bx9.keepB d9q_41 k_24
    have bx11 := bx11.keepB d11q_41 k_24
    have bx13 := bx13.keepB d13q_41 k_24
    have bx_31 := bx_31.keepB d_31q_41 k_24
    have bx_33 := bx_33.keepB d_33q_41 k_24
    have bx_35 := bx_35.keepB d_35q_41 k_24
    have bx_37 := bx_37.keepB d_37q_41 k_24
    have bx_39 := bx_39.keepB d_39q_41 k_24
    have k0 := KeepB.keep k0 k_24 o_41
    have kh := KeepB.keep kh k_24 oh_41
    refine lift_ne g (fun q_42 g => ?_) (fun q_42 g => ?_)
    · exact g _ _ k0 rfl
    · refine lift_ne g (fun q_43 g => ?_) (fun q_43 g => ?_)
      · exact g _ _ k0 rfl
      · refine lift_ne g (fun q_44 g => ?_) (fun q_44 g => ?_)
        · exact g _ _ k0 rfl
        · refine lift_ne g (fun q_45 g => ?_) (fun q_45 g => ?_)
          · exact g _ _ k0 rfl
          · refine lift_ne g (fun q_46 g => ?_) (fun q_46 g => ?_)
            · exact g _ _ k0 rfl
            · refine lift_ne g (fun q_47 g => ?_) (fun q_47 g => ?_)
              · exact g _ _ k0 rfl
              · refine ldA bx_31 (base_add _ _) rfl ?_
                refine gBool_intro rfl ?_
                refine ldA bx_31 (base_add _ _) rfl ?_
                refine gSlice_intro rfl ?_
                refine ldA bx_39 (base_add _ _) rfl ?_
                refine gBool_intro rfl ?_
                refine ldA bx_39 (base_add _ _) rfl ?_
                refine gSlice_intro rfl ?_
                refine hc_intro (gnomonlaw04_same.hs (r_30_0.tame (m_2.trans (m_3.trans (m_4.trans (m_5.trans (m_6.trans (m_7.trans (m_8.trans (m_9.trans (m_10.trans (m_11.trans (m_12.trans (m_13.trans (m_14.trans (m_15.trans (m_16.trans (m_17.trans (m_18.trans (m_19.trans (m_20.trans (m_21.trans (m_22.trans (m_23.trans m_24))))))))))))))))))))))).rd64 rfl (r_38_0.tame (m_18.trans (m_19.trans (m_20.trans (m_21.trans (m_22.trans (m_23.trans m_24))))))).rd64 rfl) fun v h_25 ⟨k_25, s⟩ => ?_
                obtain rfl := s
                refine gBool_intro rfl (?_)
                have m_25 := k_25.tame
                have bx7 := bx7.keep k_25
                have bx9 := bx9.keep k_25
                have bx11 := bx11.keep k_25
                have bx13 := bx13.keep k_25
                have bx_31 := bx_31.keep k_25
                have bx_33 := bx_33.keep k_25
                have bx_35 := bx_35.keep k_25
                have bx_37 := bx_37.keep k_25
                have bx_39 := bx_39.keep k_25
                have bx_41 := bx_41.keep k_25
                have k0 := k0.trans k_25
                have kh := kh.trans k_25
                refine lift_not g (fun q_49 g => ?_) (fun q_49 g => ?_)
                · exact g _ _ k0 rfl
                · refine ldA bx_35 (base_add _ _) rfl ?_
                  refine gBool_intro rfl ?_
                  refine ldA bx_35 (base_add _ _) rfl ?_
                  refine gSlice_intro rfl ?_
                  refine ldA bx_41 (base_add _ _) rfl ?_
                  refine gBool_intro rfl ?_
                  refine ldA bx_41 (base_add _ _) rfl ?_
                  refine gSlice_intro rfl ?_
                  refine hc_intro (gnomonlaw04_same.hs (r_34_0.tame (m_10.trans (m_11.trans (m_12.trans (m_13.trans (m_14.trans (m_15.trans (m_16.trans (m_17.trans (m_18.trans (m_19.trans (m_20.trans (m_21.trans (m_22.trans (m_23.trans (m_24.trans m_25)))))))))))))))).rd64 rfl (r_40_0.tame (m_22.trans (m_23.trans (m_24.trans m_25)))).rd64 rfl) fun v h_26 ⟨k_26, s⟩ => ?_
                  obtain rfl := s
                  refine gBool_intro rfl (?_)
                  have m_26 := k_26.tame
                  have bx7 := bx7.keep k_26
                  have bx9 := bx9.keep k_26
                  have bx11 := bx11.keep k_26
                  have bx13 := bx13.keep k_26
                  have bx_31 := bx_31.keep k_26
                  have bx_33 := bx_33.keep k_26
                  have bx_35 := bx_35.keep k_26
                  have bx_37 := bx_37.keep k_26
                  have bx_39 := bx_39.keep k_26
                  have bx_41 := bx_41.keep k_26
                  have k0 := k0.trans k_26
                  have kh := kh.trans k_26
                  refine lift_not g (fun q_51 g => ?_) (fun q_51 g => ?_)
                  · exact g _ _ k0 rfl
                  · exact D5.hv k0 (r7_1.tame (m_1.trans (m_2.trans (m_3.trans (m_4.trans (m_5.trans (m_6.trans (m_7.trans (m_8.trans (m_9.trans (m_10.trans (m_11.trans (m_12.trans (m_13.trans (m_14.trans (m_15.trans (m_16.trans (m_17.trans (m_18.trans (m_19.trans (m_20.trans (m_21.trans (m_22.trans (m_23.trans (m_24.trans (m_25.trans m_26)))))))))))))))))))))))))) bx7 o7 (r9_1.tame (m_1.trans (m_2.trans (m_3.trans (m_4.trans (m_5.trans (m_6.trans (m_7.trans (m_8.trans (m_9.trans (m_10.trans (m_11.trans (m_12.trans (m_13.trans (m_14.trans (m_15.trans (m_16.trans (m_17.trans (m_18.trans (m_19.trans (m_20.trans (m_21.trans (m_22.trans (m_23.trans (m_24.trans (m_25.trans m_26)))))))))))))))))))))))))) bx9 o9 (r13_1.tame (m_1.trans (m_2.trans (m_3.trans (m_4.trans (m_5.trans (m_6.trans (m_7.trans (m_8.trans (m_9.trans (m_10.trans (m_11.trans (m_12.trans (m_13.trans (m_14.trans (m_15.trans (m_16.trans (m_17.trans (m_18.trans (m_19.trans (m_20.trans (m_21.trans (m_22.trans (m_23.trans (m_24.trans (m_25.trans m_26)))))))))))))))))))))))))) bx13 o13 d7q9 d7q13 d9q13 (tb.tame (m_1.trans (m_2.trans (m_3.trans (m_4.trans (m_5.trans (m_6.trans (m_7.trans (m_8.trans (m_9.trans (m_10.trans (m_11.trans (m_12.trans (m_13.trans (m_14.trans (m_15.trans (m_16.trans (m_17.trans (m_18.trans (m_19.trans (m_20.trans (m_21.trans (m_22.trans (m_23.trans (m_24.trans (m_25.trans m_26)))))))))))))))))))))))))) g
def D3.v (x2 : Int) (b7_0 : Bool) (xs7_1 : List Nat) (b9_0 : Bool) (xs9_1 : List Nat) : Bool :=
  letV (negZ (b7_0, xs7_1)) fun p_13 =>
  letV (negZ (b9_0, xs9_1)) fun p_15 =>
  letV (negZ (p_13.1.1, p_13.1.2)) fun p_17 =>
  bif (p_13.2 != (0 : Int)) then
    false
  else
    bif (p_15.2 != (0 : Int)) then
      false
    else
      bif (p_17.2 != (0 : Int)) then
        false
      else
        bif (!(decide ((p_17.1.1, p_17.1.2) = (b7_0, xs7_1)))) then
          false
        else
          bif (((cmpZ (zi (p_13.1.1, p_13.1.2)) 0)) != ((IntKind.i64.wrap (0 - ((cmpZ (zi (b7_0, xs7_1)) 0)))))) then
            false
          else
            D4.v x2 b7_0 xs7_1 b9_0 xs9_1 p_13.1.1 p_13.1.2 p_15.1.1 p_15.1.2
theorem D3.hv {R : Rt} {h0 h : Hp} (k0 : Keep h0 h) {x2 : Int} (i2 : In .i64 x2) {b7_0 : Bool} {a7_1 : Option Addr} {c7_1 : Nat} {xs7_1 : List Nat} (r7_1 : GotE eU64 h0 h a7_1 c7_1 xs7_1) {B7 : Nat} (bx7 : BlkV h B7 [.bool b7_0, .slice a7_1 xs7_1.length c7_1]) (o7 : h0.size ≤ B7) {b9_0 : Bool} {a9_1 : Option Addr} {c9_1 : Nat} {xs9_1 : List Nat} (r9_1 : GotE eU64 h0 h a9_1 c9_1 xs9_1) {B9 : Nat} (bx9 : BlkV h B9 [.bool b9_0, .slice a9_1 xs9_1.length c9_1]) (o9 : h0.size ≤ B9) (d7q9 : B7 ≠ B9) (tb : Tab h) (g : Post sBool h0 R (D3.v x2 b7_0 xs7_1 b9_0 xs9_1)) : D3.t R x2 (⟨B7, 0, none⟩ : Addr) (⟨B9, 0, none⟩ : Addr) h := by
  have kh := Keep.refl h
  have lt7 := bx7.lt
  have lt9 := bx9.lt
  unfold D3.v at g
  unfold D3.t
  refine ldA bx7 (base_add _ _) rfl ?_
  refine gBool_intro rfl ?_
  refine ldA bx7 (base_add _ _) rfl ?_
  refine gSlice_intro rfl ?_
  refine hc_intro (num_Neg.hs r7_1.rd64 rfl) fun v h_1 ⟨k_1, s⟩ => ?_
  obtain ⟨p_13, hp_13⟩ : ∃ p, p = negZ (b7_0, xs7_1) := ⟨_, rfl⟩
  rw [← hp_13] at s
  replace g := lift_let2 hp_13 g
  obtain ⟨_, _, rfl, ⟨a_13_0, c_13_0, rfl, r_13_0⟩, ⟨rfl, i_13_1⟩⟩ := s
  refine gTup_intro rfl (uncons_intro (gAgg_intro rfl (uncons_intro (gBool_intro rfl (uncons_intro (gSlice_intro rfl (unnil_intro (uncons_intro (gInt_intro rfl (unnil_intro (?_)))))))))))
  have r_13_0 := r_13_0.from k0.le
  have m_1 := k_1.tame
  have bx7 := bx7.keep k_1
  have bx9 := bx9.keep k_1
  have k0 := k0.trans k_1
  have kh := kh.trans k_1
  refine boxV fun h_2 bx_14 k_2 => ?_
  have d7q_14 : B7 ≠ h_1.size := Nat.ne_of_lt bx7.lt
  have d9q_14 : B9 ≠ h_1.size := Nat.ne_of_lt bx9.lt
  have o_14 : h0.size ≤ h_1.size := k0.le
  have oh_14 : h.size ≤ h_1.size := kh.le
  have lt_14 := bx_14.lt
  have m_2 := k_2.tame
  have bx7 := bx7.keep k_2
  have bx9 := bx9.keep k_2
  have k0 := k0.trans k_2
  have kh := kh.trans k_2
  refine stA bx_14 (base_add _ _) rfl fun h_3 bx_14 k_3 m_3 => ?_
  have bx7 := bx7.keepB d7q_14 k_3
  have bx9 := bx9.keepB d9q_14 k_3
  have k0 := KeepB.keep k0 k_3 o_14
  have kh := KeepB.keep kh k_3 oh_14
  refine stA bx_14 (base_add _ _) rfl fun h_4 bx_14 k_4 m_4 => ?_
  have bx7 := bx7.keepB d7q_14 k_4
  have bx9 := bx9.keepB d9q_14 k_4
  have k0 := KeepB.keep k0 k_4 o_14
  have kh := KeepB.keep kh k_4 oh_14
  refine ldA bx9 (base_add _ _) rfl ?_
  refine gBool_intro rfl ?_
  refine ldA bx9 (base_add _ _) rfl ?_
  refine gSlice_intro rfl ?_
  refine hc_intro (num_Neg.hs (r9_1.tame (m_1.trans (m_2.trans (m_3.trans m_4)))).rd64 rfl) fun v h_5 ⟨k_5, s⟩ => ?_
  obtain ⟨p_15, hp_15⟩ : ∃ p, p = negZ (b9_0, xs9_1) := ⟨_, rfl⟩
  rw [← hp_15] at s
  replace g := lift_let2 hp_15 g
  obtain ⟨_, _, rfl, ⟨a_15_0, c_15_0, rfl, r_15_0⟩, ⟨rfl, i_15_1⟩⟩ := s
  refine gTup_intro rfl (uncons_intro (gAgg_intro rfl (uncons_intro (gBool_intro rfl (uncons_intro (gSlice_intro rfl (unnil_intro (uncons_intro (gInt_intro rfl (unnil_intro (?_)))))))))))
  have r_15_0 := r_15_0.from k0.le
  have m_5 := k_5.tame
  have bx7 := bx7.keep k_5
  have bx9 := bx9.keep k_5
  have bx_14 := bx_14.keep k_5
  have k0 := k0.trans k_5
  have kh := kh.trans k_5
  refine boxV fun h_6 bx_16 k_6 => ?_
  have d7q_16 : B7 ≠ h_5.size := Nat.ne_of_lt bx7.lt
  have d9q_16 : B9 ≠ h_5.size := Nat.ne_of_lt bx9.lt
  have d_14q_16 : h_1.size ≠ h_5.size := Nat.ne_of_lt bx_14.lt
  have o_16 : h0.size ≤ h_5.size := k0.le
  have oh_16 : h.size ≤ h_5.size := kh.le
  have lt_16 := bx_16.lt
  have m_6 := k_6.tame
  have bx7 := bx7.keep k_6
  have bx9 := bx9.keep k_6
  have bx_14 := bx_14.keep k_6
  have k0 := k0.trans k_6
  have kh := kh.trans k_6
  refine stA bx_16 (base_add _ _) rfl fun h_7 bx_16 k_7 m_7 => ?_
  have bx7 := bx7.keepB d7q_16 k_7
  have bx9 := bx9.keepB d9q_16 k_7
  have bx_14 := bx_14.keepB d_14q_16 k_7
  have k0 := KeepB.keep k0 k_7 o_16
  have kh := KeepB.keep kh k_7 oh_16
  refine stA bx_16 (base_add _ _) rfl fun h_8 bx_16 k_8 m_8 => ?_
  have bx7 := bx7.keepB d7q_16 k_8
  have bx9 := bx9.keepB d9q_16 k_8
  have bx_14 := bx_14.keepB d_14q_16 k_8
  have k0 := KeepB.keep k0 k_8 o_16
  have kh := KeepB.keep kh k_8 oh_16
  refine ldA bx_14 (base_add _ _) rfl ?_
  refine gBool_intro rfl ?_
  refine ldA bx_14 (base_add _ _) rfl ?_
  refine gSlice_intro rfl ?_
  refine hc_intro (num_Neg.hs (r_13_0.tame (m_2.trans (m_3.trans (m_4.trans (m_5.trans (m_6.trans (m_7.trans m_8))))))).rd64 rfl) fun v h_9 ⟨k_9, s⟩ => ?_
  obtain ⟨p_17, hp_17⟩ : ∃ p, p = negZ (p_13.1.1, p_13.1.2) := ⟨_, rfl⟩
  rw [← hp_17] at s
  replace g := lift_let2 hp_17 g
  obtain ⟨_, _, rfl, ⟨a_17_0, c_17_0, rfl, r_17_0⟩, ⟨rfl, i_17_1⟩⟩ := s
  refine gTup_intro rfl (uncons_intro (gAgg_intro rfl (uncons_intro (gBool_intro rfl (uncons_intro (gSlice_intro rfl (unnil_intro (uncons_intro (gInt_intro rfl (unnil_intro (?_)))))))))))
  have r_17_0 := r_17_0.from k0.le
  have m_9 := k_9.tame
  have bx7 := bx7.keep k_9
  have bx9 := bx9.keep k_9
  have bx_14 := bx_14.keep k_9
  have bx_16 := bx_16.keep k_9
  have k0 := k0.trans k_9
  have kh := kh.trans k_9
  refine boxV fun h_10 bx_18 k_10 => ?_
  have d7q_18 : B7 ≠ h_9.size := Nat.ne_of_lt bx7.lt
  have d9q_18 : B9 ≠ h_9.size := Nat.ne_of_lt bx9.lt
  have d_14q_18 : h_1.size ≠ h_9.size := Nat.ne_of_lt bx_14.lt
  have d_16q_18 : h_5.size ≠ h_9.size := Nat.ne_of_lt bx_16.lt
  have o_18 : h0.size ≤ h_9.size := k0.le
  have oh_18 : h.size ≤ h_9.size := kh.le
  have lt_18 := bx_18.lt
  have m_10 := k_10.tame
  have bx7 := bx7.keep k_10
  have bx9 := bx9.keep k_10
  have bx_14 := bx_14.keep k_10
  have bx_16 := bx_16.keep k_10
  have k0 := k0.trans k_10
  have kh := kh.trans k_10
  refine stA bx_18 (base_add _ _) rfl fun h_11 bx_18 k_11 m_11 => ?_
  have bx7 := bx7.keepB d7q_18 k_11
  have bx9 := bx9.keepB d9q_18 k_11
  have bx_14 := bx_14.keepB d_14q_18 k_11
  have bx_16 := bx_16.keepB d_16q_18 k_11
  have k0 := KeepB.keep k0 k_11 o_18
  have kh := KeepB.keep kh k_11 oh_18
  refine stA bx_18 (base_add _ _) rfl fun h_12 bx_18 k_12 m_12 => ?_
  have bx7 := bx7.keepB d7q_18 k_12
  have bx9 := bx9.keepB d9q_18 k_12
  have bx_14 := bx_14.keepB d_14q_18 k_12
  have bx_16 := bx_16.keepB d_16q_18 k_12
  have k0 := KeepB.keep k0 k_12 o_18
  have kh := KeepB.keep kh k_12 oh_18
  refine lift_ne g (fun q_19 g => ?_) (fun q_19 g => ?_)
  · exact g _ _ k0 rfl
  · refine lift_ne g (fun q_20 g => ?_) (fun q_20 g => ?_)
    · exact g _ _ k0 rfl
    · refine lift_ne g (fun q_21 g => ?_) (fun q_21 g => ?_)
      · exact g _ _ k0 rfl
      · refine ⟨blkLt rfl ((m_11.trans m_12).lt lt_18), ?_⟩
        refine ldA bx_18 (base_add _ _) rfl ?_
        refine gBool_intro rfl ?_
        refine ldA bx_18 (base_add _ _) rfl ?_
        refine gSlice_intro rfl ?_
        refine ⟨blkLt rfl ((m_1.trans (m_2.trans (m_3.trans (m_4.trans (m_5.trans (m_6.trans (m_7.trans (m_8.trans (m_9.trans (m_10.trans (m_11.trans m_12))))))))))).lt lt7), ?_⟩
        refine ldA bx7 (base_add _ _) rfl ?_
        refine gBool_intro rfl ?_
        refine ldA bx7 (base_add _ _) rfl ?_
        refine gSlice_intro rfl ?_
        refine hc_intro (gnomonlaw04_same.hs (r_17_0.tame (m_10.trans (m_11.trans m_12))).rd64 rfl (r7_1.tame (m_1.trans (m_2.trans (m_3.trans (m_4.trans (m_5.trans (m_6.trans (m_7.trans (m_8.trans (m_9.trans (m_10.trans (m_11.trans m_12)))))))))))).rd64 rfl) fun v h_13 ⟨k_13, s⟩ => ?_
        obtain rfl := s
        refine gBool_intro rfl (?_)
        have m_13 := k_13.tame
        have bx7 := bx7.keep k_13
        have bx9 := bx9.keep k_13
        have bx_14 := bx_14.keep k_13
        have bx_16 := bx_16.keep k_13
        have bx_18 := bx_18.keep k_13
        have k0 := k0.trans k_13
        have kh := kh.trans k_13
        refine ⟨k_13.preLe (Nat.le_refl _), ?_⟩
        refine lift_not g (fun q_23 g => ?_) (fun q_23 g => ?_)
        · exact g _ _ k0 rfl
        · refine ⟨blkLt rfl ((m_3.trans (m_4.trans (m_5.trans (m_6.trans (m_7.trans (m_8.trans (m_9.trans (m_10.trans (m_11.trans m_12))))))))).lt lt_14), ?_⟩
          refine ldA bx_14 (base_add _ _) rfl ?_
          refine gBool_intro rfl ?_
          refine ldA bx_14 (base_add _ _) rfl ?_
          refine gSlice_intro rfl ?_
          refine hc_intro (num_Sign.hs (r_13_0.tame (m_2.trans (m_3.trans (m_4.trans (m_5.trans (m_6.trans (m_7.trans (m_8.trans (m_9.trans (m_10.trans (m_11.trans (m_12.trans m_13)))))))))))).rd64 rfl) fun v h_14 ⟨k_14, s⟩ => ?_
          obtain ⟨rfl, i_24⟩ := s
          refine gInt_intro rfl (?_)
          have m_14 := k_14.tame
          have bx7 := bx7.keep k_14
          have bx9 := bx9.keep k_14
          have bx_14 := bx_14.keep k_14
          have bx_16 := bx_16.keep k_14
          have bx_18 := bx_18.keep k_14
          have k0 := k0.trans k_14
          have kh := kh.trans k_14
          refine ⟨k_14.preLe (m_13).le, ?_⟩
          refine ⟨blkLt rfl ((m_1.trans (m_2.trans (m_3.trans (m_4.trans (m_5.trans (m_6.trans (m_7.trans (m_8.trans (m_9.trans (m_10.trans (m_11.trans m_12))))))))))).lt lt7), ?_⟩
          refine ldA bx7 (base_add _ _) rfl ?_
          refine gBool_intro rfl ?_
          refine ldA bx7 (base_add _ _) rfl ?_
          refine gSlice_intro rfl ?_
          refine hc_intro (num_Sign.hs (r7_1.tame (m_1.trans (m_2.trans (m_3.trans (m_4.trans (m_5.trans (m_6.trans (m_7.trans (m_8.trans (m_9.trans (m_10.trans (m_11.trans (m_12.trans (m_13.trans m_14)))))))))))))).rd64 rfl) fun v h_15 ⟨k_15, s⟩ => ?_
          obtain ⟨rfl, i_25⟩ := s
          refine gInt_intro rfl (?_)
          have m_15 := k_15.tame
          have bx7 := bx7.keep k_15
          have bx9 := bx9.keep k_15
          have bx_14 := bx_14.keep k_15
          have bx_16 := bx_16.keep k_15
          have bx_18 := bx_18.keep k_15
          have k0 := k0.trans k_15
          have kh := kh.trans k_15
          refine ⟨k_15.preLe (m_13.trans m_14).le, ?_⟩
          refine letK_out ?_
          refine lift_ne g (fun q_26 g => ?_) (fun q_26 g => ?_)
          · exact g _ _ k0 rfl
          · exact D4.hv k0 i2 (r7_1.tame (m_1.trans (m_2.trans (m_3.trans (m_4.trans (m_5.trans (m_6.trans (m_7.trans (m_8.trans (m_9.trans (m_10.trans (m_11.trans (m_12.trans (m_13.trans (m_14.trans m_15))))))))))))))) bx7 o7 (r9_1.tame (m_1.trans (m_2.trans (m_3.trans (m_4.trans (m_5.trans (m_6.trans (m_7.trans (m_8.trans (m_9.trans (m_10.trans (m_11.trans (m_12.trans (m_13.trans (m_14.trans m_15))))))))))))))) bx9 o9 (r_13_0.tame (m_2.trans (m_3.trans (m_4.trans (m_5.trans (m_6.trans (m_7.trans (m_8.trans (m_9.trans (m_10.trans (m_11.trans (m_12.trans (m_13.trans (m_14.trans m_15)))))))))))))) bx_14 o_14 (r_15_0.tame (m_6.trans (m_7.trans (m_8.trans (m_9.trans (m_10.trans (m_11.trans (m_12.trans (m_13.trans (m_14.trans m_15)))))))))) bx_16 o_16 d7q9 d7q_14 d7q_16 d9q_14 d9q_16 d_14q_16 (tb.tame (m_1.trans (m_2.trans (m_3.trans (m_4.trans (m_5.trans (m_6.trans (m_7.trans (m_8.trans (m_9.trans (m_10.trans (m_11.trans (m_12.trans (m_13.trans (m_14.trans m_15))))))))))))))) g
def D2.v (x2 : Int) (b7_0 : Bool) (xs7_1 : List Nat) (b8 : Bool) (b9_0 : Bool) (xs9_1 : List Nat) (b10 : Bool) : Bool :=
  bif (!b8) then
    true
  else
    bif (!b10) then
      true
    else
      D3.v x2 b7_0 xs7_1 b9_0 xs9_1
theorem D2.hv {R : Rt} {h0 h : Hp} (k0 : Keep h0 h) {x2 : Int} (i2 : In .i64 x2) {b7_0 : Bool} {a7_1 : Option Addr} {c7_1 : Nat} {xs7_1 : List Nat} (r7_1 : GotE eU64 h0 h a7_1 c7_1 xs7_1) {B7 : Nat} (bx7 : BlkV h B7 [.bool b7_0, .slice a7_1 xs7_1.length c7_1]) (o7 : h0.size ≤ B7) {b8 : Bool} {b9_0 : Bool} {a9_1 : Option Addr} {c9_1 : Nat} {xs9_1 : List Nat} (r9_1 : GotE eU64 h0 h a9_1 c9_1 xs9_1) {B9 : Nat} (bx9 : BlkV h B9 [.bool b9_0, .slice a9_1 xs9_1.length c9_1]) (o9 : h0.size ≤ B9) {b10 : Bool} (d7q9 : B7 ≠ B9) (tb : Tab h) (g : Post sBool h0 R (D2.v x2 b7_0 xs7_1 b8 b9_0 xs9_1 b10)) : D2.t R x2 (⟨B7, 0, none⟩ : Addr) b8 (⟨B9, 0, none⟩ : Addr) b10 h := by
  have kh := Keep.refl h
  have lt7 := bx7.lt
  have lt9 := bx9.lt
  unfold D2.v at g
  unfold D2.t
  refine lift_not g (fun q_11 g => ?_) (fun q_11 g => ?_)
  · exact g _ _ k0 rfl
  · refine lift_not g (fun q_12 g => ?_) (fun q_12 g => ?_)
    · exact g _ _ k0 rfl
    · exact D3.hv k0 i2 r7_1 bx7 o7 r9_1 bx9 o9 d7q9 tb g
def D1.v (b0_0 : Bool) (xs0_1 : List Nat) (b1_0 : Bool) (xs1_1 : List Nat) (x2 : Int) : Bool :=
  letV ((zz (zi (b0_0, xs0_1)), decide (SmZ (zi (b0_0, xs0_1))))) fun p_3 =>
  letV ((zz (zi (b1_0, xs1_1)), decide (SmZ (zi (b1_0, xs1_1))))) fun p_5 =>
  bif (!(true)) then
    false
  else
    bif (!(true)) then
      false
    else
      D2.v x2 p_3.1.1 p_3.1.2 p_3.2 p_5.1.1 p_5.1.2 p_5.2
theorem D1.hv {R : Rt} {h0 h : Hp} (k0 : Keep h0 h) {b0_0 : Bool} {a0_1 : Option Addr} {c0_1 l0_1 : Nat} {xs0_1 : List Nat} (r0_1 : Rd h a0_1 c0_1 xs0_1) (e0_1 : l0_1 = xs0_1.length) {b1_0 : Bool} {a1_1 : Option Addr} {c1_1 l1_1 : Nat} {xs1_1 : List Nat} (r1_1 : Rd h a1_1 c1_1 xs1_1) (e1_1 : l1_1 = xs1_1.length) {x2 : Int} (i2 : In .i64 x2) (tb : Tab h) (g : Post sBool h0 R (D1.v b0_0 xs0_1 b1_0 xs1_1 x2)) : D1.t R b0_0 a0_1 l0_1 c0_1 b1_0 a1_1 l1_1 c1_1 x2 h := by
  subst e0_1 e1_1
  have kh := Keep.refl h
  unfold D1.v at g
  unfold D1.t
  refine boxV fun h_1 bx_1 k_1 => ?_
  have o_1 : h0.size ≤ h.size := k0.le
  have oh_1 : h.size ≤ h.size := kh.le
  have lt_1 := bx_1.lt
  have m_1 := k_1.tame
  have k0 := k0.trans k_1
  have kh := kh.trans k_1
  refine boxV fun h_2 bx_2 k_2 => ?_
  have d_1q_2 : h.size ≠ h_1.size := Nat.ne_of_lt bx_1.lt
  have o_2 : h0.size ≤ h_1.size := k0.le
  have oh_2 : h.size ≤ h_1.size := kh.le
  have lt_2 := bx_2.lt
  have m_2 := k_2.tame
  have bx_1 := bx_1.keep k_2
  have k0 := k0.trans k_2
  have kh := kh.trans k_2
  refine ldA bx_1 (base_add _ _) rfl ?_
  refine gBool_intro rfl ?_
  refine ldA bx_1 (base_add _ _) rfl ?_
  refine gSlice_intro rfl ?_
  refine hc_intro (gnomonlaw04_formed.hs (r0_1.tame (m_1.trans m_2)) rfl) fun v h_3 ⟨k_3, s⟩ => ?_
  obtain ⟨p_3, hp_3⟩ : ∃ p, p = (zz (zi (b0_0, xs0_1)), decide (SmZ (zi (b0_0, xs0_1)))) := ⟨_, rfl⟩
  rw [← hp_3] at s
  replace g := lift_let2 hp_3 g
  obtain ⟨_, _, rfl, ⟨a_3_0, c_3_0, rfl, r_3_0⟩, rfl⟩ := s
  refine gTup_intro rfl (uncons_intro (gAgg_intro rfl (uncons_intro (gBool_intro rfl (uncons_intro (gSlice_intro rfl (unnil_intro (uncons_intro (gBool_intro rfl (unnil_intro (?_)))))))))))
  have r_3_0 := r_3_0.from k0.le
  have m_3 := k_3.tame
  have bx_1 := bx_1.keep k_3
  have bx_2 := bx_2.keep k_3
  have k0 := k0.trans k_3
  have kh := kh.trans k_3
  refine boxV fun h_4 bx_4 k_4 => ?_
  have d_1q_4 : h.size ≠ h_3.size := Nat.ne_of_lt bx_1.lt
  have d_2q_4 : h_1.size ≠ h_3.size := Nat.ne_of_lt bx_2.lt
  have o_4 : h0.size ≤ h_3.size := k0.le
  have oh_4 : h.size ≤ h_3.size := kh.le
  have lt_4 := bx_4.lt
  have m_4 := k_4.tame
  have bx_1 := bx_1.keep k_4
  have bx_2 := bx_2.keep k_4
  have k0 := k0.trans k_4
  have kh := kh.trans k_4
  refine stA bx_4 (base_add _ _) rfl fun h_5 bx_4 k_5 m_5 => ?_
  have bx_1 := bx_1.keepB d_1q_4 k_5
  have bx_2 := bx_2.keepB d_2q_4 k_5
  have k0 := KeepB.keep k0 k_5 o_4
  have kh := KeepB.keep kh k_5 oh_4
  refine stA bx_4 (base_add _ _) rfl fun h_6 bx_4 k_6 m_6 => ?_
  have bx_1 := bx_1.keepB d_1q_4 k_6
  have bx_2 := bx_2.keepB d_2q_4 k_6
  have k0 := KeepB.keep k0 k_6 o_4
  have kh := KeepB.keep kh k_6 oh_4
  refine ldA bx_2 (base_add _ _) rfl ?_
  refine gBool_intro rfl ?_
  refine ldA bx_2 (base_add _ _) rfl ?_
  refine gSlice_intro rfl ?_
  refine hc_intro (gnomonlaw04_formed.hs (r1_1.tame (m_1.trans (m_2.trans (m_3.trans (m_4.trans (m_5.trans m_6)))))) rfl) fun v h_7 ⟨k_7, s⟩ => ?_
  obtain ⟨p_5, hp_5⟩ : ∃ p, p = (zz (zi (b1_0, xs1_1)), decide (SmZ (zi (b1_0, xs1_1)))) := ⟨_, rfl⟩
  rw [← hp_5] at s
  replace g := lift_let2 hp_5 g
  obtain ⟨_, _, rfl, ⟨a_5_0, c_5_0, rfl, r_5_0⟩, rfl⟩ := s
  refine gTup_intro rfl (uncons_intro (gAgg_intro rfl (uncons_intro (gBool_intro rfl (uncons_intro (gSlice_intro rfl (unnil_intro (uncons_intro (gBool_intro rfl (unnil_intro (?_)))))))))))
  have r_5_0 := r_5_0.from k0.le
  have m_7 := k_7.tame
  have bx_1 := bx_1.keep k_7
  have bx_2 := bx_2.keep k_7
  have bx_4 := bx_4.keep k_7
  have k0 := k0.trans k_7
  have kh := kh.trans k_7
  refine boxV fun h_8 bx_6 k_8 => ?_
  have d_1q_6 : h.size ≠ h_7.size := Nat.ne_of_lt bx_1.lt
  have d_2q_6 : h_1.size ≠ h_7.size := Nat.ne_of_lt bx_2.lt
  have d_4q_6 : h_3.size ≠ h_7.size := Nat.ne_of_lt bx_4.lt
  have o_6 : h0.size ≤ h_7.size := k0.le
  have oh_6 : h.size ≤ h_7.size := kh.le
  have lt_6 := bx_6.lt
  have m_8 := k_8.tame
  have bx_1 := bx_1.keep k_8
  have bx_2 := bx_2.keep k_8
  have bx_4 := bx_4.keep k_8
  have k0 := k0.trans k_8
  have kh := kh.trans k_8
  refine stA bx_6 (base_add _ _) rfl fun h_9 bx_6 k_9 m_9 => ?_
  have bx_1 := bx_1.keepB d_1q_6 k_9
  have bx_2 := bx_2.keepB d_2q_6 k_9
  have bx_4 := bx_4.keepB d_4q_6 k_9
  have k0 := KeepB.keep k0 k_9 o_6
  have kh := KeepB.keep kh k_9 oh_6
  refine stA bx_6 (base_add _ _) rfl fun h_10 bx_6 k_10 m_10 => ?_
  have bx_1 := bx_1.keepB d_1q_6 k_10
  have bx_2 := bx_2.keepB d_2q_6 k_10
  have bx_4 := bx_4.keepB d_4q_6 k_10
  have k0 := KeepB.keep k0 k_10 o_6
  have kh := KeepB.keep kh k_10 oh_6
  refine hc_intro (awake_hs) fun v h_11 ⟨k_11, s⟩ => ?_
  obtain rfl := s
  refine gBool_intro rfl (?_)
  have m_11 := k_11.tame
  have bx_1 := bx_1.keep k_11
  have bx_2 := bx_2.keep k_11
  have bx_4 := bx_4.keep k_11
  have bx_6 := bx_6.keep k_11
  have k0 := k0.trans k_11
  have kh := kh.trans k_11
  refine lift_not g (fun q_8 g => ?_) (fun q_8 g => ?_)
  · exact g _ _ k0 rfl
  · refine hc_intro (halves_hs (tb.tame (m_1.trans (m_2.trans (m_3.trans (m_4.trans (m_5.trans (m_6.trans (m_7.trans (m_8.trans (m_9.trans (m_10.trans m_11)))))))))))) fun v h_12 ⟨k_12, s⟩ => ?_
    obtain rfl := s
    refine gBool_intro rfl (?_)
    have m_12 := k_12.tame
    have bx_1 := bx_1.keep k_12
    have bx_2 := bx_2.keep k_12
    have bx_4 := bx_4.keep k_12
    have bx_6 := bx_6.keep k_12
    have k0 := k0.trans k_12
    have kh := kh.trans k_12
    refine lift_not g (fun q_10 g => ?_) (fun q_10 g => ?_)
    · exact g _ _ k0 rfl
    · exact D2.hv k0 i2 (r_3_0.tame (m_4.trans (m_5.trans (m_6.trans (m_7.trans (m_8.trans (m_9.trans (m_10.trans (m_11.trans m_12))))))))) bx_4 o_4 (r_5_0.tame (m_8.trans (m_9.trans (m_10.trans (m_11.trans m_12))))) bx_6 o_6 d_4q_6 (tb.tame (m_1.trans (m_2.trans (m_3.trans (m_4.trans (m_5.trans (m_6.trans (m_7.trans (m_8.trans (m_9.trans (m_10.trans (m_11.trans m_12)))))))))))) g
def v (b0_0 : Bool) (xs0_1 : List Nat) (b1_0 : Bool) (xs1_1 : List Nat) (x2 : Int) : Bool := D1.v b0_0 xs0_1 b1_0 xs1_1 x2
theorem hv {h : Hp} {b0_0 : Bool} {a0_1 : Option Addr} {c0_1 l0_1 : Nat} {xs0_1 : List Nat} (r0_1 : Rd h a0_1 c0_1 xs0_1) (e0_1 : l0_1 = xs0_1.length) {b1_0 : Bool} {a1_1 : Option Addr} {c1_1 l1_1 : Nat} {xs1_1 : List Nat} (r1_1 : Rd h a1_1 c1_1 xs1_1) (e1_1 : l1_1 = xs1_1.length) {x2 : Int} (i2 : In .i64 x2) (tb : Tab h) : HC id #[.agg #[.bool b0_0, .slice a0_1 l0_1 c0_1], .agg #[.bool b1_0, .slice a1_1 l1_1 c1_1], .int .i64 x2] h fun v_ h_ => Keep h h_ ∧ sBool h h_ v_ (v b0_0 xs0_1 b1_0 xs1_1 x2) :=
  ok (D1.hv (Keep.refl _) r0_1 e0_1 r1_1 e1_1 i2 tb fun v h' k s => ⟨k, s⟩)
end gnomonlaw04_NumMirrors

end Go.Proofs.YtpglfeeebnnkkaaDoor.G

/- Layer 4: a whole number as an argument. -/
namespace Go.Proofs.YtpglfeeebnnkkaaDoor.G
open Go.Gv
set_option linter.unusedVariables false
set_option maxRecDepth 100000
theorem zne : ((0 : Int) != 0) = false := rfl
/-! ### the laws -/
theorem says_oneZ {α β : Type} {S : Says α} {T : Says β} {h : Hp} {cs : List Value} {p : α × β} (z : saysCons S 1 T h cs p) : ∃ c rest, cs = c :: rest ∧ S h [c] p.1 ∧ T h rest p.2 := by
  obtain ⟨l, s, t⟩ := z
  cases cs with
  | nil => simp at l
  | cons c r => exact ⟨c, r, rfl, s, t⟩
abbrev saysInt4 : Says (Bool × List Nat × Unit) := saysCons saysBool 1 (saysCons saysWords 1 saysEnd)
theorem int4_open {h : Hp} {cs : Array Value} {x : Bool × List Nat × Unit} (z : saysInt4 h cs.toList x) : ∃ a c, cs = #[.bool x.1, .slice a x.2.1.length c] ∧ Rd h a c x.2.1 := by
  obtain ⟨v0, t0, e0, f0, z⟩ := says_oneZ z
  obtain ⟨v1, t1, e1, ⟨a1, c1, f1, r1, _⟩, z⟩ := says_oneZ z
  have z : t1 = [] := z
  have f0 : [v0] = [.bool x.1] := f0
  simp only [List.cons.injEq, and_true] at f0 f1
  subst f0 f1
  rw [e1, z] at e0
  exact ⟨a1, c1, Array.toList_inj.mp e0, r1⟩
end Go.Proofs.YtpglfeeebnnkkaaDoor.G

/- The law NumMirrors of the translation answers true. -/
namespace Go.Proofs.YtpglfeeebnnkkaaDoor.G
open Go.Gv
set_option linter.unusedVariables false
set_option maxRecDepth 100000
theorem mirrors_D5 {X Y : Int} (hx : SmZ X) (hy : SmZ Y) : gnomonlaw04_NumMirrors.D5.v (zz X).1 (zz X).2 (zz Y).1 (zz Y).2 (zz (-Y)).1 (zz (-Y)).2 = true := by
  unfold gnomonlaw04_NumMirrors.D5.v
  simp only [letV, eta2, zi_zz, cmp_eq_iff]
  by_cases h : Y = 0
  · subst h
    have e1 : quoZ flo (zz X) (zz (-0)) = (nz, 4) := quo_z0 hx hy
    simp only [e1, quo_z0 hx hy, decide_true, cond_true]; rfl
  · have c1 : SmZ (cei X Y) := smZ_le (cei_abs h) hx
    have c2 : SmZ (flo X (-Y)) := smZ_le (flo_abs (by omega)) hx
    rw [quo_zz hx (sm_neg hy) (by omega), quo_zz hx hy h, zlim_ok c1, zlim_ok c2, neg_zz c1, flo_flip h, neg_cei]
    simp [h]
theorem mirrors_true {X Y k : Int} (hx : SmZ X) (hy : SmZ Y) : gnomonlaw04_NumMirrors.D3.v k (zz X).1 (zz X).2 (zz Y).1 (zz Y).2 = true := by
  unfold gnomonlaw04_NumMirrors.D3.v
  simp only [letV, eta2, neg_zz hx, neg_zz hy, neg_zz (sm_neg hx), Int.neg_neg, zne, cond_false, decide_true, Bool.not_true, zi_zz, cmpZ_wrap]
  rw [show (cmpZ (-X) 0 != cmpZ (-X) 0) = false by simp, cond_false]
  unfold gnomonlaw04_NumMirrors.D4.v
  by_cases hk : k < 0
  · have : shrZ flo ((zz X).1, (zz X).2) k = (nz, 1) := by unfold shrZ; rw [if_pos hk]
    simp only [hk, decide_true, cond_true, letV, this]; rfl
  · obtain ⟨n, rfl⟩ := Int.eq_ofNat_of_zero_le (Int.not_lt.mp hk)
    have b := pow2_nz n
    have c1 : SmZ (cei X (2 ^ n)) := smZ_le (cei_abs b) hx
    have c2 : SmZ (flo (-X) (2 ^ n)) := smZ_le (flo_abs b) (sm_neg hx)
    have c3 : SmZ (nea X (2 ^ n)) := smZ_le (nea_abs b) hx
    simp only [hk, decide_false, cond_false, letV, eta2, shr_zz hx, shr_zz (sm_neg hx), nea_neg, zlim_ok c1, zlim_ok c2, zlim_ok c3, zlim_ok (sm_neg c3), neg_zz c1, neg_zz c3, neg_cei, zne, decide_true, Bool.not_true]
    exact mirrors_D5 hx hy
theorem NumMirrors_v (b c : Bool) (xs ys : List Nat) (k : Int) : gnomonlaw04_NumMirrors.v b xs c ys k = true := by
  unfold gnomonlaw04_NumMirrors.v gnomonlaw04_NumMirrors.D1.v
  simp only [letV, Bool.not_true, cond_false]
  unfold gnomonlaw04_NumMirrors.D2.v
  by_cases hx : SmZ (zi (b, xs))
  · by_cases hy : SmZ (zi (c, ys))
    · simp only [hx, hy, decide_true, Bool.not_true, cond_false]; exact mirrors_true hx hy
    · simp only [hx, hy, decide_true, decide_false, Bool.not_true, Bool.not_false, cond_false, cond_true]
  · simp only [hx, decide_false, Bool.not_false, cond_true]
section
variable {h : Hp} {cs ds : Array Value} {X Y : Bool × List Nat × Unit} {x y : Int}
theorem NumMirrors_law (z0 : saysInt4 h cs.toList X) (z1 : saysInt4 h ds.toList Y) (i : -9223372036854775808 ≤ x ∧ x < 9223372036854775808) (tb : Tab h) : HC gnomonlaw04_NumMirrors.id #[.agg cs, .agg ds, .int .i64 x] h fun v h' => Keep h h' ∧ v = .bool true := by
  obtain ⟨a, c, e, r⟩ := int4_open z0
  obtain ⟨b, d, e', s⟩ := int4_open z1
  subst e; subst e'
  have := gnomonlaw04_NumMirrors.hv (b0_0 := X.1) (b1_0 := Y.1) r rfl s rfl (in_i64.mpr i) tb
  rw [NumMirrors_v] at this; exact this
end
end Go.Proofs.YtpglfeeebnnkkaaDoor.G
