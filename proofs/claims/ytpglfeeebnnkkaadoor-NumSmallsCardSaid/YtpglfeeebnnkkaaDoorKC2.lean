/- Texts of this work, joined: ZLNumSmalls, ZLawC, ZLawS. -/
import Derived.Test.YtpglfeeebnnkkaaDoorKB
import Derived.Test.YtpglfeeebnnkkaaDoorKC0
import Derived.Test.YtpglfeeebnnkkaaDoorKC1
/- Functions without loops as functions of values. Written by a program of this work. -/
namespace Go.Proofs.YtpglfeeebnnkkaaDoor.G
open Go.Gv
set_option linter.unusedVariables false
set_option maxRecDepth 100000
namespace gnomonlaw04_NumSmalls
def D8.v (x17 : Int) (x18 : Int) (x19 : Int) (x20 : Int) : Bool :=
  bif (x17 == (0 : Int)) then
    bif (x19 == (0 : Int)) then
      (x18 == x20)
    else
      false
  else
    false
theorem D8.hv {R : Rt} {h0 h : Hp} (k0 : Keep h0 h) {x17 : Int} (i17 : In .i64 x17) {x18 : Int} (i18 : In .i64 x18) {x19 : Int} (i19 : In .i64 x19) {x20 : Int} (i20 : In .i64 x20) (tb : Tab h) (g : Post sBool h0 R (D8.v x17 x18 x19 x20)) : D8.t R x17 x18 x19 x20 h := by
  have kh := Keep.refl h
  unfold D8.v at g
  unfold D8.t
  refine lift_eq g (fun q_39 g => ?_) (fun q_39 g => ?_)
  · refine lift_eq g (fun q_40 g => ?_) (fun q_40 g => ?_)
    · exact g _ _ k0 rfl
    · exact g _ _ k0 rfl
  · exact g _ _ k0 rfl
def D7.v (x0 : Int) (x1 : Int) (b5_0 : Bool) (xs5_1 : List Nat) (b6_0 : Bool) (xs6_1 : List Nat) : Bool :=
  letV (quoZ flo (b5_0, xs5_1) (b6_0, xs6_1)) fun p_34 =>
  letV (smaS (p_34.1.1, p_34.1.2)) fun p_36 =>
  bif ((Int.tmod x0 x1) != (0 : Int)) then
    bif (!((decide (x0 < (0 : Int))) == (decide (x1 < (0 : Int))))) then
      D8.v p_34.2 p_36.1 p_36.2 ((IntKind.i64.wrap (((IntKind.i64.wrap (Int.tdiv x0 x1))) - (1 : Int))))
    else
      D8.v p_34.2 p_36.1 p_36.2 ((IntKind.i64.wrap (Int.tdiv x0 x1)))
  else
    D8.v p_34.2 p_36.1 p_36.2 ((IntKind.i64.wrap (Int.tdiv x0 x1)))
theorem D7.hv {R : Rt} {h0 h : Hp} (k0 : Keep h0 h) {x0 : Int} (i0 : In .i64 x0) {x1 : Int} (i1 : In .i64 x1) (nz1 : ¬ x1 = 0) {b5_0 : Bool} {a5_1 : Option Addr} {c5_1 : Nat} {xs5_1 : List Nat} (r5_1 : GotE eU64 h0 h a5_1 c5_1 xs5_1) {B5 : Nat} (bx5 : BlkV h B5 [.bool b5_0, .slice a5_1 xs5_1.length c5_1]) (o5 : h0.size ≤ B5) {b6_0 : Bool} {a6_1 : Option Addr} {c6_1 : Nat} {xs6_1 : List Nat} (r6_1 : GotE eU64 h0 h a6_1 c6_1 xs6_1) {B6 : Nat} (bx6 : BlkV h B6 [.bool b6_0, .slice a6_1 xs6_1.length c6_1]) (o6 : h0.size ≤ B6) (d5q6 : B5 ≠ B6) (tb : Tab h) (g : Post sBool h0 R (D7.v x0 x1 b5_0 xs5_1 b6_0 xs6_1)) : D7.t R x0 x1 (⟨B5, 0, none⟩ : Addr) (⟨B6, 0, none⟩ : Addr) h := by
  have kh := Keep.refl h
  have lt5 := bx5.lt
  have lt6 := bx6.lt
  unfold D7.v at g
  unfold D7.t
  refine ldA bx5 (base_add _ _) rfl ?_
  refine gBool_intro rfl ?_
  refine ldA bx5 (base_add _ _) rfl ?_
  refine gSlice_intro rfl ?_
  refine ldA bx6 (base_add _ _) rfl ?_
  refine gBool_intro rfl ?_
  refine ldA bx6 (base_add _ _) rfl ?_
  refine gSlice_intro rfl ?_
  refine hc_intro (num_FloorDiv.hs r5_1.rd64 rfl r6_1.rd64 rfl) fun v h_1 ⟨k_1, s⟩ => ?_
  obtain ⟨p_34, hp_34⟩ : ∃ p, p = quoZ flo (b5_0, xs5_1) (b6_0, xs6_1) := ⟨_, rfl⟩
  rw [← hp_34] at s
  replace g := lift_let2 hp_34 g
  obtain ⟨_, _, rfl, ⟨a_34_0, c_34_0, rfl, r_34_0⟩, ⟨rfl, i_34_1⟩⟩ := s
  refine gTup_intro rfl (uncons_intro (gAgg_intro rfl (uncons_intro (gBool_intro rfl (uncons_intro (gSlice_intro rfl (unnil_intro (uncons_intro (gInt_intro rfl (unnil_intro (?_)))))))))))
  have r_34_0 := r_34_0.from k0.le
  have m_1 := k_1.tame
  have bx5 := bx5.keep k_1
  have bx6 := bx6.keep k_1
  have k0 := k0.trans k_1
  have kh := kh.trans k_1
  refine boxV fun h_2 bx_35 k_2 => ?_
  have d5q_35 : B5 ≠ h_1.size := Nat.ne_of_lt bx5.lt
  have d6q_35 : B6 ≠ h_1.size := Nat.ne_of_lt bx6.lt
  have o_35 : h0.size ≤ h_1.size := k0.le
  have oh_35 : h.size ≤ h_1.size := kh.le
  have lt_35 := bx_35.lt
  have m_2 := k_2.tame
  have bx5 := bx5.keep k_2
  have bx6 := bx6.keep k_2
  have k0 := k0.trans k_2
  have kh := kh.trans k_2
  refine stA bx_35 (base_add _ _) rfl fun h_3 bx_35 k_3 m_3 => ?_
  have bx5 := bx5.keepB d5q_35 k_3
  have bx6 := bx6.keepB d6q_35 k_3
  have k0 := KeepB.keep k0 k_3 o_35
  have kh := KeepB.keep kh k_3 oh_35
  refine stA bx_35 (base_add _ _) rfl fun h_4 bx_35 k_4 m_4 => ?_
  have bx5 := bx5.keepB d5q_35 k_4
  have bx6 := bx6.keepB d6q_35 k_4
  have k0 := KeepB.keep k0 k_4 o_35
  have kh := KeepB.keep kh k_4 oh_35
  refine ldA bx_35 (base_add _ _) rfl ?_
  refine gBool_intro rfl ?_
  refine ldA bx_35 (base_add _ _) rfl ?_
  refine gSlice_intro rfl ?_
  refine hc_intro (num_Small.hs (r_34_0.tame (m_2.trans (m_3.trans m_4))).rd64 rfl) fun v h_5 ⟨k_5, s⟩ => ?_
  obtain ⟨p_36, hp_36⟩ : ∃ p, p = smaS (p_34.1.1, p_34.1.2) := ⟨_, rfl⟩
  rw [← hp_36] at s
  replace g := lift_let2 hp_36 g
  obtain ⟨_, _, rfl, ⟨rfl, i_36_0⟩, ⟨rfl, i_36_1⟩⟩ := s
  refine gTup_intro rfl (uncons_intro (gInt_intro rfl (uncons_intro (gInt_intro rfl (unnil_intro (?_))))))
  have m_5 := k_5.tame
  have bx5 := bx5.keep k_5
  have bx6 := bx6.keep k_5
  have bx_35 := bx_35.keep k_5
  have k0 := k0.trans k_5
  have kh := kh.trans k_5
  refine ⟨(by first | assumption | decide | omega), ?_⟩
  refine letK_out ?_
  refine ⟨(by first | assumption | decide | omega), ?_⟩
  refine letK_out ?_
  refine lift_ne g (fun q_37 g => ?_) (fun q_37 g => ?_)
  · refine lift_not g (fun q_38 g => ?_) (fun q_38 g => ?_)
    · refine letK_out ?_
      exact D8.hv k0 i_34_1 i_36_0 i_36_1 (in_wrap _ _) (tb.tame (m_1.trans (m_2.trans (m_3.trans (m_4.trans m_5))))) g
    · exact D8.hv k0 i_34_1 i_36_0 i_36_1 (in_wrap _ _) (tb.tame (m_1.trans (m_2.trans (m_3.trans (m_4.trans m_5))))) g
  · exact D8.hv k0 i_34_1 i_36_0 i_36_1 (in_wrap _ _) (tb.tame (m_1.trans (m_2.trans (m_3.trans (m_4.trans m_5))))) g
def D6.v (x0 : Int) (x1 : Int) (b5_0 : Bool) (xs5_1 : List Nat) (b6_0 : Bool) (xs6_1 : List Nat) : Bool :=
  bif (x1 == (0 : Int)) then
    true
  else
    bif (x0 == (-9223372036854775808 : Int)) then
      true
    else
      D7.v x0 x1 b5_0 xs5_1 b6_0 xs6_1
theorem D6.hv {R : Rt} {h0 h : Hp} (k0 : Keep h0 h) {x0 : Int} (i0 : In .i64 x0) {x1 : Int} (i1 : In .i64 x1) {b5_0 : Bool} {a5_1 : Option Addr} {c5_1 : Nat} {xs5_1 : List Nat} (r5_1 : GotE eU64 h0 h a5_1 c5_1 xs5_1) {B5 : Nat} (bx5 : BlkV h B5 [.bool b5_0, .slice a5_1 xs5_1.length c5_1]) (o5 : h0.size ≤ B5) {b6_0 : Bool} {a6_1 : Option Addr} {c6_1 : Nat} {xs6_1 : List Nat} (r6_1 : GotE eU64 h0 h a6_1 c6_1 xs6_1) {B6 : Nat} (bx6 : BlkV h B6 [.bool b6_0, .slice a6_1 xs6_1.length c6_1]) (o6 : h0.size ≤ B6) (d5q6 : B5 ≠ B6) (tb : Tab h) (g : Post sBool h0 R (D6.v x0 x1 b5_0 xs5_1 b6_0 xs6_1)) : D6.t R x0 x1 (⟨B5, 0, none⟩ : Addr) (⟨B6, 0, none⟩ : Addr) h := by
  have kh := Keep.refl h
  have lt5 := bx5.lt
  have lt6 := bx6.lt
  unfold D6.v at g
  unfold D6.t
  refine lift_eq g (fun q_32 g => ?_) (fun q_32 g => ?_)
  · exact g _ _ k0 rfl
  · refine lift_eq g (fun q_33 g => ?_) (fun q_33 g => ?_)
    · exact g _ _ k0 rfl
    · exact D7.hv k0 i0 i1 q_32 r5_1 bx5 o5 r6_1 bx6 o6 d5q6 tb g
def D5.v (x0 : Int) (x1 : Int) (b5_0 : Bool) (xs5_1 : List Nat) (b6_0 : Bool) (xs6_1 : List Nat) (x12 : Int) (x13 : Int) (x14 : Int) (b15 : Bool) : Bool :=
  bif (x12 != (0 : Int)) then
    false
  else
    bif (!(b15 == (x14 == (5 : Int)))) then
      false
    else
      bif (!b15) then
        bif (x14 != (0 : Int)) then
          false
        else
          bif (x13 != ((IntKind.i64.wrap (x0 + x1)))) then
            false
          else
            D6.v x0 x1 b5_0 xs5_1 b6_0 xs6_1
      else
        D6.v x0 x1 b5_0 xs5_1 b6_0 xs6_1
theorem D5.hv {R : Rt} {h0 h : Hp} (k0 : Keep h0 h) {x0 : Int} (i0 : In .i64 x0) {x1 : Int} (i1 : In .i64 x1) {b5_0 : Bool} {a5_1 : Option Addr} {c5_1 : Nat} {xs5_1 : List Nat} (r5_1 : GotE eU64 h0 h a5_1 c5_1 xs5_1) {B5 : Nat} (bx5 : BlkV h B5 [.bool b5_0, .slice a5_1 xs5_1.length c5_1]) (o5 : h0.size ≤ B5) {b6_0 : Bool} {a6_1 : Option Addr} {c6_1 : Nat} {xs6_1 : List Nat} (r6_1 : GotE eU64 h0 h a6_1 c6_1 xs6_1) {B6 : Nat} (bx6 : BlkV h B6 [.bool b6_0, .slice a6_1 xs6_1.length c6_1]) (o6 : h0.size ≤ B6) {x12 : Int} (i12 : In .i64 x12) {x13 : Int} (i13 : In .i64 x13) {x14 : Int} (i14 : In .i64 x14) {b15 : Bool} (d5q6 : B5 ≠ B6) (tb : Tab h) (g : Post sBool h0 R (D5.v x0 x1 b5_0 xs5_1 b6_0 xs6_1 x12 x13 x14 b15)) : D5.t R x0 x1 (⟨B5, 0, none⟩ : Addr) (⟨B6, 0, none⟩ : Addr) x12 x13 x14 b15 h := by
  have kh := Keep.refl h
  have lt5 := bx5.lt
  have lt6 := bx6.lt
  unfold D5.v at g
  unfold D5.t
  refine lift_ne g (fun q_27 g => ?_) (fun q_27 g => ?_)
  · exact g _ _ k0 rfl
  · refine lift_not g (fun q_28 g => ?_) (fun q_28 g => ?_)
    · exact g _ _ k0 rfl
    · refine lift_not g (fun q_29 g => ?_) (fun q_29 g => ?_)
      · refine lift_ne g (fun q_30 g => ?_) (fun q_30 g => ?_)
        · exact g _ _ k0 rfl
        · refine letK_out ?_
          refine lift_ne g (fun q_31 g => ?_) (fun q_31 g => ?_)
          · exact g _ _ k0 rfl
          · exact D6.hv k0 i0 i1 r5_1 bx5 o5 r6_1 bx6 o6 d5q6 tb g
      · exact D6.hv k0 i0 i1 r5_1 bx5 o5 r6_1 bx6 o6 d5q6 tb g
def D4.v (x0 : Int) (x1 : Int) (b5_0 : Bool) (xs5_1 : List Nat) (b6_0 : Bool) (xs6_1 : List Nat) : Bool :=
  letV (twoZ addI (b5_0, xs5_1) (b6_0, xs6_1)) fun p_22 =>
  letV (smaS (p_22.1.1, p_22.1.2)) fun p_24 =>
  bif (decide (x1 > (0 : Int))) then
    bif (decide (x0 > ((IntKind.i64.wrap ((9223372036854775807 : Int) - x1))))) then
      D5.v x0 x1 b5_0 xs5_1 b6_0 xs6_1 p_22.2 p_24.1 p_24.2 true
    else
      bif (decide (x1 < (0 : Int))) then
        D5.v x0 x1 b5_0 xs5_1 b6_0 xs6_1 p_22.2 p_24.1 p_24.2 ((decide (x0 < ((IntKind.i64.wrap ((-9223372036854775808 : Int) - x1))))))
      else
        D5.v x0 x1 b5_0 xs5_1 b6_0 xs6_1 p_22.2 p_24.1 p_24.2 false
  else
    bif (decide (x1 < (0 : Int))) then
      D5.v x0 x1 b5_0 xs5_1 b6_0 xs6_1 p_22.2 p_24.1 p_24.2 ((decide (x0 < ((IntKind.i64.wrap ((-9223372036854775808 : Int) - x1))))))
    else
      D5.v x0 x1 b5_0 xs5_1 b6_0 xs6_1 p_22.2 p_24.1 p_24.2 false
theorem D4.hv {R : Rt} {h0 h : Hp} (k0 : Keep h0 h) {x0 : Int} (i0 : In .i64 x0) {x1 : Int} (i1 : In .i64 x1) {b5_0 : Bool} {a5_1 : Option Addr} {c5_1 : Nat} {xs5_1 : List Nat} (r5_1 : GotE eU64 h0 h a5_1 c5_1 xs5_1) {B5 : Nat} (bx5 : BlkV h B5 [.bool b5_0, .slice a5_1 xs5_1.length c5_1]) (o5 : h0.size ≤ B5) {b6_0 : Bool} {a6_1 : Option Addr} {c6_1 : Nat} {xs6_1 : List Nat} (r6_1 : GotE eU64 h0 h a6_1 c6_1 xs6_1) {B6 : Nat} (bx6 : BlkV h B6 [.bool b6_0, .slice a6_1 xs6_1.length c6_1]) (o6 : h0.size ≤ B6) (d5q6 : B5 ≠ B6) (tb : Tab h) (g : Post sBool h0 R (D4.v x0 x1 b5_0 xs5_1 b6_0 xs6_1)) : D4.t R x0 x1 (⟨B5, 0, none⟩ : Addr) (⟨B6, 0, none⟩ : Addr) h := by
  have kh := Keep.refl h
  have lt5 := bx5.lt
  have lt6 := bx6.lt
  unfold D4.v at g
  unfold D4.t
  refine ldA bx5 (base_add _ _) rfl ?_
  refine gBool_intro rfl ?_
  refine ldA bx5 (base_add _ _) rfl ?_
  refine gSlice_intro rfl ?_
  refine ldA bx6 (base_add _ _) rfl ?_
  refine gBool_intro rfl ?_
  refine ldA bx6 (base_add _ _) rfl ?_
  refine gSlice_intro rfl ?_
  refine hc_intro (num_Add.hs r5_1.rd64 rfl r6_1.rd64 rfl) fun v h_1 ⟨k_1, s⟩ => ?_
  obtain ⟨p_22, hp_22⟩ : ∃ p, p = twoZ addI (b5_0, xs5_1) (b6_0, xs6_1) := ⟨_, rfl⟩
  rw [← hp_22] at s
  replace g := lift_let2 hp_22 g
  obtain ⟨_, _, rfl, ⟨a_22_0, c_22_0, rfl, r_22_0⟩, ⟨rfl, i_22_1⟩⟩ := s
  refine gTup_intro rfl (uncons_intro (gAgg_intro rfl (uncons_intro (gBool_intro rfl (uncons_intro (gSlice_intro rfl (unnil_intro (uncons_intro (gInt_intro rfl (unnil_intro (?_)))))))))))
  have r_22_0 := r_22_0.from k0.le
  have m_1 := k_1.tame
  have bx5 := bx5.keep k_1
  have bx6 := bx6.keep k_1
  have k0 := k0.trans k_1
  have kh := kh.trans k_1
  refine boxV fun h_2 bx_23 k_2 => ?_
  have d5q_23 : B5 ≠ h_1.size := Nat.ne_of_lt bx5.lt
  have d6q_23 : B6 ≠ h_1.size := Nat.ne_of_lt bx6.lt
  have o_23 : h0.size ≤ h_1.size := k0.le
  have oh_23 : h.size ≤ h_1.size := kh.le
  have lt_23 := bx_23.lt
  have m_2 := k_2.tame
  have bx5 := bx5.keep k_2
  have bx6 := bx6.keep k_2
  have k0 := k0.trans k_2
  have kh := kh.trans k_2
  refine stA bx_23 (base_add _ _) rfl fun h_3 bx_23 k_3 m_3 => ?_
  have bx5 := bx5.keepB d5q_23 k_3
  have bx6 := bx6.keepB d6q_23 k_3
  have k0 := KeepB.keep k0 k_3 o_23
  have kh := KeepB.keep kh k_3 oh_23
  refine stA bx_23 (base_add _ _) rfl fun h_4 bx_23 k_4 m_4 => ?_
  have bx5 := bx5.keepB d5q_23 k_4
  have bx6 := bx6.keepB d6q_23 k_4
  have k0 := KeepB.keep k0 k_4 o_23
  have kh := KeepB.keep kh k_4 oh_23
  refine ldA bx_23 (base_add _ _) rfl ?_
  refine gBool_intro rfl ?_
  refine ldA bx_23 (base_add _ _) rfl ?_
  refine gSlice_intro rfl ?_
  refine hc_intro (num_Small.hs (r_22_0.tame (m_2.trans (m_3.trans m_4))).rd64 rfl) fun v h_5 ⟨k_5, s⟩ => ?_
  obtain ⟨p_24, hp_24⟩ : ∃ p, p = smaS (p_22.1.1, p_22.1.2) := ⟨_, rfl⟩
  rw [← hp_24] at s
  replace g := lift_let2 hp_24 g
  obtain ⟨_, _, rfl, ⟨rfl, i_24_0⟩, ⟨rfl, i_24_1⟩⟩ := s
  refine gTup_intro rfl (uncons_intro (gInt_intro rfl (uncons_intro (gInt_intro rfl (unnil_intro (?_))))))
  have m_5 := k_5.tame
  have bx5 := bx5.keep k_5
  have bx6 := bx6.keep k_5
  have bx_23 := bx_23.keep k_5
  have k0 := k0.trans k_5
  have kh := kh.trans k_5
  refine lift_dec g (fun q_25 g => ?_) (fun q_25 g => ?_)
  · refine letK_out ?_
    refine lift_dec g (fun q_26 g => ?_) (fun q_26 g => ?_)
    · exact D5.hv k0 i0 i1 (r5_1.tame (m_1.trans (m_2.trans (m_3.trans (m_4.trans m_5))))) bx5 o5 (r6_1.tame (m_1.trans (m_2.trans (m_3.trans (m_4.trans m_5))))) bx6 o6 i_22_1 i_24_0 i_24_1 d5q6 (tb.tame (m_1.trans (m_2.trans (m_3.trans (m_4.trans m_5))))) g
    · refine lift_dec g (fun q_41 g => ?_) (fun q_41 g => ?_)
      · refine letK_out ?_
        exact D5.hv k0 i0 i1 (r5_1.tame (m_1.trans (m_2.trans (m_3.trans (m_4.trans m_5))))) bx5 o5 (r6_1.tame (m_1.trans (m_2.trans (m_3.trans (m_4.trans m_5))))) bx6 o6 i_22_1 i_24_0 i_24_1 d5q6 (tb.tame (m_1.trans (m_2.trans (m_3.trans (m_4.trans m_5))))) g
      · exact D5.hv k0 i0 i1 (r5_1.tame (m_1.trans (m_2.trans (m_3.trans (m_4.trans m_5))))) bx5 o5 (r6_1.tame (m_1.trans (m_2.trans (m_3.trans (m_4.trans m_5))))) bx6 o6 i_22_1 i_24_0 i_24_1 d5q6 (tb.tame (m_1.trans (m_2.trans (m_3.trans (m_4.trans m_5))))) g
  · refine lift_dec g (fun q_42 g => ?_) (fun q_42 g => ?_)
    · refine letK_out ?_
      exact D5.hv k0 i0 i1 (r5_1.tame (m_1.trans (m_2.trans (m_3.trans (m_4.trans m_5))))) bx5 o5 (r6_1.tame (m_1.trans (m_2.trans (m_3.trans (m_4.trans m_5))))) bx6 o6 i_22_1 i_24_0 i_24_1 d5q6 (tb.tame (m_1.trans (m_2.trans (m_3.trans (m_4.trans m_5))))) g
    · exact D5.hv k0 i0 i1 (r5_1.tame (m_1.trans (m_2.trans (m_3.trans (m_4.trans m_5))))) bx5 o5 (r6_1.tame (m_1.trans (m_2.trans (m_3.trans (m_4.trans m_5))))) bx6 o6 i_22_1 i_24_0 i_24_1 d5q6 (tb.tame (m_1.trans (m_2.trans (m_3.trans (m_4.trans m_5))))) g
def D3.v (x0 : Int) (x1 : Int) (b5_0 : Bool) (xs5_1 : List Nat) (b6_0 : Bool) (xs6_1 : List Nat) : Bool :=
  letV (cmpS (b5_0, xs5_1) (b6_0, xs6_1)) fun p_18 =>
  bif (p_18.2 != (0 : Int)) then
    false
  else
    bif (!((decide (p_18.1 < (0 : Int))) == (decide (x0 < x1)))) then
      false
    else
      bif (!((decide (p_18.1 > (0 : Int))) == (decide (x0 > x1)))) then
        false
      else
        D4.v x0 x1 b5_0 xs5_1 b6_0 xs6_1
theorem D3.hv {R : Rt} {h0 h : Hp} (k0 : Keep h0 h) {x0 : Int} (i0 : In .i64 x0) {x1 : Int} (i1 : In .i64 x1) {b5_0 : Bool} {a5_1 : Option Addr} {c5_1 : Nat} {xs5_1 : List Nat} (r5_1 : GotE eU64 h0 h a5_1 c5_1 xs5_1) {B5 : Nat} (bx5 : BlkV h B5 [.bool b5_0, .slice a5_1 xs5_1.length c5_1]) (o5 : h0.size ≤ B5) {b6_0 : Bool} {a6_1 : Option Addr} {c6_1 : Nat} {xs6_1 : List Nat} (r6_1 : GotE eU64 h0 h a6_1 c6_1 xs6_1) {B6 : Nat} (bx6 : BlkV h B6 [.bool b6_0, .slice a6_1 xs6_1.length c6_1]) (o6 : h0.size ≤ B6) (d5q6 : B5 ≠ B6) (tb : Tab h) (g : Post sBool h0 R (D3.v x0 x1 b5_0 xs5_1 b6_0 xs6_1)) : D3.t R x0 x1 (⟨B5, 0, none⟩ : Addr) (⟨B6, 0, none⟩ : Addr) h := by
  have kh := Keep.refl h
  have lt5 := bx5.lt
  have lt6 := bx6.lt
  unfold D3.v at g
  unfold D3.t
  refine ldA bx5 (base_add _ _) rfl ?_
  refine gBool_intro rfl ?_
  refine ldA bx5 (base_add _ _) rfl ?_
  refine gSlice_intro rfl ?_
  refine ldA bx6 (base_add _ _) rfl ?_
  refine gBool_intro rfl ?_
  refine ldA bx6 (base_add _ _) rfl ?_
  refine gSlice_intro rfl ?_
  refine hc_intro (num_Cmp.hs r5_1.rd64 rfl r6_1.rd64 rfl) fun v h_1 ⟨k_1, s⟩ => ?_
  obtain ⟨p_18, hp_18⟩ : ∃ p, p = cmpS (b5_0, xs5_1) (b6_0, xs6_1) := ⟨_, rfl⟩
  rw [← hp_18] at s
  replace g := lift_let2 hp_18 g
  obtain ⟨_, _, rfl, ⟨rfl, i_18_0⟩, ⟨rfl, i_18_1⟩⟩ := s
  refine gTup_intro rfl (uncons_intro (gInt_intro rfl (uncons_intro (gInt_intro rfl (unnil_intro (?_))))))
  have m_1 := k_1.tame
  have bx5 := bx5.keep k_1
  have bx6 := bx6.keep k_1
  have k0 := k0.trans k_1
  have kh := kh.trans k_1
  refine lift_ne g (fun q_19 g => ?_) (fun q_19 g => ?_)
  · exact g _ _ k0 rfl
  · refine lift_not g (fun q_20 g => ?_) (fun q_20 g => ?_)
    · exact g _ _ k0 rfl
    · refine lift_not g (fun q_21 g => ?_) (fun q_21 g => ?_)
      · exact g _ _ k0 rfl
      · exact D4.hv k0 i0 i1 (r5_1.tame (m_1)) bx5 o5 (r6_1.tame (m_1)) bx6 o6 d5q6 (tb.tame (m_1)) g
def D2.v (x0 : Int) (x1 : Int) : Bool :=
  letV (zz x0) fun p_5 =>
  letV (zz x1) fun p_6 =>
  letV (smaS (p_5.1, p_5.2)) fun p_9 =>
  bif (p_9.2 != (0 : Int)) then
    false
  else
    bif (p_9.1 != x0) then
      false
    else
      bif (!(decide (FrmZ (p_5.1, p_5.2)))) then
        false
      else
        bif (!((decide (((cmpZ (zi (p_5.1, p_5.2)) 0)) < (0 : Int))) == (decide (x0 < (0 : Int))))) then
          false
        else
          bif (!((decide (((cmpZ (zi (p_5.1, p_5.2)) 0)) > (0 : Int))) == (decide (x0 > (0 : Int))))) then
            false
          else
            D3.v x0 x1 p_5.1 p_5.2 p_6.1 p_6.2
theorem D2.hv {R : Rt} {h0 h : Hp} (k0 : Keep h0 h) {x0 : Int} (i0 : In .i64 x0) {x1 : Int} (i1 : In .i64 x1) (tb : Tab h) (g : Post sBool h0 R (D2.v x0 x1)) : D2.t R x0 x1 h := by
  have kh := Keep.refl h
  unfold D2.v at g
  unfold D2.t
  refine hc_intro (num_Of.hs i0) fun v h_1 ⟨k_1, s⟩ => ?_
  obtain ⟨p_5, hp_5⟩ : ∃ p, p = zz x0 := ⟨_, rfl⟩
  rw [← hp_5] at s
  replace g := lift_let2 hp_5 g
  obtain ⟨a_5, c_5, rfl, r_5⟩ := s
  refine gAgg_intro rfl (uncons_intro (gBool_intro rfl (uncons_intro (gSlice_intro rfl (unnil_intro (?_))))))
  have r_5 := r_5.from k0.le
  have m_1 := k_1.tame
  have k0 := k0.trans k_1
  have kh := kh.trans k_1
  refine hc_intro (num_Of.hs i1) fun v h_2 ⟨k_2, s⟩ => ?_
  obtain ⟨p_6, hp_6⟩ : ∃ p, p = zz x1 := ⟨_, rfl⟩
  rw [← hp_6] at s
  replace g := lift_let2 hp_6 g
  obtain ⟨a_6, c_6, rfl, r_6⟩ := s
  refine gAgg_intro rfl (uncons_intro (gBool_intro rfl (uncons_intro (gSlice_intro rfl (unnil_intro (?_))))))
  have r_6 := r_6.from k0.le
  have m_2 := k_2.tame
  have k0 := k0.trans k_2
  have kh := kh.trans k_2
  refine boxV fun h_3 bx_7 k_3 => ?_
  have o_7 : h0.size ≤ h_2.size := k0.le
  have oh_7 : h.size ≤ h_2.size := kh.le
  have lt_7 := bx_7.lt
  have m_3 := k_3.tame
  have k0 := k0.trans k_3
  have kh := kh.trans k_3
  refine boxV fun h_4 bx_8 k_4 => ?_
  have d_7q_8 : h_2.size ≠ h_3.size := Nat.ne_of_lt bx_7.lt
  have o_8 : h0.size ≤ h_3.size := k0.le
  have oh_8 : h.size ≤ h_3.size := kh.le
  have lt_8 := bx_8.lt
  have m_4 := k_4.tame
  have bx_7 := bx_7.keep k_4
  have k0 := k0.trans k_4
  have kh := kh.trans k_4
  refine stA bx_7 (base_add _ _) rfl fun h_5 bx_7 k_5 m_5 => ?_
  have bx_8 := bx_8.keepB (Ne.symm d_7q_8) k_5
  have k0 := KeepB.keep k0 k_5 o_7
  have kh := KeepB.keep kh k_5 oh_7
  refine stA bx_7 (base_add _ _) rfl fun h_6 bx_7 k_6 m_6 => ?_
  have bx_8 := bx_8.keepB (Ne.symm d_7q_8) k_6
  have k0 := KeepB.keep k0 k_6 o_7
  have kh := KeepB.keep kh k_6 oh_7
  refine stA bx_8 (base_add _ _) rfl fun h_7 bx_8 k_7 m_7 => ?_
  have bx_7 := bx_7.keepB d_7q_8 k_7
  have k0 := KeepB.keep k0 k_7 o_8
  have kh := KeepB.keep kh k_7 oh_8
  refine stA bx_8 (base_add _ _) rfl fun h_8 bx_8 k_8 m_8 => ?_
  have bx_7 := bx_7.keepB d_7q_8 k_8
  have k0 := KeepB.keep k0 k_8 o_8
  have kh := KeepB.keep kh k_8 oh_8
  refine ldA bx_7 (base_add _ _) rfl ?_
  refine gBool_intro rfl ?_
  refine ldA bx_7 (base_add _ _) rfl ?_
  refine gSlice_intro rfl ?_
  refine hc_intro (num_Small.hs (r_5.tame (m_2.trans (m_3.trans (m_4.trans (m_5.trans (m_6.trans (m_7.trans m_8))))))).rd64 rfl) fun v h_9 ⟨k_9, s⟩ => ?_
  obtain ⟨p_9, hp_9⟩ : ∃ p, p = smaS (p_5.1, p_5.2) := ⟨_, rfl⟩
  rw [← hp_9] at s
  replace g := lift_let2 hp_9 g
  obtain ⟨_, _, rfl, ⟨rfl, i_9_0⟩, ⟨rfl, i_9_1⟩⟩ := s
  refine gTup_intro rfl (uncons_intro (gInt_intro rfl (uncons_intro (gInt_intro rfl (unnil_intro (?_))))))
  have m_9 := k_9.tame
  have bx_7 := bx_7.keep k_9
  have bx_8 := bx_8.keep k_9
  have k0 := k0.trans k_9
  have kh := kh.trans k_9
  refine lift_ne g (fun q_10 g => ?_) (fun q_10 g => ?_)
  · exact g _ _ k0 rfl
  · refine lift_ne g (fun q_11 g => ?_) (fun q_11 g => ?_)
    · exact g _ _ k0 rfl
    · refine ldA bx_7 (base_add _ _) rfl ?_
      refine gBool_intro rfl ?_
      refine ldA bx_7 (base_add _ _) rfl ?_
      refine gSlice_intro rfl ?_
      refine hc_intro (num_Form.hs (r_5.tame (m_2.trans (m_3.trans (m_4.trans (m_5.trans (m_6.trans (m_7.trans (m_8.trans m_9)))))))).rd64 rfl) fun v h_10 ⟨k_10, s⟩ => ?_
      obtain rfl := s
      refine gBool_intro rfl (?_)
      have m_10 := k_10.tame
      have bx_7 := bx_7.keep k_10
      have bx_8 := bx_8.keep k_10
      have k0 := k0.trans k_10
      have kh := kh.trans k_10
      refine lift_not g (fun q_13 g => ?_) (fun q_13 g => ?_)
      · exact g _ _ k0 rfl
      · refine ldA bx_7 (base_add _ _) rfl ?_
        refine gBool_intro rfl ?_
        refine ldA bx_7 (base_add _ _) rfl ?_
        refine gSlice_intro rfl ?_
        refine hc_intro (num_Sign.hs (r_5.tame (m_2.trans (m_3.trans (m_4.trans (m_5.trans (m_6.trans (m_7.trans (m_8.trans (m_9.trans m_10))))))))).rd64 rfl) fun v h_11 ⟨k_11, s⟩ => ?_
        obtain ⟨rfl, i_14⟩ := s
        refine gInt_intro rfl (?_)
        have m_11 := k_11.tame
        have bx_7 := bx_7.keep k_11
        have bx_8 := bx_8.keep k_11
        have k0 := k0.trans k_11
        have kh := kh.trans k_11
        refine lift_not g (fun q_15 g => ?_) (fun q_15 g => ?_)
        · exact g _ _ k0 rfl
        · refine ldA bx_7 (base_add _ _) rfl ?_
          refine gBool_intro rfl ?_
          refine ldA bx_7 (base_add _ _) rfl ?_
          refine gSlice_intro rfl ?_
          refine hc_intro (num_Sign.hs (r_5.tame (m_2.trans (m_3.trans (m_4.trans (m_5.trans (m_6.trans (m_7.trans (m_8.trans (m_9.trans (m_10.trans m_11)))))))))).rd64 rfl) fun v h_12 ⟨k_12, s⟩ => ?_
          obtain ⟨rfl, i_16⟩ := s
          refine gInt_intro rfl (?_)
          have m_12 := k_12.tame
          have bx_7 := bx_7.keep k_12
          have bx_8 := bx_8.keep k_12
          have k0 := k0.trans k_12
          have kh := kh.trans k_12
          refine lift_not g (fun q_17 g => ?_) (fun q_17 g => ?_)
          · exact g _ _ k0 rfl
          · exact D3.hv k0 i0 i1 (r_5.tame (m_2.trans (m_3.trans (m_4.trans (m_5.trans (m_6.trans (m_7.trans (m_8.trans (m_9.trans (m_10.trans (m_11.trans m_12))))))))))) bx_7 o_7 (r_6.tame (m_3.trans (m_4.trans (m_5.trans (m_6.trans (m_7.trans (m_8.trans (m_9.trans (m_10.trans (m_11.trans m_12)))))))))) bx_8 o_8 d_7q_8 (tb.tame (m_1.trans (m_2.trans (m_3.trans (m_4.trans (m_5.trans (m_6.trans (m_7.trans (m_8.trans (m_9.trans (m_10.trans (m_11.trans m_12)))))))))))) g
def D1.v (x0 : Int) (x1 : Int) : Bool :=
  bif (!(true)) then
    false
  else
    bif (!(true)) then
      false
    else
      D2.v x0 x1
theorem D1.hv {R : Rt} {h0 h : Hp} (k0 : Keep h0 h) {x0 : Int} (i0 : In .i64 x0) {x1 : Int} (i1 : In .i64 x1) (tb : Tab h) (g : Post sBool h0 R (D1.v x0 x1)) : D1.t R x0 x1 h := by
  have kh := Keep.refl h
  unfold D1.v at g
  unfold D1.t
  refine hc_intro (awake_hs) fun v h_1 ⟨k_1, s⟩ => ?_
  obtain rfl := s
  refine gBool_intro rfl (?_)
  have m_1 := k_1.tame
  have k0 := k0.trans k_1
  have kh := kh.trans k_1
  refine lift_not g (fun q_2 g => ?_) (fun q_2 g => ?_)
  · exact g _ _ k0 rfl
  · refine hc_intro (halves_hs (tb.tame (m_1))) fun v h_2 ⟨k_2, s⟩ => ?_
    obtain rfl := s
    refine gBool_intro rfl (?_)
    have m_2 := k_2.tame
    have k0 := k0.trans k_2
    have kh := kh.trans k_2
    refine lift_not g (fun q_4 g => ?_) (fun q_4 g => ?_)
    · exact g _ _ k0 rfl
    · exact D2.hv k0 i0 i1 (tb.tame (m_1.trans m_2)) g
def v (x0 : Int) (x1 : Int) : Bool := D1.v x0 x1
theorem hv {h : Hp} {x0 : Int} (i0 : In .i64 x0) {x1 : Int} (i1 : In .i64 x1) (tb : Tab h) : HC id #[.int .i64 x0, .int .i64 x1] h fun v_ h_ => Keep h h_ ∧ sBool h h_ v_ (v x0 x1) :=
  ok (D1.hv (Keep.refl _) i0 i1 tb fun v h' k s => ⟨k, s⟩)
end gnomonlaw04_NumSmalls

end Go.Proofs.YtpglfeeebnnkkaaDoor.G

/- Layer 4: a whole number as an argument. -/
namespace Go.Proofs.YtpglfeeebnnkkaaDoor.G
open Go.Gv
set_option linter.unusedVariables false
set_option maxRecDepth 100000
theorem zne : ((0 : Int) != 0) = false := rfl
/-! ### the laws -/
theorem says_oneZ {α β : Type} {S : Says α} {T : Says β} {h : Hp} {cs : List Value} {p : α × β} (z : saysCons S 1 T h cs p) : ∃ c rest, cs = c :: rest ∧ S h [c] p.1 ∧ T h rest p.2 := by
  obtain ⟨l, s, t⟩ := z
  cases cs with
  | nil => simp at l
  | cons c r => exact ⟨c, r, rfl, s, t⟩
abbrev saysInt4 : Says (Bool × List Nat × Unit) := saysCons saysBool 1 (saysCons saysWords 1 saysEnd)
theorem int4_open {h : Hp} {cs : Array Value} {x : Bool × List Nat × Unit} (z : saysInt4 h cs.toList x) : ∃ a c, cs = #[.bool x.1, .slice a x.2.1.length c] ∧ Rd h a c x.2.1 := by
  obtain ⟨v0, t0, e0, f0, z⟩ := says_oneZ z
  obtain ⟨v1, t1, e1, ⟨a1, c1, f1, r1, _⟩, z⟩ := says_oneZ z
  have z : t1 = [] := z
  have f0 : [v0] = [.bool x.1] := f0
  simp only [List.cons.injEq, and_true] at f0 f1
  subst f0 f1
  rw [e1, z] at e0
  exact ⟨a1, c1, Array.toList_inj.mp e0, r1⟩
end Go.Proofs.YtpglfeeebnnkkaaDoor.G

/- The law NumSmalls of the translation answers true. -/
namespace Go.Proofs.YtpglfeeebnnkkaaDoor.G
open Go.Gv
set_option linter.unusedVariables false
set_option maxRecDepth 100000
/-! ### small numbers -/
theorem tdiv_sg {p q : Bool} {A B : Nat} : Int.tdiv (sg p A) (sg q B) = sg (xor p q) (A / B) := by
  unfold sg
  cases p <;> cases q <;> simp [Int.neg_tdiv, Int.tdiv_neg] <;> exact (Int.ofNat_tdiv A B).symm ▸ rfl
theorem tmod_sg {p q : Bool} {A B : Nat} : Int.tmod (sg p A) (sg q B) = sg p (A % B) := by
  unfold sg
  cases p <;> cases q <;> simp [Int.neg_tmod, Int.tmod_neg] <;> exact (Int.ofNat_tmod A B).symm ▸ rfl
theorem flo_want {i j : Int} (hj : j ≠ 0) : flo i j = if Int.tmod i j ≠ 0 ∧ (decide (i < 0) == decide (j < 0)) = false then Int.tdiv i j - 1 else Int.tdiv i j := by
  obtain ⟨p, A, rfl, hp, _⟩ := sg_of i
  obtain ⟨q, B, rfl, hq, _⟩ := sg_of j
  have hB : B ≠ 0 := fun h => hj (sg_eq_zero.mpr h)
  rw [flo_sg hB hp, tdiv_sg, tmod_sg, sg_neg_of hp, sg_neg_of fun _ => hB]
  have e1 : (p == q) = false ↔ (xor p q) = true := by cases p <;> cases q <;> simp
  have e2 : sg p (A % B) ≠ 0 ↔ A % B ≠ 0 := not_congr sg_eq_zero
  by_cases c : (xor p q) = true ∧ A % B ≠ 0
  · rw [if_pos c, if_pos ⟨e2.mpr c.2, e1.mpr c.1⟩, c.1]
    unfold sg; simp; omega
  · rw [if_neg c, if_neg (fun h => c ⟨e1.mp h.2, e2.mp h.1⟩)]
theorem smalls_D6 {i j : Int} (hi : In .i64 i) (hj : In .i64 j) : gnomonlaw04_NumSmalls.D6.v i j (zz i).1 (zz i).2 (zz j).1 (zz j).2 = true := by
  rw [in_i64] at hi hj
  unfold gnomonlaw04_NumSmalls.D6.v
  by_cases h0 : j = 0
  · subst h0; rfl
  · have e0 : (j == 0) = false := by simp [h0]
    by_cases h1 : i = -9223372036854775808
    · subst h1; simp only [e0, cond_false]; rfl
    · have e1 : (i == -9223372036854775808) = false := by simp [h1]
      simp only [e0, e1, cond_false]
      unfold gnomonlaw04_NumSmalls.D7.v
      have si : SmZ i := sm_small (by omega)
      have sj : SmZ j := sm_small (by omega)
      have ha := flo_abs (a := i) h0
      have sf : SmZ (flo i j) := smZ_le ha si
      have r : -9223372036854775808 ≤ flo i j ∧ flo i j < 9223372036854775808 := by omega
      simp only [letV, eta2, quo_zz si sj h0, zlim_ok sf, sma_zz sf, if_pos r]
      have ht : (Int.tdiv i j).natAbs ≤ i.natAbs := by rw [Int.natAbs_tdiv]; exact Nat.div_le_self _ _
      have w1 : IntKind.i64.wrap (Int.tdiv i j) = Int.tdiv i j := wrap_i64 (by omega) (by omega)
      rw [w1]
      have hw := flo_want (i := i) h0
      unfold gnomonlaw04_NumSmalls.D8.v
      by_cases c1 : Int.tmod i j = 0
      · have : (Int.tmod i j != 0) = false := by simp [c1]
        rw [if_neg (fun h => h.1 c1)] at hw
        simp only [this, cond_false, hw, beq_self_eq_true, cond_true]
      · have : (Int.tmod i j != 0) = true := by simp [c1]
        simp only [this, cond_true]
        by_cases c2 : (decide (i < 0) == decide (j < 0)) = false
        · rw [if_pos ⟨c1, c2⟩] at hw
          have w2 : IntKind.i64.wrap (Int.tdiv i j - 1) = Int.tdiv i j - 1 := wrap_i64 (by omega) (by omega)
          simp only [c2, Bool.not_false, cond_true, w2, hw, beq_self_eq_true]
        · rw [if_neg (fun h => c2 h.2)] at hw
          have c3 : (decide (i < 0) == decide (j < 0)) = true := by simpa using c2
          simp only [c3, Bool.not_true, cond_false, hw, beq_self_eq_true, cond_true]
theorem smalls_D5 {i j : Int} (hi : In .i64 i) (hj : In .i64 j) {s : Int} (hs : s = i + j) {over : Bool} (ho : over = true ↔ ¬ (-9223372036854775808 ≤ s ∧ s < 9223372036854775808)) {x13 x14 : Int} (e : (x13, x14) = if -9223372036854775808 ≤ s ∧ s < 9223372036854775808 then (s, (0 : Int)) else (0, 5)) :
    gnomonlaw04_NumSmalls.D5.v i j (zz i).1 (zz i).2 (zz j).1 (zz j).2 0 x13 x14 over = true := by
  unfold gnomonlaw04_NumSmalls.D5.v
  simp only [zne, cond_false, smalls_D6 hi hj]
  by_cases c : -9223372036854775808 ≤ s ∧ s < 9223372036854775808
  · rw [if_pos c] at e
    simp only [Prod.mk.injEq] at e
    obtain ⟨rfl, rfl⟩ := e
    have : over = false := by
      cases over
      · rfl
      · exact absurd c (ho.mp rfl)
    subst this; subst hs
    rw [wrap_i64 c.1 c.2]
    simp
  · rw [if_neg c] at e
    simp only [Prod.mk.injEq] at e
    obtain ⟨rfl, rfl⟩ := e
    have : over = true := ho.mpr c
    subst this; rfl
theorem NumSmalls_v {i j : Int} (hi : In .i64 i) (hj : In .i64 j) : gnomonlaw04_NumSmalls.v i j = true := by
  have hi' := in_i64.mp hi; have hj' := in_i64.mp hj
  have si : SmZ i := sm_small (by omega)
  have sj : SmZ j := sm_small (by omega)
  have sij : SmZ (i + j) := sm_small (by omega)
  unfold gnomonlaw04_NumSmalls.v gnomonlaw04_NumSmalls.D1.v
  simp only [Bool.not_true, cond_false]
  unfold gnomonlaw04_NumSmalls.D2.v
  have r : -9223372036854775808 ≤ i ∧ i < 9223372036854775808 := by omega
  have ei : (i != i) = false := by simp
  simp only [letV, eta2, sma_zz si, if_pos r, zne, ei, cond_false, zi_zz, cmp_neg_iff, cmp_pos_iff, decide_eq_true (frm_zz si), Bool.not_true, beq_self_eq_true]
  unfold gnomonlaw04_NumSmalls.D3.v
  simp only [letV, eta2, cmp_zz si sj, zne, cond_false, cmp_lt_iff, cmp_gt_iff, Bool.not_true, beq_self_eq_true]
  unfold gnomonlaw04_NumSmalls.D4.v
  have ea : twoZ addI (zz i) (zz j) = (zz (i + j), 0) := by rw [two_zz addI si sj]; exact zlim_ok sij
  simp only [letV, eta2, ea, sma_zz sij]
  have fin : ∀ over : Bool, (over = true ↔ ¬ (-9223372036854775808 ≤ i + j ∧ i + j < 9223372036854775808)) → gnomonlaw04_NumSmalls.D5.v i j (zz i).1 (zz i).2 (zz j).1 (zz j).2 0 (if -9223372036854775808 ≤ i + j ∧ i + j < 9223372036854775808 then (i + j, (0 : Int)) else (0, 5)).1 (if -9223372036854775808 ≤ i + j ∧ i + j < 9223372036854775808 then (i + j, (0 : Int)) else (0, 5)).2 over = true := fun over ho => smalls_D5 hi hj rfl ho rfl
  by_cases p1 : j > 0
  · have w : IntKind.i64.wrap (9223372036854775807 - j) = 9223372036854775807 - j := wrap_i64 (by omega) (by omega)
    have p2 : ¬ j < 0 := by omega
    simp only [p1, p2, decide_true, decide_false, cond_true, cond_false, w]
    by_cases p3 : i > 9223372036854775807 - j
    · simp only [p3, decide_true, cond_true]
      exact fin true (by simp; omega)
    · simp only [p3, decide_false, cond_false]
      exact fin false (by simp; omega)
  · by_cases p2 : j < 0
    · have w : IntKind.i64.wrap (-9223372036854775808 - j) = -9223372036854775808 - j := wrap_i64 (by omega) (by omega)
      simp only [p1, p2, decide_true, decide_false, cond_true, cond_false, w]
      exact fin _ (by simp; omega)
    · simp only [p1, p2, decide_false, cond_false]
      exact fin false (by simp; omega)
section
variable {h : Hp} {cs ds : Array Value} {X Y : Bool × List Nat × Unit} {x y : Int}
theorem NumSmalls_law (i : -9223372036854775808 ≤ x ∧ x < 9223372036854775808) (j : -9223372036854775808 ≤ y ∧ y < 9223372036854775808) (tb : Tab h) : HC gnomonlaw04_NumSmalls.id #[.int .i64 x, .int .i64 y] h fun v h' => Keep h h' ∧ v = .bool true := by
  have := gnomonlaw04_NumSmalls.hv (in_i64.mpr i) (in_i64.mpr j) tb
  rw [NumSmalls_v (in_i64.mpr i) (in_i64.mpr j)] at this; exact this
end
end Go.Proofs.YtpglfeeebnnkkaaDoor.G
