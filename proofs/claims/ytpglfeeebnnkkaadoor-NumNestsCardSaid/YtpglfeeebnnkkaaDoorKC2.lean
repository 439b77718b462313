/- Texts of this work, joined: ZLNumNests, ZLawC, ZLawN. -/
import Derived.Test.YtpglfeeebnnkkaaDoorKB
import Derived.Test.YtpglfeeebnnkkaaDoorKC0
import Derived.Test.YtpglfeeebnnkkaaDoorKC1
/- Functions without loops as functions of values. Written by a program of this work. -/
namespace Go.Proofs.YtpglfeeebnnkkaaDoor.G
open Go.Gv
set_option linter.unusedVariables false
set_option maxRecDepth 100000
namespace gnomonlaw04_NumNests
def D9.v (x30 : Int) (x31 : Int) (x32 : Int) (x33 : Int) (b34 : Bool) : Bool :=
  bif (x31 == (0 : Int)) then
    bif (x33 == (0 : Int)) then
      bif (decide (x30 ≤ (0 : Int))) then
        bif (x30 == (0 : Int)) then
          bif (!b34) then
            (decide (x32 < (0 : Int)))
          else
            false
        else
          bif (!false) then
            (decide (x32 < (0 : Int)))
          else
            false
      else
        false
    else
      false
  else
    false
theorem D9.hv {R : Rt} {h0 h : Hp} (k0 : Keep h0 h) {x30 : Int} (i30 : In .i64 x30) {x31 : Int} (i31 : In .i64 x31) {x32 : Int} (i32 : In .i64 x32) {x33 : Int} (i33 : In .i64 x33) {b34 : Bool} (tb : Tab h) (g : Post sBool h0 R (D9.v x30 x31 x32 x33 b34)) : D9.t R x30 x31 x32 x33 b34 h := by
  have kh := Keep.refl h
  unfold D9.v at g
  unfold D9.t
  refine lift_eq g (fun q_68 g => ?_) (fun q_68 g => ?_)
  · refine lift_eq g (fun q_69 g => ?_) (fun q_69 g => ?_)
    · refine lift_dec g (fun q_70 g => ?_) (fun q_70 g => ?_)
      · refine lift_eq g (fun q_71 g => ?_) (fun q_71 g => ?_)
        · refine lift_not g (fun q_72 g => ?_) (fun q_72 g => ?_)
          · exact g _ _ k0 rfl
          · exact g _ _ k0 rfl
        · refine lift_not g (fun q_73 g => ?_) (fun q_73 g => ?_)
          · exact g _ _ k0 rfl
          · exact g _ _ k0 rfl
      · exact g _ _ k0 rfl
    · exact g _ _ k0 rfl
  · exact g _ _ k0 rfl
def D8.v (b7_0 : Bool) (xs7_1 : List Nat) (b13_0 : Bool) (xs13_1 : List Nat) (b15_0 : Bool) (xs15_1 : List Nat) (b27_0 : Bool) (xs27_1 : List Nat) : Bool :=
  letV (cmpS (false, xs27_1) (false, xs7_1)) fun p_65 =>
  letV (cmpS (false, xs15_1) (false, xs7_1)) fun p_66 =>
  bif (decide ((((xs13_1.length : Nat) : Int)) > (0 : Int))) then
    D9.v p_65.1 p_65.2 p_66.1 p_66.2 ((((Int.tmod (((xs13_1.getD 0 0 : Nat) : Int)) (2 : Int))) == (1 : Int)))
  else
    D9.v p_65.1 p_65.2 p_66.1 p_66.2 false
theorem D8.hv {R : Rt} {h0 h : Hp} (k0 : Keep h0 h) {b7_0 : Bool} {a7_1 : Option Addr} {c7_1 : Nat} {xs7_1 : List Nat} (r7_1 : GotE eU64 h0 h a7_1 c7_1 xs7_1) {B7 : Nat} (bx7 : BlkV h B7 [.bool b7_0, .slice a7_1 xs7_1.length c7_1]) (o7 : h0.size ≤ B7) {b13_0 : Bool} {a13_1 : Option Addr} {c13_1 : Nat} {xs13_1 : List Nat} (r13_1 : GotE eU64 h0 h a13_1 c13_1 xs13_1) {B13 : Nat} (bx13 : BlkV h B13 [.bool b13_0, .slice a13_1 xs13_1.length c13_1]) (o13 : h0.size ≤ B13) {b15_0 : Bool} {a15_1 : Option Addr} {c15_1 : Nat} {xs15_1 : List Nat} (r15_1 : GotE eU64 h0 h a15_1 c15_1 xs15_1) {B15 : Nat} (bx15 : BlkV h B15 [.bool b15_0, .slice a15_1 xs15_1.length c15_1]) (o15 : h0.size ≤ B15) {b27_0 : Bool} {a27_1 : Option Addr} {c27_1 : Nat} {xs27_1 : List Nat} (r27_1 : GotE eU64 h0 h a27_1 c27_1 xs27_1) {B27 : Nat} (bx27 : BlkV h B27 [.bool b27_0, .slice a27_1 xs27_1.length c27_1]) (o27 : h0.size ≤ B27) (d7q13 : B7 ≠ B13) (d7q15 : B7 ≠ B15) (d7q27 : B7 ≠ B27) (d13q15 : B13 ≠ B15) (d13q27 : B13 ≠ B27) (d15q27 : B15 ≠ B27) (tb : Tab h) (g : Post sBool h0 R (D8.v b7_0 xs7_1 b13_0 xs13_1 b15_0 xs15_1 b27_0 xs27_1)) : D8.t R (⟨B7, 0, none⟩ : Addr) (⟨B13, 0, none⟩ : Addr) (⟨B15, 0, none⟩ : Addr) (⟨B27, 0, none⟩ : Addr) h := by
  have kh := Keep.refl h
  have lt7 := bx7.lt
  have lt13 := bx13.lt
  have lt15 := bx15.lt
  have lt27 := bx27.lt
  unfold D8.v at g
  unfold D8.t
  refine stA bx27 (base_add _ _) rfl fun h_1 bx27 k_1 m_1 => ?_
  have bx7 := bx7.keepB d7q27 k_1
  have bx13 := bx13.keepB d13q27 k_1
  have bx15 := bx15.keepB d15q27 k_1
  have k0 := KeepB.keep k0 k_1 o27
  refine ldA bx7 (base_add _ _) rfl ?_
  refine gSlice_intro rfl ?_
  refine boxV fun h_2 bx_64 k_2 => ?_
  have d7q_64 : B7 ≠ h_1.size := Nat.ne_of_lt bx7.lt
  have d13q_64 : B13 ≠ h_1.size := Nat.ne_of_lt bx13.lt
  have d15q_64 : B15 ≠ h_1.size := Nat.ne_of_lt bx15.lt
  have d27q_64 : B27 ≠ h_1.size := Nat.ne_of_lt bx27.lt
  have o_64 : h0.size ≤ h_1.size := k0.le
  have lt_64 := bx_64.lt
  have m_2 := k_2.tame
  have bx7 := bx7.keep k_2
  have bx13 := bx13.keep k_2
  have bx15 := bx15.keep k_2
  have bx27 := bx27.keep k_2
  have k0 := k0.trans k_2
  refine stA bx_64 (base_add _ _) rfl fun h_3 bx_64 k_3 m_3 => ?_
  have bx7 := bx7.keepB d7q_64 k_3
  have bx13 := bx13.keepB d13q_64 k_3
  have bx15 := bx15.keepB d15q_64 k_3
  have bx27 := bx27.keepB d27q_64 k_3
  have k0 := KeepB.keep k0 k_3 o_64
  refine stA bx_64 (base_add _ _) rfl fun h_4 bx_64 k_4 m_4 => ?_
  have bx7 := bx7.keepB d7q_64 k_4
  have bx13 := bx13.keepB d13q_64 k_4
  have bx15 := bx15.keepB d15q_64 k_4
  have bx27 := bx27.keepB d27q_64 k_4
  have k0 := KeepB.keep k0 k_4 o_64
  refine ldA bx27 (base_add _ _) rfl ?_
  refine gBool_intro rfl ?_
  refine ldA bx27 (base_add _ _) rfl ?_
  refine gSlice_intro rfl ?_
  refine ldA bx_64 (base_add _ _) rfl ?_
  refine gBool_intro rfl ?_
  refine ldA bx_64 (base_add _ _) rfl ?_
  refine gSlice_intro rfl ?_
  refine hc_intro (num_Cmp.hs (r27_1.tame (m_1.trans (m_2.trans (m_3.trans m_4)))).rd64 rfl (r7_1.tame (m_1.trans (m_2.trans (m_3.trans m_4)))).rd64 rfl) fun v h_5 ⟨k_5, s⟩ => ?_
  obtain ⟨p_65, hp_65⟩ : ∃ p, p = cmpS (false, xs27_1) (false, xs7_1) := ⟨_, rfl⟩
  rw [← hp_65] at s
  replace g := lift_let2 hp_65 g
  obtain ⟨_, _, rfl, ⟨rfl, i_65_0⟩, ⟨rfl, i_65_1⟩⟩ := s
  refine gTup_intro rfl (uncons_intro (gInt_intro rfl (uncons_intro (gInt_intro rfl (unnil_intro (?_))))))
  have m_5 := k_5.tame
  have bx7 := bx7.keep k_5
  have bx13 := bx13.keep k_5
  have bx15 := bx15.keep k_5
  have bx27 := bx27.keep k_5
  have bx_64 := bx_64.keep k_5
  have k0 := k0.trans k_5
  refine ldA bx15 (base_add _ _) rfl ?_
  refine gSlice_intro rfl ?_
  refine ldA bx_64 (base_add _ _) rfl ?_
  refine gBool_intro rfl ?_
  refine ldA bx_64 (base_add _ _) rfl ?_
  refine gSlice_intro rfl ?_
  refine hc_intro (num_Cmp.hs (r15_1.tame (m_1.trans (m_2.trans (m_3.trans (m_4.trans m_5))))).rd64 rfl (r7_1.tame (m_1.trans (m_2.trans (m_3.trans (m_4.trans m_5))))).rd64 rfl) fun v h_6 ⟨k_6, s⟩ => ?_
  obtain ⟨p_66, hp_66⟩ : ∃ p, p = cmpS (false, xs15_1) (false, xs7_1) := ⟨_, rfl⟩
  rw [← hp_66] at s
  replace g := lift_let2 hp_66 g
  obtain ⟨_, _, rfl, ⟨rfl, i_66_0⟩, ⟨rfl, i_66_1⟩⟩ := s
  refine gTup_intro rfl (uncons_intro (gInt_intro rfl (uncons_intro (gInt_intro rfl (unnil_intro (?_))))))
  have m_6 := k_6.tame
  have bx7 := bx7.keep k_6
  have bx13 := bx13.keep k_6
  have bx15 := bx15.keep k_6
  have bx27 := bx27.keep k_6
  have bx_64 := bx_64.keep k_6
  have k0 := k0.trans k_6
  refine ldA bx13 (base_add _ _) rfl ?_
  refine gSlice_intro rfl ?_
  refine lift_dec g (fun q_67 g => ?_) (fun q_67 g => ?_)
  · refine ldA bx13 (base_add _ _) rfl ?_
    refine gSlice_intro rfl ?_
    refine at64 ((r13_1.tame (m_1.trans (m_2.trans (m_3.trans (m_4.trans (m_5.trans m_6)))))).rd64).toE (j := 0) (by first | assumption | decide | omega) rfl (by first | assumption | decide | omega) ?_
    refine ⟨(by first | assumption | decide | omega), ?_⟩
    refine letK_out ?_
    exact D9.hv k0 i_65_0 i_65_1 i_66_0 i_66_1 (tb.tame (m_1.trans (m_2.trans (m_3.trans (m_4.trans (m_5.trans m_6)))))) g
  · exact D9.hv k0 i_65_0 i_65_1 i_66_0 i_66_1 (tb.tame (m_1.trans (m_2.trans (m_3.trans (m_4.trans (m_5.trans m_6)))))) g
def D7.v (b5_0 : Bool) (xs5_1 : List Nat) (b7_0 : Bool) (xs7_1 : List Nat) (b13_0 : Bool) (xs13_1 : List Nat) (b15_0 : Bool) (xs15_1 : List Nat) : Bool :=
  letV (twoZ mulI (b13_0, xs13_1) (b7_0, xs7_1)) fun p_54 =>
  bif (p_54.2 != (0 : Int)) then
    bif (p_54.2 == (5 : Int)) then
      (((if (((xs7_1.length : Nat) : Int)) > (((xs5_1.length : Nat) : Int)) then (((xs7_1.length : Nat) : Int)) else (((xs5_1.length : Nat) : Int)))) == (8192 : Int))
    else
      false
  else
    letV (twoZ subI (b5_0, xs5_1) (p_54.1.1, p_54.1.2)) fun p_58 =>
    letV (shlZ (p_58.1.1, p_58.1.2) (1 : Int)) fun p_60 =>
    bif (p_58.2 != (0 : Int)) then
      false
    else
      bif (p_60.2 != (0 : Int)) then
        false
      else
        D8.v b7_0 xs7_1 b13_0 xs13_1 b15_0 xs15_1 p_60.1.1 p_60.1.2
theorem D7.hv {R : Rt} {h0 h : Hp} (k0 : Keep h0 h) {b5_0 : Bool} {a5_1 : Option Addr} {c5_1 : Nat} {xs5_1 : List Nat} (r5_1 : GotE eU64 h0 h a5_1 c5_1 xs5_1) {B5 : Nat} (bx5 : BlkV h B5 [.bool b5_0, .slice a5_1 xs5_1.length c5_1]) (o5 : h0.size ≤ B5) {b7_0 : Bool} {a7_1 : Option Addr} {c7_1 : Nat} {xs7_1 : List Nat} (r7_1 : GotE eU64 h0 h a7_1 c7_1 xs7_1) {B7 : Nat} (bx7 : BlkV h B7 [.bool b7_0, .slice a7_1 xs7_1.length c7_1]) (o7 : h0.size ≤ B7) {b13_0 : Bool} {a13_1 : Option Addr} {c13_1 : Nat} {xs13_1 : List Nat} (r13_1 : GotE eU64 h0 h a13_1 c13_1 xs13_1) {B13 : Nat} (bx13 : BlkV h B13 [.bool b13_0, .slice a13_1 xs13_1.length c13_1]) (o13 : h0.size ≤ B13) {b15_0 : Bool} {a15_1 : Option Addr} {c15_1 : Nat} {xs15_1 : List Nat} (r15_1 : GotE eU64 h0 h a15_1 c15_1 xs15_1) {B15 : Nat} (bx15 : BlkV h B15 [.bool b15_0, .slice a15_1 xs15_1.length c15_1]) (o15 : h0.size ≤ B15) (d5q7 : B5 ≠ B7) (d5q13 : B5 ≠ B13) (d5q15 : B5 ≠ B15) (d7q13 : B7 ≠ B13) (d7q15 : B7 ≠ B15) (d13q15 : B13 ≠ B15) (tb : Tab h) (g : Post sBool h0 R (D7.v b5_0 xs5_1 b7_0 xs7_1 b13_0 xs13_1 b15_0 xs15_1)) : D7.t R (⟨B5, 0, none⟩ : Addr) (⟨B7, 0, none⟩ : Addr) (⟨B13, 0, none⟩ : Addr) (⟨B15, 0, none⟩ : Addr) h := by
  have kh := Keep.refl h
  have lt5 := bx5.lt
  have lt7 := bx7.lt
  have lt13 := bx13.lt
  have lt15 := bx15.lt
  unfold D7.v at g
  unfold D7.t
  refine ldA bx13 (base_add _ _) rfl ?_
  refine gBool_intro rfl ?_
  refine ldA bx13 (base_add _ _) rfl ?_
  refine gSlice_intro rfl ?_
  refine ldA bx7 (base_add _ _) rfl ?_
  refine gBool_intro rfl ?_
  refine ldA bx7 (base_add _ _) rfl ?_
  refine gSlice_intro rfl ?_
  refine hc_intro (num_Mul.hs r13_1.rd64 rfl r7_1.rd64 rfl) fun v h_1 ⟨k_1, s⟩ => ?_
  obtain ⟨p_54, hp_54⟩ : ∃ p, p = twoZ mulI (b13_0, xs13_1) (b7_0, xs7_1) := ⟨_, rfl⟩
  rw [← hp_54] at s
  replace g := lift_let2 hp_54 g
  obtain ⟨_, _, rfl, ⟨a_54_0, c_54_0, rfl, r_54_0⟩, ⟨rfl, i_54_1⟩⟩ := s
  refine gTup_intro rfl (uncons_intro (gAgg_intro rfl (uncons_intro (gBool_intro rfl (uncons_intro (gSlice_intro rfl (unnil_intro (uncons_intro (gInt_intro rfl (unnil_intro (?_)))))))))))
  have r_54_0 := r_54_0.from k0.le
  have m_1 := k_1.tame
  have bx5 := bx5.keep k_1
  have bx7 := bx7.keep k_1
  have bx13 := bx13.keep k_1
  have bx15 := bx15.keep k_1
  have k0 := k0.trans k_1
  have kh := kh.trans k_1
  refine boxV fun h_2 bx_55 k_2 => ?_
  have d5q_55 : B5 ≠ h_1.size := Nat.ne_of_lt bx5.lt
  have d7q_55 : B7 ≠ h_1.size := Nat.ne_of_lt bx7.lt
  have d13q_55 : B13 ≠ h_1.size := Nat.ne_of_lt bx13.lt
  have d15q_55 : B15 ≠ h_1.size := Nat.ne_of_lt bx15.lt
  have o_55 : h0.size ≤ h_1.size := k0.le
  have oh_55 : h.size ≤ h_1.size := kh.le
  have lt_55 := bx_55.lt
  have m_2 := k_2.tame
  have bx5 := bx5.keep k_2
  have bx7 := bx7.keep k_2
  have bx13 := bx13.keep k_2
  have bx15 := bx15.keep k_2
  have k0 := k0.trans k_2
  have kh := kh.trans k_2
  refine stA bx_55 (base_add _ _) rfl fun h_3 bx_55 k_3 m_3 => ?_
  have bx5 := bx5.keepB d5q_55 k_3
  have bx7 := bx7.keepB d7q_55 k_3
  have bx13 := bx13.keepB d13q_55 k_3
  have bx15 := bx15.keepB d15q_55 k_3
  have k0 := KeepB.keep k0 k_3 o_55
  have kh := KeepB.keep kh k_3 oh_55
  refine stA bx_55 (base_add _ _) rfl fun h_4 bx_55 k_4 m_4 => ?_
  have bx5 := bx5.keepB d5q_55 k_4
  have bx7 := bx7.keepB d7q_55 k_4
  have bx13 := bx13.keepB d13q_55 k_4
  have bx15 := bx15.keepB d15q_55 k_4
  have k0 := KeepB.keep k0 k_4 o_55
  have kh := KeepB.keep kh k_4 oh_55
  refine lift_ne g (fun q_56 g => ?_) (fun q_56 g => ?_)
  · refine lift_eq g (fun q_57 g => ?_) (fun q_57 g => ?_)
    · refine ldA bx5 (base_add _ _) rfl ?_
      refine gSlice_intro rfl ?_
      refine ldA bx7 (base_add _ _) rfl ?_
      refine gSlice_intro rfl ?_
      exact g _ _ k0 rfl
    · exact g _ _ k0 rfl
  · refine ldA bx5 (base_add _ _) rfl ?_
    refine gBool_intro rfl ?_
    refine ldA bx5 (base_add _ _) rfl ?_
    refine gSlice_intro rfl ?_
    refine ldA bx_55 (base_add _ _) rfl ?_
    refine gBool_intro rfl ?_
    refine ldA bx_55 (base_add _ _) rfl ?_
    refine gSlice_intro rfl ?_
    refine hc_intro (num_Sub.hs (r5_1.tame (m_1.trans (m_2.trans (m_3.trans m_4)))).rd64 rfl (r_54_0.tame (m_2.trans (m_3.trans m_4))).rd64 rfl) fun v h_5 ⟨k_5, s⟩ => ?_
    obtain ⟨p_58, hp_58⟩ : ∃ p, p = twoZ subI (b5_0, xs5_1) (p_54.1.1, p_54.1.2) := ⟨_, rfl⟩
    rw [← hp_58] at s
    replace g := lift_let2 hp_58 g
    obtain ⟨_, _, rfl, ⟨a_58_0, c_58_0, rfl, r_58_0⟩, ⟨rfl, i_58_1⟩⟩ := s
    refine gTup_intro rfl (uncons_intro (gAgg_intro rfl (uncons_intro (gBool_intro rfl (uncons_intro (gSlice_intro rfl (unnil_intro (uncons_intro (gInt_intro rfl (unnil_intro (?_)))))))))))
    have r_58_0 := r_58_0.from k0.le
    have m_5 := k_5.tame
    have bx5 := bx5.keep k_5
    have bx7 := bx7.keep k_5
    have bx13 := bx13.keep k_5
    have bx15 := bx15.keep k_5
    have bx_55 := bx_55.keep k_5
    have k0 := k0.trans k_5
    have kh := kh.trans k_5
    refine boxV fun h_6 bx_59 k_6 => ?_
    have d5q_59 : B5 ≠ h_5.size := Nat.ne_of_lt bx5.lt
    have d7q_59 : B7 ≠ h_5.size := Nat.ne_of_lt bx7.lt
    have d13q_59 : B13 ≠ h_5.size := Nat.ne_of_lt bx13.lt
    have d15q_59 : B15 ≠ h_5.size := Nat.ne_of_lt bx15.lt
    have d_55q_59 : h_1.size ≠ h_5.size := Nat.ne_of_lt bx_55.lt
    have o_59 : h0.size ≤ h_5.size := k0.le
    have oh_59 : h.size ≤ h_5.size := kh.le
    have lt_59 := bx_59.lt
    have m_6 := k_6.tame
    have bx5 := bx5.keep k_6
    have bx7 := bx7.keep k_6
    have bx13 := bx13.keep k_6
    have bx15 := bx15.keep k_6
    have bx_55 := bx_55.keep k_6
    have k0 := k0.trans k_6
    have kh := kh.trans k_6
    refine stA bx_59 (base_add _ _) rfl fun h_7 bx_59 k_7 m_7 => ?_
    have bx5 := bx5.keepB d5q_59 k_7
    have bx7 := bx7.keepB d7q_59 k_7
    have bx13 := bx13.keepB d13q_59 k_7
    have bx15 := bx15.keepB d15q_59 k_7
    have bx_55 := bx_55.keepB d_55q_59 k_7
    have k0 := KeepB.keep k0 k_7 o_59
    have kh := KeepB.keep kh k_7 oh_59
    refine stA bx_59 (base_add _ _) rfl fun h_8 bx_59 k_8 m_8 => ?_
    have bx5 := bx5.keepB d5q_59 k_8
    have bx7 := bx7.keepB d7q_59 k_8
    have bx13 := bx13.keepB d13q_59 k_8
    have bx15 := bx15.keepB d15q_59 k_8
    have bx_55 := bx_55.keepB d_55q_59 k_8
    have k0 := KeepB.keep k0 k_8 o_59
    have kh := KeepB.keep kh k_8 oh_59
    refine ldA bx_59 (base_add _ _) rfl ?_
    refine gBool_intro rfl ?_
    refine ldA bx_59 (base_add _ _) rfl ?_
    refine gSlice_intro rfl ?_
    refine hc_intro (num_Shl.hs (r_58_0.tame (m_6.trans (m_7.trans m_8))).rd64 rfl (show In .i64 (1 : Int) by decide)) fun v h_9 ⟨k_9, s⟩ => ?_
    obtain ⟨p_60, hp_60⟩ : ∃ p, p = shlZ (p_58.1.1, p_58.1.2) (1 : Int) := ⟨_, rfl⟩
    rw [← hp_60] at s
    replace g := lift_let2 hp_60 g
    obtain ⟨_, _, rfl, ⟨a_60_0, c_60_0, rfl, r_60_0⟩, ⟨rfl, i_60_1⟩⟩ := s
    refine gTup_intro rfl (uncons_intro (gAgg_intro rfl (uncons_intro (gBool_intro rfl (uncons_intro (gSlice_intro rfl (unnil_intro (uncons_intro (gInt_intro rfl (unnil_intro (?_)))))))))))
    have r_60_0 := r_60_0.from k0.le
    have m_9 := k_9.tame
    have bx5 := bx5.keep k_9
    have bx7 := bx7.keep k_9
    have bx13 := bx13.keep k_9
    have bx15 := bx15.keep k_9
    have bx_55 := bx_55.keep k_9
    have bx_59 := bx_59.keep k_9
    have k0 := k0.trans k_9
    have kh := kh.trans k_9
    refine boxV fun h_10 bx_61 k_10 => ?_
    have d5q_61 : B5 ≠ h_9.size := Nat.ne_of_lt bx5.lt
    have d7q_61 : B7 ≠ h_9.size := Nat.ne_of_lt bx7.lt
    have d13q_61 : B13 ≠ h_9.size := Nat.ne_of_lt bx13.lt
    have d15q_61 : B15 ≠ h_9.size := Nat.ne_of_lt bx15.lt
    have d_55q_61 : h_1.size ≠ h_9.size := Nat.ne_of_lt bx_55.lt
    have d_59q_61 : h_5.size ≠ h_9.size := Nat.ne_of_lt bx_59.lt
    have o_61 : h0.size ≤ h_9.size := k0.le
    have oh_61 : h.size ≤ h_9.size := kh.le
    have lt_61 := bx_61.lt
    have m_10 := k_10.tame
    have bx5 := bx5.keep k_10
    have bx7 := bx7.keep k_10
    have bx13 := bx13.keep k_10
    have bx15 := bx15.keep k_10
    have bx_55 := bx_55.keep k_10
    have bx_59 := bx_59.keep k_10
    have k0 := k0.trans k_10
    have kh := kh.trans k_10
    refine stA bx_61 (base_add _ _) rfl fun h_11 bx_61 k_11 m_11 => ?_
    have bx5 := bx5.keepB d5q_61 k_11
    have bx7 := bx7.keepB d7q_61 k_11
    have bx13 := bx13.keepB d13q_61 k_11
    have bx15 := bx15.keepB d15q_61 k_11
    have bx_55 := bx_55.keepB d_55q_61 k_11
    have bx_59 := bx_59.keepB d_59q_61 k_11
    have k0 := KeepB.keep k0 k_11 o_61
    have kh := KeepB.keep kh k_11 oh_61
    refine stA bx_61 (base_add _ _) rfl fun h_12 bx_61 k_12 m_12 => ?_
    have bx5 := bx5.keepB d5q_61 k_12
    have bx7 := bx7.keepB d7q_61 k_12
    have bx13 := bx13.keepB d13q_61 k_12
    have bx15 := bx15.keepB d15q_61 k_12
    have bx_55 := bx_55.keepB d_55q_61 k_12
    have bx_59 := bx_59.keepB d_59q_61 k_12
    have k0 := KeepB.keep k0 k_12 o_61
    have kh := KeepB.keep kh k_12 oh_61
    refine lift_ne g (fun q_62 g => ?_) (fun q_62 g => ?_)
    · exact g _ _ k0 rfl
    · refine lift_ne g (fun q_63 g => ?_) (fun q_63 g => ?_)
      · exact g _ _ k0 rfl
      · exact D8.hv k0 (r7_1.tame (m_1.trans (m_2.trans (m_3.trans (m_4.trans (m_5.trans (m_6.trans (m_7.trans (m_8.trans (m_9.trans (m_10.trans (m_11.trans m_12)))))))))))) bx7 o7 (r13_1.tame (m_1.trans (m_2.trans (m_3.trans (m_4.trans (m_5.trans (m_6.trans (m_7.trans (m_8.trans (m_9.trans (m_10.trans (m_11.trans m_12)))))))))))) bx13 o13 (r15_1.tame (m_1.trans (m_2.trans (m_3.trans (m_4.trans (m_5.trans (m_6.trans (m_7.trans (m_8.trans (m_9.trans (m_10.trans (m_11.trans m_12)))))))))))) bx15 o15 (r_60_0.tame (m_10.trans (m_11.trans m_12))) bx_61 o_61 d7q13 d7q15 d7q_61 d13q15 d13q_61 d15q_61 (tb.tame (m_1.trans (m_2.trans (m_3.trans (m_4.trans (m_5.trans (m_6.trans (m_7.trans (m_8.trans (m_9.trans (m_10.trans (m_11.trans m_12)))))))))))) g
def D6.v (b5_0 : Bool) (xs5_1 : List Nat) (b7_0 : Bool) (xs7_1 : List Nat) (b9_0 : Bool) (xs9_1 : List Nat) (b11_0 : Bool) (xs11_1 : List Nat) (b13_0 : Bool) (xs13_1 : List Nat) (b15_0 : Bool) (xs15_1 : List Nat) : Bool :=
  bif (!(decide ((b13_0, xs13_1) = (b9_0, xs9_1)))) then
    bif (!(decide ((b13_0, xs13_1) = (b11_0, xs11_1)))) then
      false
    else
      D7.v b5_0 xs5_1 b7_0 xs7_1 b13_0 xs13_1 b15_0 xs15_1
  else
    D7.v b5_0 xs5_1 b7_0 xs7_1 b13_0 xs13_1 b15_0 xs15_1
theorem D6.hv {R : Rt} {h0 h : Hp} (k0 : Keep h0 h) {b5_0 : Bool} {a5_1 : Option Addr} {c5_1 : Nat} {xs5_1 : List Nat} (r5_1 : GotE eU64 h0 h a5_1 c5_1 xs5_1) {B5 : Nat} (bx5 : BlkV h B5 [.bool b5_0, .slice a5_1 xs5_1.length c5_1]) (o5 : h0.size ≤ B5) {b7_0 : Bool} {a7_1 : Option Addr} {c7_1 : Nat} {xs7_1 : List Nat} (r7_1 : GotE eU64 h0 h a7_1 c7_1 xs7_1) {B7 : Nat} (bx7 : BlkV h B7 [.bool b7_0, .slice a7_1 xs7_1.length c7_1]) (o7 : h0.size ≤ B7) {b9_0 : Bool} {a9_1 : Option Addr} {c9_1 : Nat} {xs9_1 : List Nat} (r9_1 : GotE eU64 h0 h a9_1 c9_1 xs9_1) {B9 : Nat} (bx9 : BlkV h B9 [.bool b9_0, .slice a9_1 xs9_1.length c9_1]) (o9 : h0.size ≤ B9) {b11_0 : Bool} {a11_1 : Option Addr} {c11_1 : Nat} {xs11_1 : List Nat} (r11_1 : GotE eU64 h0 h a11_1 c11_1 xs11_1) {B11 : Nat} (bx11 : BlkV h B11 [.bool b11_0, .slice a11_1 xs11_1.length c11_1]) (o11 : h0.size ≤ B11) {b13_0 : Bool} {a13_1 : Option Addr} {c13_1 : Nat} {xs13_1 : List Nat} (r13_1 : GotE eU64 h0 h a13_1 c13_1 xs13_1) {B13 : Nat} (bx13 : BlkV h B13 [.bool b13_0, .slice a13_1 xs13_1.length c13_1]) (o13 : h0.size ≤ B13) {b15_0 : Bool} {a15_1 : Option Addr} {c15_1 : Nat} {xs15_1 : List Nat} (r15_1 : GotE eU64 h0 h a15_1 c15_1 xs15_1) {B15 : Nat} (bx15 : BlkV h B15 [.bool b15_0, .slice a15_1 xs15_1.length c15_1]) (o15 : h0.size ≤ B15) (d5q7 : B5 ≠ B7) (d5q9 : B5 ≠ B9) (d5q11 : B5 ≠ B11) (d5q13 : B5 ≠ B13) (d5q15 : B5 ≠ B15) (d7q9 : B7 ≠ B9) (d7q11 : B7 ≠ B11) (d7q13 : B7 ≠ B13) (d7q15 : B7 ≠ B15) (d9q11 : B9 ≠ B11) (d9q13 : B9 ≠ B13) (d9q15 : B9 ≠ B15) (d11q13 : B11 ≠ B13) (d11q15 : B11 ≠ B15) (d13q15 : B13 ≠ B15) (tb : Tab h) (g : Post sBool h0 R (D6.v b5_0 xs5_1 b7_0 xs7_1 b9_0 xs9_1 b11_0 xs11_1 b13_0 xs13_1 b15_0 xs15_1)) : D6.t R (⟨B5, 0, none⟩ : Addr) (⟨B7, 0, none⟩ : Addr) (⟨B9, 0, none⟩ : Addr) (⟨B11, 0, none⟩ : Addr) (⟨B13, 0, none⟩ : Addr) (⟨B15, 0, none⟩ : Addr) h := by
  have kh := Keep.refl h
  have lt5 := bx5.lt
  have lt7 := bx7.lt
  have lt9 := bx9.lt
  have lt11 := bx11.lt
  have lt13 := bx13.lt
  have lt15 := bx15.lt
  unfold D6.v at g
  unfold D6.t
  refine ldA bx13 (base_add _ _) rfl ?_
  refine gBool_intro rfl ?_
  refine ldA bx13 (base_add _ _) rfl ?_
  refine gSlice_intro rfl ?_
  refine ldA bx9 (base_add _ _) rfl ?_
  refine gBool_intro rfl ?_
  refine ldA bx9 (base_add _ _) rfl ?_
  refine gSlice_intro rfl ?_
  refine hc_intro (gnomonlaw04_same.hs r13_1.rd64 rfl r9_1.rd64 rfl) fun v h_1 ⟨k_1, s⟩ => ?_
  obtain rfl := s
  refine gBool_intro rfl (?_)
  have m_1 := k_1.tame
  have bx5 := bx5.keep k_1
  have bx7 := bx7.keep k_1
  have bx9 := bx9.keep k_1
  have bx11 := bx11.keep k_1
  have bx13 := bx13.keep k_1
  have bx15 := bx15.keep k_1
  have k0 := k0.trans k_1
  have kh := kh.trans k_1
  refine lift_not g (fun q_51 g => ?_) (fun q_51 g => ?_)
  · refine ldA bx13 (base_add _ _) rfl ?_
    refine gBool_intro rfl ?_
    refine ldA bx13 (base_add _ _) rfl ?_
    refine gSlice_intro rfl ?_
    refine ldA bx11 (base_add _ _) rfl ?_
    refine gBool_intro rfl ?_
    refine ldA bx11 (base_add _ _) rfl ?_
    refine gSlice_intro rfl ?_
    refine hc_intro (gnomonlaw04_same.hs (r13_1.tame (m_1)).rd64 rfl (r11_1.tame (m_1)).rd64 rfl) fun v h_2 ⟨k_2, s⟩ => ?_
    obtain rfl := s
    refine gBool_intro rfl (?_)
    have m_2 := k_2.tame
    have bx5 := bx5.keep k_2
    have bx7 := bx7.keep k_2
    have bx9 := bx9.keep k_2
    have bx11 := bx11.keep k_2
    have bx13 := bx13.keep k_2
    have bx15 := bx15.keep k_2
    have k0 := k0.trans k_2
    have kh := kh.trans k_2
    refine lift_not g (fun q_53 g => ?_) (fun q_53 g => ?_)
    · exact g _ _ k0 rfl
    · exact D7.hv k0 (r5_1.tame (m_1.trans m_2)) bx5 o5 (r7_1.tame (m_1.trans m_2)) bx7 o7 (r13_1.tame (m_1.trans m_2)) bx13 o13 (r15_1.tame (m_1.trans m_2)) bx15 o15 d5q7 d5q13 d5q15 d7q13 d7q15 d13q15 (tb.tame (m_1.trans m_2)) g
  · exact D7.hv k0 (r5_1.tame (m_1)) bx5 o5 (r7_1.tame (m_1)) bx7 o7 (r13_1.tame (m_1)) bx13 o13 (r15_1.tame (m_1)) bx15 o15 d5q7 d5q13 d5q15 d7q13 d7q15 d13q15 (tb.tame (m_1)) g
def D5.v (b5_0 : Bool) (xs5_1 : List Nat) (b7_0 : Bool) (xs7_1 : List Nat) (b9_0 : Bool) (xs9_1 : List Nat) (b11_0 : Bool) (xs11_1 : List Nat) (b13_0 : Bool) (xs13_1 : List Nat) (b15_0 : Bool) (xs15_1 : List Nat) : Bool :=
  letV (twoZ subI (b11_0, xs11_1) (b9_0, xs9_1)) fun p_39 =>
  bif (p_39.2 != (0 : Int)) then
    false
  else
    letV (zz (0 : Int)) fun p_42 =>
    bif (!((decide ((p_39.1.1, p_39.1.2) = (p_42.1, p_42.2))) == (((cmpZ (zi (b15_0, xs15_1)) 0)) == (0 : Int)))) then
      false
    else
      letV (zz (1 : Int)) fun p_46 =>
      bif (!((decide ((p_39.1.1, p_39.1.2) = (p_46.1, p_46.2))) == (((cmpZ (zi (b15_0, xs15_1)) 0)) != (0 : Int)))) then
        false
      else
        D6.v b5_0 xs5_1 b7_0 xs7_1 b9_0 xs9_1 b11_0 xs11_1 b13_0 xs13_1 b15_0 xs15_1
theorem D5.hv {R : Rt} {h0 h : Hp} (k0 : Keep h0 h) {b5_0 : Bool} {a5_1 : Option Addr} {c5_1 : Nat} {xs5_1 : List Nat} (r5_1 : GotE eU64 h0 h a5_1 c5_1 xs5_1) {B5 : Nat} (bx5 : BlkV h B5 [.bool b5_0, .slice a5_1 xs5_1.length c5_1]) (o5 : h0.size ≤ B5) {b7_0 : Bool} {a7_1 : Option Addr} {c7_1 : Nat} {xs7_1 : List Nat} (r7_1 : GotE eU64 h0 h a7_1 c7_1 xs7_1) {B7 : Nat} (bx7 : BlkV h B7 [.bool b7_0, .slice a7_1 xs7_1.length c7_1]) (o7 : h0.size ≤ B7) {b9_0 : Bool} {a9_1 : Option Addr} {c9_1 : Nat} {xs9_1 : List Nat} (r9_1 : GotE eU64 h0 h a9_1 c9_1 xs9_1) {B9 : Nat} (bx9 : BlkV h B9 [.bool b9_0, .slice a9_1 xs9_1.length c9_1]) (o9 : h0.size ≤ B9) {b11_0 : Bool} {a11_1 : Option Addr} {c11_1 : Nat} {xs11_1 : List Nat} (r11_1 : GotE eU64 h0 h a11_1 c11_1 xs11_1) {B11 : Nat} (bx11 : BlkV h B11 [.bool b11_0, .slice a11_1 xs11_1.length c11_1]) (o11 : h0.size ≤ B11) {b13_0 : Bool} {a13_1 : Option Addr} {c13_1 : Nat} {xs13_1 : List Nat} (r13_1 : GotE eU64 h0 h a13_1 c13_1 xs13_1) {B13 : Nat} (bx13 : BlkV h B13 [.bool b13_0, .slice a13_1 xs13_1.length c13_1]) (o13 : h0.size ≤ B13) {b15_0 : Bool} {a15_1 : Option Addr} {c15_1 : Nat} {xs15_1 : List Nat} (r15_1 : GotE eU64 h0 h a15_1 c15_1 xs15_1) {B15 : Nat} (bx15 : BlkV h B15 [.bool b15_0, .slice a15_1 xs15_1.length c15_1]) (o15 : h0.size ≤ B15) (d5q7 : B5 ≠ B7) (d5q9 : B5 ≠ B9) (d5q11 : B5 ≠ B11) (d5q13 : B5 ≠ B13) (d5q15 : B5 ≠ B15) (d7q9 : B7 ≠ B9) (d7q11 : B7 ≠ B11) (d7q13 : B7 ≠ B13) (d7q15 : B7 ≠ B15) (d9q11 : B9 ≠ B11) (d9q13 : B9 ≠ B13) (d9q15 : B9 ≠ B15) (d11q13 : B11 ≠ B13) (d11q15 : B11 ≠ B15) (d13q15 : B13 ≠ B15) (tb : Tab h) (g : Post sBool h0 R (D5.v b5_0 xs5_1 b7_0 xs7_1 b9_0 xs9_1 b11_0 xs11_1 b13_0 xs13_1 b15_0 xs15_1)) : D5.t R (⟨B5, 0, none⟩ : Addr) (⟨B7, 0, none⟩ : Addr) (⟨B9, 0, none⟩ : Addr) (⟨B11, 0, none⟩ : Addr) (⟨B13, 0, none⟩ : Addr) (⟨B15, 0, none⟩ : Addr) h := by
  have kh := Keep.refl h
  have lt5 := bx5.lt
  have lt7 := bx7.lt
  have lt9 := bx9.lt
  have lt11 := bx11.lt
  have lt13 := bx13.lt
  have lt15 := bx15.lt
  unfold D5.v at g
  unfold D5.t
  refine ldA bx11 (base_add _ _) rfl ?_
  refine gBool_intro rfl ?_
  refine ldA bx11 (base_add _ _) rfl ?_
  refine gSlice_intro rfl ?_
  refine ldA bx9 (base_add _ _) rfl ?_
  refine gBool_intro rfl ?_
  refine ldA bx9 (base_add _ _) rfl ?_
  refine gSlice_intro rfl ?_
  refine hc_intro (num_Sub.hs r11_1.rd64 rfl r9_1.rd64 rfl) fun v h_1 ⟨k_1, s⟩ => ?_
  obtain ⟨p_39, hp_39⟩ : ∃ p, p = twoZ subI (b11_0, xs11_1) (b9_0, xs9_1) := ⟨_, rfl⟩
  rw [← hp_39] at s
  replace g := lift_let2 hp_39 g
  obtain ⟨_, _, rfl, ⟨a_39_0, c_39_0, rfl, r_39_0⟩, ⟨rfl, i_39_1⟩⟩ := s
  refine gTup_intro rfl (uncons_intro (gAgg_intro rfl (uncons_intro (gBool_intro rfl (uncons_intro (gSlice_intro rfl (unnil_intro (uncons_intro (gInt_intro rfl (unnil_intro (?_)))))))))))
  have r_39_0 := r_39_0.from k0.le
  have m_1 := k_1.tame
  have bx5 := bx5.keep k_1
  have bx7 := bx7.keep k_1
  have bx9 := bx9.keep k_1
  have bx11 := bx11.keep k_1
  have bx13 := bx13.keep k_1
  have bx15 := bx15.keep k_1
  have k0 := k0.trans k_1
  have kh := kh.trans k_1
  refine boxV fun h_2 bx_40 k_2 => ?_
  have d5q_40 : B5 ≠ h_1.size := Nat.ne_of_lt bx5.lt
  have d7q_40 : B7 ≠ h_1.size := Nat.ne_of_lt bx7.lt
  have d9q_40 : B9 ≠ h_1.size := Nat.ne_of_lt bx9.lt
  have d11q_40 : B11 ≠ h_1.size := Nat.ne_of_lt bx11.lt
  have d13q_40 : B13 ≠ h_1.size := Nat.ne_of_lt bx13.lt
  have d15q_40 : B15 ≠ h_1.size := Nat.ne_of_lt bx15.lt
  have o_40 : h0.size ≤ h_1.size := k0.le
  have oh_40 : h.size ≤ h_1.size := kh.le
  have lt_40 := bx_40.lt
  have m_2 := k_2.tame
  have bx5 := bx5.keep k_2
  have bx7 := bx7.keep k_2
  have bx9 := bx9.keep k_2
  have bx11 := bx11.keep k_2
  have bx13 := bx13.keep k_2
  have bx15 := bx15.keep k_2
  have k0 := k0.trans k_2
  have kh := kh.trans k_2
  refine stA bx_40 (base_add _ _) rfl fun h_3 bx_40 k_3 m_3 => ?_
  have bx5 := bx5.keepB d5q_40 k_3
  have bx7 := bx7.keepB d7q_40 k_3
  have bx9 := bx9.keepB d9q_40 k_3
  have bx11 := bx11.keepB d11q_40 k_3
  have bx13 := bx13.keepB d13q_40 k_3
  have bx15 := bx15.keepB d15q_40 k_3
  have k0 := KeepB.keep k0 k_3 o_40
  have kh := KeepB.keep kh k_3 oh_40
  refine stA bx_40 (base_add _ _) rfl fun h_4 bx_40 k_4 m_4 => ?_
  have bx5 := bx5.keepB d5q_40 k_4
  have bx7 := bx7.keepB d7q_40 k_4
  have bx9 := bx9.keepB d9q_40 k_4
  have bx11 := bx11.keepB d11q_40 k_4
  have bx13 := bx13.keepB d13q_40 k_4
  have bx15 := bx15.keepB d15q_40 k_4
  have k0 := KeepB.keep k0 k_4 o_40
  have kh := KeepB.keep kh k_4 oh_40
  refine lift_ne g (fun q_41 g => ?_) (fun q_41 g => ?_)
  · exact g _ _ k0 rfl
  · refine ⟨blkLt rfl ((m_3.trans m_4).lt lt_40), ?_⟩
    refine ldA bx_40 (base_add _ _) rfl ?_
    refine gBool_intro rfl ?_
    refine ldA bx_40 (base_add _ _) rfl ?_
    refine gSlice_intro rfl ?_
    refine hc_intro (gnomonref04_DocOf.hs (show In .i64 (0 : Int) by decide)) fun v h_5 ⟨k_5, s⟩ => ?_
    obtain ⟨p_42, hp_42⟩ : ∃ p, p = zz (0 : Int) := ⟨_, rfl⟩
    rw [← hp_42] at s
    replace g := lift_let2 hp_42 g
    obtain ⟨a_42, c_42, rfl, r_42⟩ := s
    refine gAgg_intro rfl (uncons_intro (gBool_intro rfl (uncons_intro (gSlice_intro rfl (unnil_intro (?_))))))
    have r_42 := r_42.from k0.le
    have m_5 := k_5.tame
    have bx5 := bx5.keep k_5
    have bx7 := bx7.keep k_5
    have bx9 := bx9.keep k_5
    have bx11 := bx11.keep k_5
    have bx13 := bx13.keep k_5
    have bx15 := bx15.keep k_5
    have bx_40 := bx_40.keep k_5
    have k0 := k0.trans k_5
    have kh := kh.trans k_5
    refine ⟨k_5.preLe (Nat.le_refl _), ?_⟩
    refine hc_intro (gnomonlaw04_same.hs (r_39_0.tame (m_2.trans (m_3.trans (m_4.trans m_5)))).rd64 rfl r_42.rd64 rfl) fun v h_6 ⟨k_6, s⟩ => ?_
    obtain rfl := s
    refine gBool_intro rfl (?_)
    have m_6 := k_6.tame
    have bx5 := bx5.keep k_6
    have bx7 := bx7.keep k_6
    have bx9 := bx9.keep k_6
    have bx11 := bx11.keep k_6
    have bx13 := bx13.keep k_6
    have bx15 := bx15.keep k_6
    have bx_40 := bx_40.keep k_6
    have k0 := k0.trans k_6
    have kh := kh.trans k_6
    refine ⟨k_6.preLe (m_5).le, ?_⟩
    refine ⟨blkLt rfl ((m_1.trans (m_2.trans (m_3.trans m_4))).lt lt15), ?_⟩
    refine ldA bx15 (base_add _ _) rfl ?_
    refine gBool_intro rfl ?_
    refine ldA bx15 (base_add _ _) rfl ?_
    refine gSlice_intro rfl ?_
    refine hc_intro (num_Sign.hs (r15_1.tame (m_1.trans (m_2.trans (m_3.trans (m_4.trans (m_5.trans m_6)))))).rd64 rfl) fun v h_7 ⟨k_7, s⟩ => ?_
    obtain ⟨rfl, i_44⟩ := s
    refine gInt_intro rfl (?_)
    have m_7 := k_7.tame
    have bx5 := bx5.keep k_7
    have bx7 := bx7.keep k_7
    have bx9 := bx9.keep k_7
    have bx11 := bx11.keep k_7
    have bx13 := bx13.keep k_7
    have bx15 := bx15.keep k_7
    have bx_40 := bx_40.keep k_7
    have k0 := k0.trans k_7
    have kh := kh.trans k_7
    refine ⟨k_7.preLe (m_5.trans m_6).le, ?_⟩
    refine lift_not g (fun q_45 g => ?_) (fun q_45 g => ?_)
    · exact g _ _ k0 rfl
    · refine ⟨blkLt rfl ((m_3.trans m_4).lt lt_40), ?_⟩
      refine ldA bx_40 (base_add _ _) rfl ?_
      refine gBool_intro rfl ?_
      refine ldA bx_40 (base_add _ _) rfl ?_
      refine gSlice_intro rfl ?_
      refine hc_intro (gnomonref04_DocOf.hs (show In .i64 (1 : Int) by decide)) fun v h_8 ⟨k_8, s⟩ => ?_
      obtain ⟨p_46, hp_46⟩ : ∃ p, p = zz (1 : Int) := ⟨_, rfl⟩
      rw [← hp_46] at s
      replace g := lift_let2 hp_46 g
      obtain ⟨a_46, c_46, rfl, r_46⟩ := s
      refine gAgg_intro rfl (uncons_intro (gBool_intro rfl (uncons_intro (gSlice_intro rfl (unnil_intro (?_))))))
      have r_46 := r_46.from k0.le
      have m_8 := k_8.tame
      have bx5 := bx5.keep k_8
      have bx7 := bx7.keep k_8
      have bx9 := bx9.keep k_8
      have bx11 := bx11.keep k_8
      have bx13 := bx13.keep k_8
      have bx15 := bx15.keep k_8
      have bx_40 := bx_40.keep k_8
      have k0 := k0.trans k_8
      have kh := kh.trans k_8
      refine ⟨k_8.preLe (m_5.trans (m_6.trans m_7)).le, ?_⟩
      refine hc_intro (gnomonlaw04_same.hs (r_39_0.tame (m_2.trans (m_3.trans (m_4.trans (m_5.trans (m_6.trans (m_7.trans m_8))))))).rd64 rfl r_46.rd64 rfl) fun v h_9 ⟨k_9, s⟩ => ?_
      obtain rfl := s
      refine gBool_intro rfl (?_)
      have m_9 := k_9.tame
      have bx5 := bx5.keep k_9
      have bx7 := bx7.keep k_9
      have bx9 := bx9.keep k_9
      have bx11 := bx11.keep k_9
      have bx13 := bx13.keep k_9
      have bx15 := bx15.keep k_9
      have bx_40 := bx_40.keep k_9
      have k0 := k0.trans k_9
      have kh := kh.trans k_9
      refine ⟨k_9.preLe (m_5.trans (m_6.trans (m_7.trans m_8))).le, ?_⟩
      refine ⟨blkLt rfl ((m_1.trans (m_2.trans (m_3.trans m_4))).lt lt15), ?_⟩
      refine ldA bx15 (base_add _ _) rfl ?_
      refine gBool_intro rfl ?_
      refine ldA bx15 (base_add _ _) rfl ?_
      refine gSlice_intro rfl ?_
      refine hc_intro (num_Sign.hs (r15_1.tame (m_1.trans (m_2.trans (m_3.trans (m_4.trans (m_5.trans (m_6.trans (m_7.trans (m_8.trans m_9))))))))).rd64 rfl) fun v h_10 ⟨k_10, s⟩ => ?_
      obtain ⟨rfl, i_48⟩ := s
      refine gInt_intro rfl (?_)
      have m_10 := k_10.tame
      have bx5 := bx5.keep k_10
      have bx7 := bx7.keep k_10
      have bx9 := bx9.keep k_10
      have bx11 := bx11.keep k_10
      have bx13 := bx13.keep k_10
      have bx15 := bx15.keep k_10
      have bx_40 := bx_40.keep k_10
      have k0 := k0.trans k_10
      have kh := kh.trans k_10
      refine ⟨k_10.preLe (m_5.trans (m_6.trans (m_7.trans (m_8.trans m_9)))).le, ?_⟩
      refine lift_not g (fun q_49 g => ?_) (fun q_49 g => ?_)
      · exact g _ _ k0 rfl
      · exact D6.hv k0 (r5_1.tame (m_1.trans (m_2.trans (m_3.trans (m_4.trans (m_5.trans (m_6.trans (m_7.trans (m_8.trans (m_9.trans m_10)))))))))) bx5 o5 (r7_1.tame (m_1.trans (m_2.trans (m_3.trans (m_4.trans (m_5.trans (m_6.trans (m_7.trans (m_8.trans (m_9.trans m_10)))))))))) bx7 o7 (r9_1.tame (m_1.trans (m_2.trans (m_3.trans (m_4.trans (m_5.trans (m_6.trans (m_7.trans (m_8.trans (m_9.trans m_10)))))))))) bx9 o9 (r11_1.tame (m_1.trans (m_2.trans (m_3.trans (m_4.trans (m_5.trans (m_6.trans (m_7.trans (m_8.trans (m_9.trans m_10)))))))))) bx11 o11 (r13_1.tame (m_1.trans (m_2.trans (m_3.trans (m_4.trans (m_5.trans (m_6.trans (m_7.trans (m_8.trans (m_9.trans m_10)))))))))) bx13 o13 (r15_1.tame (m_1.trans (m_2.trans (m_3.trans (m_4.trans (m_5.trans (m_6.trans (m_7.trans (m_8.trans (m_9.trans m_10)))))))))) bx15 o15 d5q7 d5q9 d5q11 d5q13 d5q15 d7q9 d7q11 d7q13 d7q15 d9q11 d9q13 d9q15 d11q13 d11q15 d13q15 (tb.tame (m_1.trans (m_2.trans (m_3.trans (m_4.trans (m_5.trans (m_6.trans (m_7.trans (m_8.trans (m_9.trans m_10)))))))))) g
def D4.v (b5_0 : Bool) (xs5_1 : List Nat) (b7_0 : Bool) (xs7_1 : List Nat) (b9_0 : Bool) (xs9_1 : List Nat) (b11_0 : Bool) (xs11_1 : List Nat) (b13_0 : Bool) (xs13_1 : List Nat) (b15_0 : Bool) (xs15_1 : List Nat) : Bool :=
  letV (twoZ mulI (b9_0, xs9_1) (b7_0, xs7_1)) fun p_27 =>
  bif (p_27.2 != (0 : Int)) then
    bif (p_27.2 == (5 : Int)) then
      (((if (((xs7_1.length : Nat) : Int)) > (((xs5_1.length : Nat) : Int)) then (((xs7_1.length : Nat) : Int)) else (((xs5_1.length : Nat) : Int)))) == (8192 : Int))
    else
      false
  else
    letV (twoZ addI (p_27.1.1, p_27.1.2) (b15_0, xs15_1)) fun p_31 =>
    bif (p_31.2 != (0 : Int)) then
      false
    else
      bif (!(decide ((p_31.1.1, p_31.1.2) = (b5_0, xs5_1)))) then
        false
      else
        bif (((cmpZ (zi (b15_0, xs15_1)) 0)) == ((IntKind.i64.wrap (0 - ((cmpZ (zi (b7_0, xs7_1)) 0)))))) then
          false
        else
          D5.v b5_0 xs5_1 b7_0 xs7_1 b9_0 xs9_1 b11_0 xs11_1 b13_0 xs13_1 b15_0 xs15_1
theorem D4.hv {R : Rt} {h0 h : Hp} (k0 : Keep h0 h) {b5_0 : Bool} {a5_1 : Option Addr} {c5_1 : Nat} {xs5_1 : List Nat} (r5_1 : GotE eU64 h0 h a5_1 c5_1 xs5_1) {B5 : Nat} (bx5 : BlkV h B5 [.bool b5_0, .slice a5_1 xs5_1.length c5_1]) (o5 : h0.size ≤ B5) {b7_0 : Bool} {a7_1 : Option Addr} {c7_1 : Nat} {xs7_1 : List Nat} (r7_1 : GotE eU64 h0 h a7_1 c7_1 xs7_1) {B7 : Nat} (bx7 : BlkV h B7 [.bool b7_0, .slice a7_1 xs7_1.length c7_1]) (o7 : h0.size ≤ B7) {b9_0 : Bool} {a9_1 : Option Addr} {c9_1 : Nat} {xs9_1 : List Nat} (r9_1 : GotE eU64 h0 h a9_1 c9_1 xs9_1) {B9 : Nat} (bx9 : BlkV h B9 [.bool b9_0, .slice a9_1 xs9_1.length c9_1]) (o9 : h0.size ≤ B9) {b11_0 : Bool} {a11_1 : Option Addr} {c11_1 : Nat} {xs11_1 : List Nat} (r11_1 : GotE eU64 h0 h a11_1 c11_1 xs11_1) {B11 : Nat} (bx11 : BlkV h B11 [.bool b11_0, .slice a11_1 xs11_1.length c11_1]) (o11 : h0.size ≤ B11) {b13_0 : Bool} {a13_1 : Option Addr} {c13_1 : Nat} {xs13_1 : List Nat} (r13_1 : GotE eU64 h0 h a13_1 c13_1 xs13_1) {B13 : Nat} (bx13 : BlkV h B13 [.bool b13_0, .slice a13_1 xs13_1.length c13_1]) (o13 : h0.size ≤ B13) {b15_0 : Bool} {a15_1 : Option Addr} {c15_1 : Nat} {xs15_1 : List Nat} (r15_1 : GotE eU64 h0 h a15_1 c15_1 xs15_1) {B15 : Nat} (bx15 : BlkV h B15 [.bool b15_0, .slice a15_1 xs15_1.length c15_1]) (o15 : h0.size ≤ B15) (d5q7 : B5 ≠ B7) (d5q9 : B5 ≠ B9) (d5q11 : B5 ≠ B11) (d5q13 : B5 ≠ B13) (d5q15 : B5 ≠ B15) (d7q9 : B7 ≠ B9) (d7q11 : B7 ≠ B11) (d7q13 : B7 ≠ B13) (d7q15 : B7 ≠ B15) (d9q11 : B9 ≠ B11) (d9q13 : B9 ≠ B13) (d9q15 : B9 ≠ B15) (d11q13 : B11 ≠ B13) (d11q15 : B11 ≠ B15) (d13q15 : B13 ≠ B15) (tb : Tab h) (g : Post sBool h0 R (D4.v b5_0 xs5_1 b7_0 xs7_1 b9_0 xs9_1 b11_0 xs11_1 b13_0 xs13_1 b15_0 xs15_1)) : D4.t R (⟨B5, 0, none⟩ : Addr) (⟨B7, 0, none⟩ : Addr) (⟨B9, 0, none⟩ : Addr) (⟨B11, 0, none⟩ : Addr) (⟨B13, 0, none⟩ : Addr) (⟨B15, 0, none⟩ : Addr) h := by
  have kh := Keep.refl h
  have lt5 := bx5.lt
  have lt7 := bx7.lt
  have lt9 := bx9.lt
  have lt11 := bx11.lt
  have lt13 := bx13.lt
  have lt15 := bx15.lt
  unfold D4.v at g
  unfold D4.t
  refine ldA bx9 (base_add _ _) rfl ?_
  refine gBool_intro rfl ?_
  refine ldA bx9 (base_add _ _) rfl ?_
  refine gSlice_intro rfl ?_
  refine ldA bx7 (base_add _ _) rfl ?_
  refine gBool_intro rfl ?_
  refine ldA bx7 (base_add _ _) rfl ?_
  refine gSlice_intro rfl ?_
  refine hc_intro (num_Mul.hs r9_1.rd64 rfl r7_1.rd64 rfl) fun v h_1 ⟨k_1, s⟩ => ?_
  obtain ⟨p_27, hp_27⟩ : ∃ p, p = twoZ mulI (b9_0, xs9_1) (b7_0, xs7_1) := ⟨_, rfl⟩
  rw [← hp_27] at s
  replace g := lift_let2 hp_27 g
  obtain ⟨_, _, rfl, ⟨a_27_0, c_27_0, rfl, r_27_0⟩, ⟨rfl, i_27_1⟩⟩ := s
  refine gTup_intro rfl (uncons_intro (gAgg_intro rfl (uncons_intro (gBool_intro rfl (uncons_intro (gSlice_intro rfl (unnil_intro (uncons_intro (gInt_intro rfl (unnil_intro (?_)))))))))))
  have r_27_0 := r_27_0.from k0.le
  have m_1 := k_1.tame
  have bx5 := bx5.keep k_1
  have bx7 := bx7.keep k_1
  have bx9 := bx9.keep k_1
  have bx11 := bx11.keep k_1
  have bx13 := bx13.keep k_1
  have bx15 := bx15.keep k_1
  have k0 := k0.trans k_1
  have kh := kh.trans k_1
  refine boxV fun h_2 bx_28 k_2 => ?_
  have d5q_28 : B5 ≠ h_1.size := Nat.ne_of_lt bx5.lt
  have d7q_28 : B7 ≠ h_1.size := Nat.ne_of_lt bx7.lt
  have d9q_28 : B9 ≠ h_1.size := Nat.ne_of_lt bx9.lt
  have d11q_28 : B11 ≠ h_1.size := Nat.ne_of_lt bx11.lt
  have d13q_28 : B13 ≠ h_1.size := Nat.ne_of_lt bx13.lt
  have d15q_28 : B15 ≠ h_1.size := Nat.ne_of_lt bx15.lt
  have o_28 : h0.size ≤ h_1.size := k0.le
  have oh_28 : h.size ≤ h_1.size := kh.le
  have lt_28 := bx_28.lt
  have m_2 := k_2.tame
  have bx5 := bx5.keep k_2
  have bx7 := bx7.keep k_2
  have bx9 := bx9.keep k_2
  have bx11 := bx11.keep k_2
  have bx13 := bx13.keep k_2
  have bx15 := bx15.keep k_2
  have k0 := k0.trans k_2
  have kh := kh.trans k_2
  refine stA bx_28 (base_add _ _) rfl fun h_3 bx_28 k_3 m_3 => ?_
  have bx5 := bx5.keepB d5q_28 k_3
  have bx7 := bx7.keepB d7q_28 k_3
  have bx9 := bx9.keepB d9q_28 k_3
  have bx11 := bx11.keepB d11q_28 k_3
  have bx13 := bx13.keepB d13q_28 k_3
  have bx15 := bx15.keepB d15q_28 k_3
  have k0 := KeepB.keep k0 k_3 o_28
  have kh := KeepB.keep kh k_3 oh_28
  refine stA bx_28 (base_add _ _) rfl fun h_4 bx_28 k_4 m_4 => ?_
  have bx5 := bx5.keepB d5q_28 k_4
  have bx7 := bx7.keepB d7q_28 k_4
  have bx9 := bx9.keepB d9q_28 k_4
  have bx11 := bx11.keepB d11q_28 k_4
  have bx13 := bx13.keepB d13q_28 k_4
  have bx15 := bx15.keepB d15q_28 k_4
  have k0 := KeepB.keep k0 k_4 o_28
  have kh := KeepB.keep kh k_4 oh_28
  refine lift_ne g (fun q_29 g => ?_) (fun q_29 g => ?_)
  · refine lift_eq g (fun q_30 g => ?_) (fun q_30 g => ?_)
    · refine ldA bx5 (base_add _ _) rfl ?_
      refine gSlice_intro rfl ?_
      refine ldA bx7 (base_add _ _) rfl ?_
      refine gSlice_intro rfl ?_
      exact g _ _ k0 rfl
    · exact g _ _ k0 rfl
  · refine ldA bx_28 (base_add _ _) rfl ?_
    refine gBool_intro rfl ?_
    refine ldA bx_28 (base_add _ _) rfl ?_
    refine gSlice_intro rfl ?_
    refine ldA bx15 (base_add _ _) rfl ?_
    refine gBool_intro rfl ?_
    refine ldA bx15 (base_add _ _) rfl ?_
    refine gSlice_intro rfl ?_
    refine hc_intro (num_Add.hs (r_27_0.tame (m_2.trans (m_3.trans m_4))).rd64 rfl (r15_1.tame (m_1.trans (m_2.trans (m_3.trans m_4)))).rd64 rfl) fun v h_5 ⟨k_5, s⟩ => ?_
    obtain ⟨p_31, hp_31⟩ : ∃ p, p = twoZ addI (p_27.1.1, p_27.1.2) (b15_0, xs15_1) := ⟨_, rfl⟩
    rw [← hp_31] at s
    replace g := lift_let2 hp_31 g
    obtain ⟨_, _, rfl, ⟨a_31_0, c_31_0, rfl, r_31_0⟩, ⟨rfl, i_31_1⟩⟩ := s
    refine gTup_intro rfl (uncons_intro (gAgg_intro rfl (uncons_intro (gBool_intro rfl (uncons_intro (gSlice_intro rfl (unnil_intro (uncons_intro (gInt_intro rfl (unnil_intro (?_)))))))))))
    have r_31_0 := r_31_0.from k0.le
    have m_5 := k_5.tame
    have bx5 := bx5.keep k_5
    have bx7 := bx7.keep k_5
    have bx9 := bx9.keep k_5
    have bx11 := bx11.keep k_5
    have bx13 := bx13.keep k_5
    have bx15 := bx15.keep k_5
    have bx_28 := bx_28.keep k_5
    have k0 := k0.trans k_5
    have kh := kh.trans k_5
    refine boxV fun h_6 bx_32 k_6 => ?_
    have d5q_32 : B5 ≠ h_5.size := Nat.ne_of_lt bx5.lt
    have d7q_32 : B7 ≠ h_5.size := Nat.ne_of_lt bx7.lt
    have d9q_32 : B9 ≠ h_5.size := Nat.ne_of_lt bx9.lt
    have d11q_32 : B11 ≠ h_5.size := Nat.ne_of_lt bx11.lt
    have d13q_32 : B13 ≠ h_5.size := Nat.ne_of_lt bx13.lt
    have d15q_32 : B15 ≠ h_5.size := Nat.ne_of_lt bx15.lt
    have d_28q_32 : h_1.size ≠ h_5.size := Nat.ne_of_lt bx_28.lt
    have o_32 : h0.size ≤ h_5.size := k0.le
    have oh_32 : h.size ≤ h_5.size := kh.le
    have lt_32 := bx_32.lt
    have m_6 := k_6.tame
    have bx5 := bx5.keep k_6
    have bx7 := bx7.keep k_6
    have bx9 := bx9.keep k_6
    have bx11 := bx11.keep k_6
    have bx13 := bx13.keep k_6
    have bx15 := bx15.keep k_6
    have bx_28 := bx_28.keep k_6
    have k0 := k0.trans k_6
    have kh := kh.trans k_6
    refine stA bx_32 (base_add _ _) rfl fun h_7 bx_32 k_7 m_7 => ?_
    have bx5 := bx5.keepB d5q_32 k_7
    have bx7 := bx7.keepB d7q_32 k_7
    have bx9 := bx9.keepB d9q_32 k_7
    have bx11 := bx11.keepB d11q_32 k_7
    have bx13 := bx13.keepB d13q_32 k_7
    have bx15 := bx15.keepB d15q_32 k_7
    have bx_28 := bx_28.keepB d_28q_32 k_7
    have k0 := KeepB.keep k0 k_7 o_32
    have kh := KeepB.keep kh k_7 oh_32
    refine stA bx_32 (base_add _ _) rfl fun h_8 bx_32 k_8 m_8 => ?_
    have bx5 := bx5.keepB d5q_32 k_8
    have bx7 := bx7.keepB d7q_32 k_8
    have bx9 := bx9.keepB d9q_32 k_8
    have bx11 := bx11.keepB d11q_32 k_8
    have bx13 := bx13.keepB d13q_32 k_8
    have bx15 := bx15.keepB d15q_32 k_8
    have bx_28 := bx_28.keepB d_28q_32 k_8
    have k0 := KeepB.keep k0 k_8 o_32
    have kh := KeepB.keep kh k_8 oh_32
    refine lift_ne g (fun q_33 g => ?_) (fun q_33 g => ?_)
    · exact g _ _ k0 rfl
    · refine ⟨blkLt rfl ((m_7.trans m_8).lt lt_32), ?_⟩
      refine ldA bx_32 (base_add _ _) rfl ?_
      refine gBool_intro rfl ?_
      refine ldA bx_32 (base_add _ _) rfl ?_
      refine gSlice_intro rfl ?_
      refine ⟨blkLt rfl ((m_1.trans (m_2.trans (m_3.trans (m_4.trans (m_5.trans (m_6.trans (m_7.trans m_8))))))).lt lt5), ?_⟩
      refine ldA bx5 (base_add _ _) rfl ?_
      refine gBool_intro rfl ?_
      refine ldA bx5 (base_add _ _) rfl ?_
      refine gSlice_intro rfl ?_
      refine hc_intro (gnomonlaw04_same.hs (r_31_0.tame (m_6.trans (m_7.trans m_8))).rd64 rfl (r5_1.tame (m_1.trans (m_2.trans (m_3.trans (m_4.trans (m_5.trans (m_6.trans (m_7.trans m_8)))))))).rd64 rfl) fun v h_9 ⟨k_9, s⟩ => ?_
      obtain rfl := s
      refine gBool_intro rfl (?_)
      have m_9 := k_9.tame
      have bx5 := bx5.keep k_9
      have bx7 := bx7.keep k_9
      have bx9 := bx9.keep k_9
      have bx11 := bx11.keep k_9
      have bx13 := bx13.keep k_9
      have bx15 := bx15.keep k_9
      have bx_28 := bx_28.keep k_9
      have bx_32 := bx_32.keep k_9
      have k0 := k0.trans k_9
      have kh := kh.trans k_9
      refine ⟨k_9.preLe (Nat.le_refl _), ?_⟩
      refine lift_not g (fun q_35 g => ?_) (fun q_35 g => ?_)
      · exact g _ _ k0 rfl
      · refine ⟨blkLt rfl ((m_1.trans (m_2.trans (m_3.trans (m_4.trans (m_5.trans (m_6.trans (m_7.trans m_8))))))).lt lt15), ?_⟩
        refine ldA bx15 (base_add _ _) rfl ?_
        refine gBool_intro rfl ?_
        refine ldA bx15 (base_add _ _) rfl ?_
        refine gSlice_intro rfl ?_
        refine hc_intro (num_Sign.hs (r15_1.tame (m_1.trans (m_2.trans (m_3.trans (m_4.trans (m_5.trans (m_6.trans (m_7.trans (m_8.trans m_9))))))))).rd64 rfl) fun v h_10 ⟨k_10, s⟩ => ?_
        obtain ⟨rfl, i_36⟩ := s
        refine gInt_intro rfl (?_)
        have m_10 := k_10.tame
        have bx5 := bx5.keep k_10
        have bx7 := bx7.keep k_10
        have bx9 := bx9.keep k_10
        have bx11 := bx11.keep k_10
        have bx13 := bx13.keep k_10
        have bx15 := bx15.keep k_10
        have bx_28 := bx_28.keep k_10
        have bx_32 := bx_32.keep k_10
        have k0 := k0.trans k_10
        have kh := kh.trans k_10
        refine ⟨k_10.preLe (m_9).le, ?_⟩
        refine ⟨blkLt rfl ((m_1.trans (m_2.trans (m_3.trans (m_4.trans (m_5.trans (m_6.trans (m_7.trans m_8))))))).lt lt7), ?_⟩
        refine ldA bx7 (base_add _ _) rfl ?_
        refine gBool_intro rfl ?_
        refine ldA bx7 (base_add _ _) rfl ?_
        refine gSlice_intro rfl ?_
        refine hc_intro (num_Sign.hs (r7_1.tame (m_1.trans (m_2.trans (m_3.trans (m_4.trans (m_5.trans (m_6.trans (m_7.trans (m_8.trans (m_9.trans m_10)))))))))).rd64 rfl) fun v h_11 ⟨k_11, s⟩ => ?_
        obtain ⟨rfl, i_37⟩ := s
        refine gInt_intro rfl (?_)
        have m_11 := k_11.tame
        have bx5 := bx5.keep k_11
        have bx7 := bx7.keep k_11
        have bx9 := bx9.keep k_11
        have bx11 := bx11.keep k_11
        have bx13 := bx13.keep k_11
        have bx15 := bx15.keep k_11
        have bx_28 := bx_28.keep k_11
        have bx_32 := bx_32.keep k_11
        have k0 := k0.trans k_11
        have kh := kh.trans k_11
        refine ⟨k_11.preLe (m_9.trans m_10).le, ?_⟩
        refine letK_out ?_
        refine lift_eq g (fun q_38 g => ?_) (fun q_38 g => ?_)
        · exact g _ _ k0 rfl
        · exact D5.hv k0 (r5_1.tame (m_1.trans (m_2.trans (m_3.trans (m_4.trans (m_5.trans (m_6.trans (m_7.trans (m_8.trans (m_9.trans (m_10.trans m_11))))))))))) bx5 o5 (r7_1.tame (m_1.trans (m_2.trans (m_3.trans (m_4.trans (m_5.trans (m_6.trans (m_7.trans (m_8.trans (m_9.trans (m_10.trans m_11))))))))))) bx7 o7 (r9_1.tame (m_1.trans (m_2.trans (m_3.trans (m_4.trans (m_5.trans (m_6.trans (m_7.trans (m_8.trans (m_9.trans (m_10.trans m_11))))))))))) bx9 o9 (r11_1.tame (m_1.trans (m_2.trans (m_3.trans (m_4.trans (m_5.trans (m_6.trans (m_7.trans (m_8.trans (m_9.trans (m_10.trans m_11))))))))))) bx11 o11 (r13_1.tame (m_1.trans (m_2.trans (m_3.trans (m_4.trans (m_5.trans (m_6.trans (m_7.trans (m_8.trans (m_9.trans (m_10.trans m_11))))))))))) bx13 o13 (r15_1.tame (m_1.trans (m_2.trans (m_3.trans (m_4.trans (m_5.trans (m_6.trans (m_7.trans (m_8.trans (m_9.trans (m_10.trans m_11))))))))))) bx15 o15 d5q7 d5q9 d5q11 d5q13 d5q15 d7q9 d7q11 d7q13 d7q15 d9q11 d9q13 d9q15 d11q13 d11q15 d13q15 (tb.tame (m_1.trans (m_2.trans (m_3.trans (m_4.trans (m_5.trans (m_6.trans (m_7.trans (m_8.trans (m_9.trans (m_10.trans m_11))))))))))) g
def D3.v (b5_0 : Bool) (xs5_1 : List Nat) (b7_0 : Bool) (xs7_1 : List Nat) : Bool :=
  letV (quoZ flo (b5_0, xs5_1) (b7_0, xs7_1)) fun p_15 =>
  letV (quoZ cei (b5_0, xs5_1) (b7_0, xs7_1)) fun p_17 =>
  letV (quoZ nea (b5_0, xs5_1) (b7_0, xs7_1)) fun p_19 =>
  letV (quoZ mo (b5_0, xs5_1) (b7_0, xs7_1)) fun p_21 =>
  bif (p_15.2 != (0 : Int)) then
    false
  else
    bif (p_17.2 != (0 : Int)) then
      false
    else
      bif (p_19.2 != (0 : Int)) then
        false
      else
        bif (p_21.2 != (0 : Int)) then
          false
        else
          D4.v b5_0 xs5_1 b7_0 xs7_1 p_15.1.1 p_15.1.2 p_17.1.1 p_17.1.2 p_19.1.1 p_19.1.2 p_21.1.1 p_21.1.2
theorem D3.hv {R : Rt} {h0 h : Hp} (k0 : Keep h0 h) {b5_0 : Bool} {a5_1 : Option Addr} {c5_1 : Nat} {xs5_1 : List Nat} (r5_1 : GotE eU64 h0 h a5_1 c5_1 xs5_1) {B5 : Nat} (bx5 : BlkV h B5 [.bool b5_0, .slice a5_1 xs5_1.length c5_1]) (o5 : h0.size ≤ B5) {b7_0 : Bool} {a7_1 : Option Addr} {c7_1 : Nat} {xs7_1 : List Nat} (r7_1 : GotE eU64 h0 h a7_1 c7_1 xs7_1) {B7 : Nat} (bx7 : BlkV h B7 [.bool b7_0, .slice a7_1 xs7_1.length c7_1]) (o7 : h0.size ≤ B7) (d5q7 : B5 ≠ B7) (tb : Tab h) (g : Post sBool h0 R (D3.v b5_0 xs5_1 b7_0 xs7_1)) : D3.t R (⟨B5, 0, none⟩ : Addr) (⟨B7, 0, none⟩ : Addr) h := by
  have kh := Keep.refl h
  have lt5 := bx5.lt
  have lt7 := bx7.lt
  unfold D3.v at g
  unfold D3.t
  refine ldA bx5 (base_add _ _) rfl ?_
  refine gBool_intro rfl ?_
  refine ldA bx5 (base_add _ _) rfl ?_
  refine gSlice_intro rfl ?_
  refine ldA bx7 (base_add _ _) rfl ?_
  refine gBool_intro rfl ?_
  refine ldA bx7 (base_add _ _) rfl ?_
  refine gSlice_intro rfl ?_
  refine hc_intro (num_FloorDiv.hs r5_1.rd64 rfl r7_1.rd64 rfl) fun v h_1 ⟨k_1, s⟩ => ?_
  obtain ⟨p_15, hp_15⟩ : ∃ p, p = quoZ flo (b5_0, xs5_1) (b7_0, xs7_1) := ⟨_, rfl⟩
  rw [← hp_15] at s
  replace g := lift_let2 hp_15 g
  obtain ⟨_, _, rfl, ⟨a_15_0, c_15_0, rfl, r_15_0⟩, ⟨rfl, i_15_1⟩⟩ := s
  refine gTup_intro rfl (uncons_intro (gAgg_intro rfl (uncons_intro (gBool_intro rfl (uncons_intro (gSlice_intro rfl (unnil_intro (uncons_intro (gInt_intro rfl (unnil_intro (?_)))))))))))
  have r_15_0 := r_15_0.from k0.le
  have m_1 := k_1.tame
  have bx5 := bx5.keep k_1
  have bx7 := bx7.keep k_1
  have k0 := k0.trans k_1
  have kh := kh.trans k_1
  refine boxV fun h_2 bx_16 k_2 => ?_
  have d5q_16 : B5 ≠ h_1.size := Nat.ne_of_lt bx5.lt
  have d7q_16 : B7 ≠ h_1.size := Nat.ne_of_lt bx7.lt
  have o_16 : h0.size ≤ h_1.size := k0.le
  have oh_16 : h.size ≤ h_1.size := kh.le
  have lt_16 := bx_16.lt
  have m_2 := k_2.tame
  have bx5 := bx5.keep k_2
  have bx7 := bx7.keep k_2
  have k0 := k0.trans k_2
  have kh := kh.trans k_2
  refine stA bx_16 (base_add _ _) rfl fun h_3 bx_16 k_3 m_3 => ?_
  have bx5 := bx5.keepB d5q_16 k_3
  have bx7 := bx7.keepB d7q_16 k_3
  have k0 := KeepB.keep k0 k_3 o_16
  have kh := KeepB.keep kh k_3 oh_16
  refine stA bx_16 (base_add _ _) rfl fun h_4 bx_16 k_4 m_4 => ?_
  have bx5 := bx5.keepB d5q_16 k_4
  have bx7 := bx7.keepB d7q_16 k_4
  have k0 := KeepB.keep k0 k_4 o_16
  have kh := KeepB.keep kh k_4 oh_16
  refine ldA bx5 (base_add _ _) rfl ?_
  refine gBool_intro rfl ?_
  refine ldA bx5 (base_add _ _) rfl ?_
  refine gSlice_intro rfl ?_
  refine ldA bx7 (base_add _ _) rfl ?_
  refine gBool_intro rfl ?_
  refine ldA bx7 (base_add _ _) rfl ?_
  refine gSlice_intro rfl ?_
  refine hc_intro (num_CeilDiv.hs (r5_1.tame (m_1.trans (m_2.trans (m_3.trans m_4)))).rd64 rfl (r7_1.tame (m_1.trans (m_2.trans (m_3.trans m_4)))).rd64 rfl) fun v h_5 ⟨k_5, s⟩ => ?_
  obtain ⟨p_17, hp_17⟩ : ∃ p, p = quoZ cei (b5_0, xs5_1) (b7_0, xs7_1) := ⟨_, rfl⟩
  rw [← hp_17] at s
  replace g := lift_let2 hp_17 g
  obtain ⟨_, _, rfl, ⟨a_17_0, c_17_0, rfl, r_17_0⟩, ⟨rfl, i_17_1⟩⟩ := s
  refine gTup_intro rfl (uncons_intro (gAgg_intro rfl (uncons_intro (gBool_intro rfl (uncons_intro (gSlice_intro rfl (unnil_intro (uncons_intro (gInt_intro rfl (unnil_intro (?_)))))))))))
  have r_17_0 := r_17_0.from k0.le
  have m_5 := k_5.tame
  have bx5 := bx5.keep k_5
  have bx7 := bx7.keep k_5
  have bx_16 := bx_16.keep k_5
  have k0 := k0.trans k_5
  have kh := kh.trans k_5
  refine boxV fun h_6 bx_18 k_6 => ?_
  have d5q_18 : B5 ≠ h_5.size := Nat.ne_of_lt bx5.lt
  have d7q_18 : B7 ≠ h_5.size := Nat.ne_of_lt bx7.lt
  have d_16q_18 : h_1.size ≠ h_5.size := Nat.ne_of_lt bx_16.lt
  have o_18 : h0.size ≤ h_5.size := k0.le
  have oh_18 : h.size ≤ h_5.size := kh.le
  have lt_18 := bx_18.lt
  have m_6 := k_6.tame
  have bx5 := bx5.keep k_6
  have bx7 := bx7.keep k_6
  have bx_16 := bx_16.keep k_6
  have k0 := k0.trans k_6
  have kh := kh.trans k_6
  refine stA bx_18 (base_add _ _) rfl fun h_7 bx_18 k_7 m_7 => ?_
  have bx5 := bx5.keepB d5q_18 k_7
  have bx7 := bx7.keepB d7q_18 k_7
  have bx_16 := bx_16.keepB d_16q_18 k_7
  have k0 := KeepB.keep k0 k_7 o_18
  have kh := KeepB.keep kh k_7 oh_18
  refine stA bx_18 (base_add _ _) rfl fun h_8 bx_18 k_8 m_8 => ?_
  have bx5 := bx5.keepB d5q_18 k_8
  have bx7 := bx7.keepB d7q_18 k_8
  have bx_16 := bx_16.keepB d_16q_18 k_8
  have k0 := KeepB.keep k0 k_8 o_18
  have kh := KeepB.keep kh k_8 oh_18
  refine ldA bx5 (base_add _ _) rfl ?_
  refine gBool_intro rfl ?_
  refine ldA bx5 (base_add _ _) rfl ?_
  refine gSlice_intro rfl ?_
  refine ldA bx7 (base_add _ _) rfl ?_
  refine gBool_intro rfl ?_
  refine ldA bx7 (base_add _ _) rfl ?_
  refine gSlice_intro rfl ?_
  refine hc_intro (num_NearDiv.hs (r5_1.tame (m_1.trans (m_2.trans (m_3.trans (m_4.trans (m_5.trans (m_6.trans (m_7.trans m_8)))))))).rd64 rfl (r7_1.tame (m_1.trans (m_2.trans (m_3.trans (m_4.trans (m_5.trans (m_6.trans (m_7.trans m_8)))))))).rd64 rfl) fun v h_9 ⟨k_9, s⟩ => ?_
  obtain ⟨p_19, hp_19⟩ : ∃ p, p = quoZ nea (b5_0, xs5_1) (b7_0, xs7_1) := ⟨_, rfl⟩
  rw [← hp_19] at s
  replace g := lift_let2 hp_19 g
  obtain ⟨_, _, rfl, ⟨a_19_0, c_19_0, rfl, r_19_0⟩, ⟨rfl, i_19_1⟩⟩ := s
  refine gTup_intro rfl (uncons_intro (gAgg_intro rfl (uncons_intro (gBool_intro rfl (uncons_intro (gSlice_intro rfl (unnil_intro (uncons_intro (gInt_intro rfl (unnil_intro (?_)))))))))))
  have r_19_0 := r_19_0.from k0.le
  have m_9 := k_9.tame
  have bx5 := bx5.keep k_9
  have bx7 := bx7.keep k_9
  have bx_16 := bx_16.keep k_9
  have bx_18 := bx_18.keep k_9
  have k0 := k0.trans k_9
  have kh := kh.trans k_9
  refine boxV fun h_10 bx_20 k_10 => ?_
  have d5q_20 : B5 ≠ h_9.size := Nat.ne_of_lt bx5.lt
  have d7q_20 : B7 ≠ h_9.size := Nat.ne_of_lt bx7.lt
  have d_16q_20 : h_1.size ≠ h_9.size := Nat.ne_of_lt bx_16.lt
  have d_18q_20 : h_5.size ≠ h_9.size := Nat.ne_of_lt bx_18.lt
  have o_20 : h0.size ≤ h_9.size := k0.le
  have oh_20 : h.size ≤ h_9.size := kh.le
  have lt_20 := bx_20.lt
  have m_10 := k_10.tame
  have bx5 := bx5.keep k_10
  have bx7 := bx7.keep k_10
  have bx_16 := bx_16.keep k_10
  have bx_18 := bx_18.keep k_10
  have k0 := k0.trans k_10
  have kh := kh.trans k_10
  refine stA bx_20 (base_add _ _) rfl fun h_11 bx_20 k_11 m_11 => ?_
  have bx5 := bx5.keepB d5q_20 k_11
  have bx7 := bx7.keepB d7q_20 k_11
  have bx_16 := bx_16.keepB d_16q_20 k_11
  have bx_18 := bx_18.keepB d_18q_20 k_11
  have k0 := KeepB.keep k0 k_11 o_20
  have kh := KeepB.keep kh k_11 oh_20
  refine stA bx_20 (base_add _ _) rfl fun h_12 bx_20 k_12 m_12 => ?_
  have bx5 := bx5.keepB d5q_20 k_12
  have bx7 := bx7.keepB d7q_20 k_12
  have bx_16 := bx_16.keepB d_16q_20 k_12
  have bx_18 := bx_18.keepB d_18q_20 k_12
  have k0 := KeepB.keep k0 k_12 o_20
  have kh := KeepB.keep kh k_12 oh_20
  refine ldA bx5 (base_add _ _) rfl ?_
  refine gBool_intro rfl ?_
  refine ldA bx5 (base_add _ _) rfl ?_
  refine gSlice_intro rfl ?_
  refine ldA bx7 (base_add _ _) rfl ?_
  refine gBool_intro rfl ?_
  refine ldA bx7 (base_add _ _) rfl ?_
  refine gSlice_intro rfl ?_
  refine hc_intro (num_Mod.hs (r5_1.tame (m_1.trans (m_2.trans (m_3.trans (m_4.trans (m_5.trans (m_6.trans (m_7.trans (m_8.trans (m_9.trans (m_10.trans (m_11.trans m_12)))))))))))).rd64 rfl (r7_1.tame (m_1.trans (m_2.trans (m_3.trans (m_4.trans (m_5.trans (m_6.trans (m_7.trans (m_8.trans (m_9.trans (m_10.trans (m_11.trans m_12)))))))))))).rd64 rfl) fun v h_13 ⟨k_13, s⟩ => ?_
  obtain ⟨p_21, hp_21⟩ : ∃ p, p = quoZ mo (b5_0, xs5_1) (b7_0, xs7_1) := ⟨_, rfl⟩
  rw [← hp_21] at s
  replace g := lift_let2 hp_21 g
  obtain ⟨_, _, rfl, ⟨a_21_0, c_21_0, rfl, r_21_0⟩, ⟨rfl, i_21_1⟩⟩ := s
  refine gTup_intro rfl (uncons_intro (gAgg_intro rfl (uncons_intro (gBool_intro rfl (uncons_intro (gSlice_intro rfl (unnil_intro (uncons_intro (gInt_intro rfl (unnil_intro (?_)))))))))))
  have r_21_0 := r_21_0.from k0.le
  have m_13 := k_13.tame
  have bx5 := bx5.keep k_13
  have bx7 := bx7.keep k_13
  have bx_16 := bx_16.keep k_13
  have bx_18 := bx_18.keep k_13
  have bx_20 := bx_20.keep k_13
  have k0 := k0.trans k_13
  have kh := kh.trans k_13
  refine boxV fun h_14 bx_22 k_14 => ?_
  have d5q_22 : B5 ≠ h_13.size := Nat.ne_of_lt bx5.lt
  have d7q_22 : B7 ≠ h_13.size := Nat.ne_of_lt bx7.lt
  have d_16q_22 : h_1.size ≠ h_13.size := Nat.ne_of_lt bx_16.lt
  have d_18q_22 : h_5.size ≠ h_13.size := Nat.ne_of_lt bx_18.lt
  have d_20q_22 : h_9.size ≠ h_13.size := Nat.ne_of_lt bx_20.lt
  have o_22 : h0.size ≤ h_13.size := k0.le
  have oh_22 : h.size ≤ h_13.size := kh.le
  have lt_22 := bx_22.lt
  have m_14 := k_14.tame
  have bx5 := bx5.keep k_14
  have bx7 := bx7.keep k_14
  have bx_16 := bx_16.keep k_14
  have bx_18 := bx_18.keep k_14
  have bx_20 := bx_20.keep k_14
  have k0 := k0.trans k_14
  have kh := kh.trans k_14
  refine stA bx_22 (base_add _ _) rfl fun h_15 bx_22 k_15 m_15 => ?_
  have bx5 := bx5.keepB d5q_22 k_15
  have bx7 := bx7.keepB d7q_22 k_15
  have bx_16 := bx_16.keepB d_16q_22 k_15
  have bx_18 := bx_18.keepB d_18q_22 k_15
  have bx_20 := bx_20.keepB d_20q_22 k_15
  have k0 := KeepB.keep k0 k_15 o_22
  have kh := KeepB.keep kh k_15 oh_22
  refine stA bx_22 (base_add _ _) rfl fun h_16 bx_22 k_16 m_16 => ?_
  have bx5 := bx5.keepB d5q_22 k_16
  have bx7 := bx7.keepB d7q_22 k_16
  have bx_16 := bx_16.keepB d_16q_22 k_16
  have bx_18 := bx_18.keepB d_18q_22 k_16
  have bx_20 := bx_20.keepB d_20q_22 k_16
  have k0 := KeepB.keep k0 k_16 o_22
  have kh := KeepB.keep kh k_16 oh_22
  refine lift_ne g (fun q_23 g => ?_) (fun q_23 g => ?_)
  · exact g _ _ k0 rfl
  · refine lift_ne g (fun q_24 g => ?_) (fun q_24 g => ?_)
    · exact g _ _ k0 rfl
    · refine lift_ne g (fun q_25 g => ?_) (fun q_25 g => ?_)
      · exact g _ _ k0 rfl
      · refine lift_ne g (fun q_26 g => ?_) (fun q_26 g => ?_)
        · exact g _ _ k0 rfl
        · exact D4.hv k0 (r5_1.tame (m_1.trans (m_2.trans (m_3.trans (m_4.trans (m_5.trans (m_6.trans (m_7.trans (m_8.trans (m_9.trans (m_10.trans (m_11.trans (m_12.trans (m_13.trans (m_14.trans (m_15.trans m_16)))))))))))))))) bx5 o5 (r7_1.tame (m_1.trans (m_2.trans (m_3.trans (m_4.trans (m_5.trans (m_6.trans (m_7.trans (m_8.trans (m_9.trans (m_10.trans (m_11.trans (m_12.trans (m_13.trans (m_14.trans (m_15.trans m_16)))))))))))))))) bx7 o7 (r_15_0.tame (m_2.trans (m_3.trans (m_4.trans (m_5.trans (m_6.trans (m_7.trans (m_8.trans (m_9.trans (m_10.trans (m_11.trans (m_12.trans (m_13.trans (m_14.trans (m_15.trans m_16))))))))))))))) bx_16 o_16 (r_17_0.tame (m_6.trans (m_7.trans (m_8.trans (m_9.trans (m_10.trans (m_11.trans (m_12.trans (m_13.trans (m_14.trans (m_15.trans m_16))))))))))) bx_18 o_18 (r_19_0.tame (m_10.trans (m_11.trans (m_12.trans (m_13.trans (m_14.trans (m_15.trans m_16))))))) bx_20 o_20 (r_21_0.tame (m_14.trans (m_15.trans m_16))) bx_22 o_22 d5q7 d5q_16 d5q_18 d5q_20 d5q_22 d7q_16 d7q_18 d7q_20 d7q_22 d_16q_18 d_16q_20 d_16q_22 d_18q_20 d_18q_22 d_20q_22 (tb.tame (m_1.trans (m_2.trans (m_3.trans (m_4.trans (m_5.trans (m_6.trans (m_7.trans (m_8.trans (m_9.trans (m_10.trans (m_11.trans (m_12.trans (m_13.trans (m_14.trans (m_15.trans m_16)))))))))))))))) g
def D2.v (b5_0 : Bool) (xs5_1 : List Nat) (b6 : Bool) (b7_0 : Bool) (xs7_1 : List Nat) (b8 : Bool) : Bool :=
  bif (!b6) then
    true
  else
    bif (!b8) then
      true
    else
      bif (((cmpZ (zi (b7_0, xs7_1)) 0)) == (0 : Int)) then
        true
      else
        D3.v b5_0 xs5_1 b7_0 xs7_1
theorem D2.hv {R : Rt} {h0 h : Hp} (k0 : Keep h0 h) {b5_0 : Bool} {a5_1 : Option Addr} {c5_1 : Nat} {xs5_1 : List Nat} (r5_1 : GotE eU64 h0 h a5_1 c5_1 xs5_1) {B5 : Nat} (bx5 : BlkV h B5 [.bool b5_0, .slice a5_1 xs5_1.length c5_1]) (o5 : h0.size ≤ B5) {b6 : Bool} {b7_0 : Bool} {a7_1 : Option Addr} {c7_1 : Nat} {xs7_1 : List Nat} (r7_1 : GotE eU64 h0 h a7_1 c7_1 xs7_1) {B7 : Nat} (bx7 : BlkV h B7 [.bool b7_0, .slice a7_1 xs7_1.length c7_1]) (o7 : h0.size ≤ B7) {b8 : Bool} (d5q7 : B5 ≠ B7) (tb : Tab h) (g : Post sBool h0 R (D2.v b5_0 xs5_1 b6 b7_0 xs7_1 b8)) : D2.t R (⟨B5, 0, none⟩ : Addr) b6 (⟨B7, 0, none⟩ : Addr) b8 h := by
  have kh := Keep.refl h
  have lt5 := bx5.lt
  have lt7 := bx7.lt
  unfold D2.v at g
  unfold D2.t
  refine lift_not g (fun q_11 g => ?_) (fun q_11 g => ?_)
  · exact g _ _ k0 rfl
  · refine lift_not g (fun q_12 g => ?_) (fun q_12 g => ?_)
    · exact g _ _ k0 rfl
    · refine ldA bx7 (base_add _ _) rfl ?_
      refine gBool_intro rfl ?_
      refine ldA bx7 (base_add _ _) rfl ?_
      refine gSlice_intro rfl ?_
      refine hc_intro (num_Sign.hs r7_1.rd64 rfl) fun v h_1 ⟨k_1, s⟩ => ?_
      obtain ⟨rfl, i_13⟩ := s
      refine gInt_intro rfl (?_)
      have m_1 := k_1.tame
      have bx5 := bx5.keep k_1
      have bx7 := bx7.keep k_1
      have k0 := k0.trans k_1
      have kh := kh.trans k_1
      refine lift_eq g (fun q_14 g => ?_) (fun q_14 g => ?_)
      · exact g _ _ k0 rfl
      · exact D3.hv k0 (r5_1.tame (m_1)) bx5 o5 (r7_1.tame (m_1)) bx7 o7 d5q7 (tb.tame (m_1)) g
def D1.v (b0_0 : Bool) (xs0_1 : List Nat) (b1_0 : Bool) (xs1_1 : List Nat) : Bool :=
  letV ((zz (zi (b0_0, xs0_1)), decide (SmZ (zi (b0_0, xs0_1))))) fun p_3 =>
  letV ((zz (zi (b1_0, xs1_1)), decide (SmZ (zi (b1_0, xs1_1))))) fun p_5 =>
  bif (!(true)) then
    false
  else
    bif (!(true)) then
      false
    else
      D2.v p_3.1.1 p_3.1.2 p_3.2 p_5.1.1 p_5.1.2 p_5.2
theorem D1.hv {R : Rt} {h0 h : Hp} (k0 : Keep h0 h) {b0_0 : Bool} {a0_1 : Option Addr} {c0_1 l0_1 : Nat} {xs0_1 : List Nat} (r0_1 : Rd h a0_1 c0_1 xs0_1) (e0_1 : l0_1 = xs0_1.length) {b1_0 : Bool} {a1_1 : Option Addr} {c1_1 l1_1 : Nat} {xs1_1 : List Nat} (r1_1 : Rd h a1_1 c1_1 xs1_1) (e1_1 : l1_1 = xs1_1.length) (tb : Tab h) (g : Post sBool h0 R (D1.v b0_0 xs0_1 b1_0 xs1_1)) : D1.t R b0_0 a0_1 l0_1 c0_1 b1_0 a1_1 l1_1 c1_1 h := by
  subst e0_1 e1_1
  have kh := Keep.refl h
  unfold D1.v at g
  unfold D1.t
  refine boxV fun h_1 bx_1 k_1 => ?_
  have o_1 : h0.size ≤ h.size := k0.le
  have oh_1 : h.size ≤ h.size := kh.le
  have lt_1 := bx_1.lt
  have m_1 := k_1.tame
  have k0 := k0.trans k_1
  have kh := kh.trans k_1
  refine boxV fun h_2 bx_2 k_2 => ?_
  have d_1q_2 : h.size ≠ h_1.size := Nat.ne_of_lt bx_1.lt
  have o_2 : h0.size ≤ h_1.size := k0.le
  have oh_2 : h.size ≤ h_1.size := kh.le
  have lt_2 := bx_2.lt
  have m_2 := k_2.tame
  have bx_1 := bx_1.keep k_2
  have k0 := k0.trans k_2
  have kh := kh.trans k_2
  refine ldA bx_1 (base_add _ _) rfl ?_
  refine gBool_intro rfl ?_
  refine ldA bx_1 (base_add _ _) rfl ?_
  refine gSlice_intro rfl ?_
  refine hc_intro (gnomonlaw04_formed.hs (r0_1.tame (m_1.trans m_2)) rfl) fun v h_3 ⟨k_3, s⟩ => ?_
  obtain ⟨p_3, hp_3⟩ : ∃ p, p = (zz (zi (b0_0, xs0_1)), decide (SmZ (zi (b0_0, xs0_1)))) := ⟨_, rfl⟩
  rw [← hp_3] at s
  replace g := lift_let2 hp_3 g
  obtain ⟨_, _, rfl, ⟨a_3_0, c_3_0, rfl, r_3_0⟩, rfl⟩ := s
  refine gTup_intro rfl (uncons_intro (gAgg_intro rfl (uncons_intro (gBool_intro rfl (uncons_intro (gSlice_intro rfl (unnil_intro (uncons_intro (gBool_intro rfl (unnil_intro (?_)))))))))))
  have r_3_0 := r_3_0.from k0.le
  have m_3 := k_3.tame
  have bx_1 := bx_1.keep k_3
  have bx_2 := bx_2.keep k_3
  have k0 := k0.trans k_3
  have kh := kh.trans k_3
  refine boxV fun h_4 bx_4 k_4 => ?_
  have d_1q_4 : h.size ≠ h_3.size := Nat.ne_of_lt bx_1.lt
  have d_2q_4 : h_1.size ≠ h_3.size := Nat.ne_of_lt bx_2.lt
  have o_4 : h0.size ≤ h_3.size := k0.le
  have oh_4 : h.size ≤ h_3.size := kh.le
  have lt_4 := bx_4.lt
  have m_4 := k_4.tame
  have bx_1 := bx_1.keep k_4
  have bx_2 := bx_2.keep k_4
  have k0 := k0.trans k_4
  have kh := kh.trans k_4
  refine stA bx_4 (base_add _ _) rfl fun h_5 bx_4 k_5 m_5 => ?_
  have bx_1 := bx_1.keepB d_1q_4 k_5
  have bx_2 := bx_2.keepB d_2q_4 k_5
  have k0 := KeepB.keep k0 k_5 o_4
  have kh := KeepB.keep kh k_5 oh_4
  refine stA bx_4 (base_add _ _) rfl fun h_6 bx_4 k_6 m_6 => ?_
  have bx_1 := bx_1.keepB d_1q_4 k_6
  have bx_2 := bx_2.keepB d_2q_4 k_6
  have k0 := KeepB.keep k0 k_6 o_4
  have kh := KeepB.keep kh k_6 oh_4
  refine ldA bx_2 (base_add _ _) rfl ?_
  refine gBool_intro rfl ?_
  refine ldA bx_2 (base_add _ _) rfl ?_
  refine gSlice_intro rfl ?_
  refine hc_intro (gnomonlaw04_formed.hs (r1_1.tame (m_1.trans (m_2.trans (m_3.trans (m_4.trans (m_5.trans m_6)))))) rfl) fun v h_7 ⟨k_7, s⟩ => ?_
  obtain ⟨p_5, hp_5⟩ : ∃ p, p = (zz (zi (b1_0, xs1_1)), decide (SmZ (zi (b1_0, xs1_1)))) := ⟨_, rfl⟩
  rw [← hp_5] at s
  replace g := lift_let2 hp_5 g
  obtain ⟨_, _, rfl, ⟨a_5_0, c_5_0, rfl, r_5_0⟩, rfl⟩ := s
  refine gTup_intro rfl (uncons_intro (gAgg_intro rfl (uncons_intro (gBool_intro rfl (uncons_intro (gSlice_intro rfl (unnil_intro (uncons_intro (gBool_intro rfl (unnil_intro (?_)))))))))))
  have r_5_0 := r_5_0.from k0.le
  have m_7 := k_7.tame
  have bx_1 := bx_1.keep k_7
  have bx_2 := bx_2.keep k_7
  have bx_4 := bx_4.keep k_7
  have k0 := k0.trans k_7
  have kh := kh.trans k_7
  refine boxV fun h_8 bx_6 k_8 => ?_
  have d_1q_6 : h.size ≠ h_7.size := Nat.ne_of_lt bx_1.lt
  have d_2q_6 : h_1.size ≠ h_7.size := Nat.ne_of_lt bx_2.lt
  have d_4q_6 : h_3.size ≠ h_7.size := Nat.ne_of_lt bx_4.lt
  have o_6 : h0.size ≤ h_7.size := k0.le
  have oh_6 : h.size ≤ h_7.size := kh.le
  have lt_6 := bx_6.lt
  have m_8 := k_8.tame
  have bx_1 := bx_1.keep k_8
  have bx_2 := bx_2.keep k_8
  have bx_4 := bx_4.keep k_8
  have k0 := k0.trans k_8
  have kh := kh.trans k_8
  refine stA bx_6 (base_add _ _) rfl fun h_9 bx_6 k_9 m_9 => ?_
  have bx_1 := bx_1.keepB d_1q_6 k_9
  have bx_2 := bx_2.keepB d_2q_6 k_9
  have bx_4 := bx_4.keepB d_4q_6 k_9
  have k0 := KeepB.keep k0 k_9 o_6
  have kh := KeepB.keep kh k_9 oh_6
  refine stA bx_6 (base_add _ _) rfl fun h_10 bx_6 k_10 m_10 => ?_
  have bx_1 := bx_1.keepB d_1q_6 k_10
  have bx_2 := bx_2.keepB d_2q_6 k_10
  have bx_4 := bx_4.keepB d_4q_6 k_10
  have k0 := KeepB.keep k0 k_10 o_6
  have kh := KeepB.keep kh k_10 oh_6
  refine hc_intro (awake_hs) fun v h_11 ⟨k_11, s⟩ => ?_
  obtain rfl := s
  refine gBool_intro rfl (?_)
  have m_11 := k_11.tame
  have bx_1 := bx_1.keep k_11
  have bx_2 := bx_2.keep k_11
  have bx_4 := bx_4.keep k_11
  have bx_6 := bx_6.keep k_11
  have k0 := k0.trans k_11
  have kh := kh.trans k_11
  refine lift_not g (fun q_8 g => ?_) (fun q_8 g => ?_)
  · exact g _ _ k0 rfl
  · refine hc_intro (halves_hs (tb.tame (m_1.trans (m_2.trans (m_3.trans (m_4.trans (m_5.trans (m_6.trans (m_7.trans (m_8.trans (m_9.trans (m_10.trans m_11)))))))))))) fun v h_12 ⟨k_12, s⟩ => ?_
    obtain rfl := s
    refine gBool_intro rfl (?_)
    have m_12 := k_12.tame
    have bx_1 := bx_1.keep k_12
    have bx_2 := bx_2.keep k_12
    have bx_4 := bx_4.keep k_12
    have bx_6 := bx_6.keep k_12
    have k0 := k0.trans k_12
    have kh := kh.trans k_12
    refine lift_not g (fun q_10 g => ?_) (fun q_10 g => ?_)
    · exact g _ _ k0 rfl
    · exact D2.hv k0 (r_3_0.tame (m_4.trans (m_5.trans (m_6.trans (m_7.trans (m_8.trans (m_9.trans (m_10.trans (m_11.trans m_12))))))))) bx_4 o_4 (r_5_0.tame (m_8.trans (m_9.trans (m_10.trans (m_11.trans m_12))))) bx_6 o_6 d_4q_6 (tb.tame (m_1.trans (m_2.trans (m_3.trans (m_4.trans (m_5.trans (m_6.trans (m_7.trans (m_8.trans (m_9.trans (m_10.trans (m_11.trans m_12)))))))))))) g
def v (b0_0 : Bool) (xs0_1 : List Nat) (b1_0 : Bool) (xs1_1 : List Nat) : Bool := D1.v b0_0 xs0_1 b1_0 xs1_1
theorem hv {h : Hp} {b0_0 : Bool} {a0_1 : Option Addr} {c0_1 l0_1 : Nat} {xs0_1 : List Nat} (r0_1 : Rd h a0_1 c0_1 xs0_1) (e0_1 : l0_1 = xs0_1.length) {b1_0 : Bool} {a1_1 : Option Addr} {c1_1 l1_1 : Nat} {xs1_1 : List Nat} (r1_1 : Rd h a1_1 c1_1 xs1_1) (e1_1 : l1_1 = xs1_1.length) (tb : Tab h) : HC id #[.agg #[.bool b0_0, .slice a0_1 l0_1 c0_1], .agg #[.bool b1_0, .slice a1_1 l1_1 c1_1]] h fun v_ h_ => Keep h h_ ∧ sBool h h_ v_ (v b0_0 xs0_1 b1_0 xs1_1) :=
  ok (D1.hv (Keep.refl _) r0_1 e0_1 r1_1 e1_1 tb fun v h' k s => ⟨k, s⟩)
end gnomonlaw04_NumNests

end Go.Proofs.YtpglfeeebnnkkaaDoor.G

/- Layer 4: a whole number as an argument. -/
namespace Go.Proofs.YtpglfeeebnnkkaaDoor.G
open Go.Gv
set_option linter.unusedVariables false
set_option maxRecDepth 100000
theorem zne : ((0 : Int) != 0) = false := rfl
/-! ### the laws -/
theorem says_oneZ {α β : Type} {S : Says α} {T : Says β} {h : Hp} {cs : List Value} {p : α × β} (z : saysCons S 1 T h cs p) : ∃ c rest, cs = c :: rest ∧ S h [c] p.1 ∧ T h rest p.2 := by
  obtain ⟨l, s, t⟩ := z
  cases cs with
  | nil => simp at l
  | cons c r => exact ⟨c, r, rfl, s, t⟩
abbrev saysInt4 : Says (Bool × List Nat × Unit) := saysCons saysBool 1 (saysCons saysWords 1 saysEnd)
theorem int4_open {h : Hp} {cs : Array Value} {x : Bool × List Nat × Unit} (z : saysInt4 h cs.toList x) : ∃ a c, cs = #[.bool x.1, .slice a x.2.1.length c] ∧ Rd h a c x.2.1 := by
  obtain ⟨v0, t0, e0, f0, z⟩ := says_oneZ z
  obtain ⟨v1, t1, e1, ⟨a1, c1, f1, r1, _⟩, z⟩ := says_oneZ z
  have z : t1 = [] := z
  have f0 : [v0] = [.bool x.1] := f0
  simp only [List.cons.injEq, and_true] at f0 f1
  subst f0 f1
  rw [e1, z] at e0
  exact ⟨a1, c1, Array.toList_inj.mp e0, r1⟩
end Go.Proofs.YtpglfeeebnnkkaaDoor.G

/- The law NumNests of the translation answers true. -/
namespace Go.Proofs.YtpglfeeebnnkkaaDoor.G
open Go.Gv
set_option linter.unusedVariables false
set_option maxRecDepth 100000
theorem ite_max (a b : Nat) : (if ((a : Nat) : Int) > ((b : Nat) : Int) then ((a : Nat) : Int) else ((b : Nat) : Int)) = ((max b a : Nat) : Int) := by
  split <;> omega
theorem zz_len (i : Int) : (zz i).2.length = (digs i.natAbs).length := rfl
theorem sm_sumN {A B k n : Nat} (hn : n ≤ A + B) (hx : (digs A).length ≤ k) (hy : (digs B).length ≤ k) : (digs n).length ≤ k + 1 :=
  Nat.le_trans (digs_len_mono hn) (digs_add_len hx hy)
/-- Rounded up against rounded down. -/
theorem cei_flo {a b : Int} (hb : b ≠ 0) : cei a b = if mo a b = 0 then flo a b else flo a b + 1 := by
  obtain ⟨p, A, rfl, hp, _⟩ := sg_of a
  obtain ⟨q, B, rfl, hq, _⟩ := sg_of b
  have hB : B ≠ 0 := fun h => hb (sg_eq_zero.mpr h)
  rw [flo_sg hB hp, cei_sg hB hp, mo_sg hB hp]
  have hm := Nat.mod_lt A (show 0 < B by omega)
  generalize A % B = r at *
  generalize A / B = Q at *
  have e0 : ∀ n : Nat, (sg q n = 0) ↔ n = 0 := fun n => sg_eq_zero
  by_cases hr : r = 0
  · subst hr
    simp only [ne_eq, not_true_eq_false, and_false, if_false, e0, if_true]
  · cases hx : (xor p q)
    · simp only [Bool.false_eq_true, false_and, if_false, hr, ne_eq, not_false_eq_true, and_self, if_true, e0]
      unfold sg; simp
    · simp only [reduceCtorEq, false_and, if_false, hr, ne_eq, not_false_eq_true, and_self, if_true, e0]
      rw [if_neg (by omega)]
      unfold sg; simp; omega
theorem nea_flo {a b : Int} (hb : b ≠ 0) : nea a b = flo a b ∨ nea a b = cei a b := by
  obtain ⟨p, A, rfl, hp, _⟩ := sg_of a
  obtain ⟨q, B, rfl, hq, _⟩ := sg_of b
  have hB : B ≠ 0 := fun h => hb (sg_eq_zero.mpr h)
  rw [flo_sg hB hp, cei_sg hB hp, nea_sg hB hp]
  unfold nearN
  have hm := Nat.mod_lt A (show 0 < B by omega)
  generalize A % B = r at *
  generalize A / B = Q at *
  by_cases hr : r = 0
  · subst hr
    left
    rw [if_neg (by omega), if_neg (by simp)]
  · cases hx : (xor p q)
    · by_cases c : B < 2 * r ∨ (2 * r = B ∧ Q % 2 = 1)
      · right; rw [if_pos c, if_pos ⟨rfl, hr⟩]
      · left; rw [if_neg c, if_neg (by simp)]
    · by_cases c : B < 2 * r ∨ (2 * r = B ∧ Q % 2 = 1)
      · left; rw [if_pos c, if_pos ⟨rfl, hr⟩]
      · right; rw [if_neg c, if_neg (by simp)]
/-- The nearest is off by at most half the divisor; where by just half, it is even. -/
theorem nea_off {a b : Int} (hb : b ≠ 0) : 2 * (a - nea a b * b).natAbs ≤ b.natAbs ∧ (2 * (a - nea a b * b).natAbs = b.natAbs → (nea a b).natAbs % 2 = 0) := by
  obtain ⟨p, A, rfl, hp, _⟩ := sg_of a
  obtain ⟨q, B, rfl, hq, _⟩ := sg_of b
  have hB : B ≠ 0 := fun h => hb (sg_eq_zero.mpr h)
  rw [nea_sg hB hp, mul_sg, sg_abs, sg_abs]
  have ex : (xor (xor p q) q) = p := by cases p <;> cases q <;> rfl
  rw [ex]
  have hd := Nat.div_add_mod A B
  have hm := Nat.mod_lt A (show 0 < B by omega)
  have e : (sg p A - sg p (nearN A B * B)).natAbs = ((A : Int) - ((nearN A B * B : Nat) : Int)).natAbs := by
    cases p
    · rfl
    · unfold sg; simp only [if_true]; omega
  rw [e]
  unfold nearN
  generalize A % B = r at *
  generalize A / B = Q at *
  have e1 : (Q + 1) * B = B * Q + B := by rw [Nat.add_mul, Nat.one_mul, Nat.mul_comm]
  have e2 : Q * B = B * Q := Nat.mul_comm _ _
  by_cases c : B < 2 * r ∨ (2 * r = B ∧ Q % 2 = 1)
  · rw [if_pos c, e1]
    generalize B * Q = T at *
    omega
  · rw [if_neg c, e2]
    generalize B * Q = T at *
    omega
theorem digs_odd (n : Nat) (h : 0 < (digs n).length) : Int.tmod (((digs n).getD 0 0 : Nat) : Int) 2 = ((n % 2 : Nat) : Int) := by
  by_cases h0 : n = 0
  · subst h0; rw [digs_zero] at h; simp at h
  · rw [digs_pos h0]
    have e : (n % 18446744073709551616 :: digs (n / 18446744073709551616)).getD 0 0 = n % 18446744073709551616 := rfl
    rw [e, show (2 : Int) = ((2 : Nat) : Int) by rfl, ← Int.ofNat_tmod]
    congr 1; omega
theorem mul_flo_big {X Y f : Int} (hX : SmZ X) (hY : SmZ Y) (hf : (f * Y).natAbs ≤ X.natAbs + Y.natAbs) (h : ¬ SmZ (f * Y)) : max (digs X.natAbs).length (digs Y.natAbs).length = 8192 := by
  have hx' : (digs X.natAbs).length ≤ 8192 := hX
  have hy' : (digs Y.natAbs).length ≤ 8192 := hY
  have h' : ¬ (digs (f * Y).natAbs).length ≤ 8192 := h
  rcases Nat.lt_or_ge (max (digs X.natAbs).length (digs Y.natAbs).length) 8192 with h1 | h1
  · exact absurd (sm_sumN (k := 8191) hf (by omega) (by omega)) (by omega)
  · omega
theorem nests_D8 {X Y : Int} (hX : SmZ X) (hY : SmZ Y) (h0 : Y ≠ 0) {d : Int} (hd : d = (X - nea X Y * Y) * 2) : gnomonlaw04_NumNests.D8.v (zz Y).1 (zz Y).2 (zz (nea X Y)).1 (zz (nea X Y)).2 (zz (mo X Y)).1 (zz (mo X Y)).2 (zz d).1 (zz d).2 = true := by
  have ho := nea_off (a := X) h0
  have hm := mo_abs (a := X) h0
  have ed : d.natAbs = 2 * (X - nea X Y * Y).natAbs := by rw [hd, Int.natAbs_mul, show (2 : Int).natAbs = 2 from rfl]; exact Nat.mul_comm _ _
  have F : ∀ n : Nat, (digs n).length ≤ 8192 → (false, digs n) = zz (n : Int) ∧ SmZ (n : Int) := by
    intro n hn
    have : ¬ ((n : Nat) : Int) < 0 := by omega
    refine ⟨?_, ?_⟩
    · unfold zz; rw [Int.natAbs_natCast]; simp
    · unfold SmZ; rw [Int.natAbs_natCast]; exact hn
  have ly : (digs Y.natAbs).length ≤ 8192 := hY
  have ld : (digs d.natAbs).length ≤ 8192 := Nat.le_trans (digs_len_mono (by omega)) ly
  have lm : (digs (mo X Y).natAbs).length ≤ 8192 := Nat.le_trans (digs_len_mono (Nat.le_of_lt hm)) ly
  have e1 : (false, (zz d).2) = zz ((d.natAbs : Nat) : Int) := (F _ ld).1
  have e2 : (false, (zz Y).2) = zz ((Y.natAbs : Nat) : Int) := (F _ ly).1
  have e3 : (false, (zz (mo X Y)).2) = zz (((mo X Y).natAbs : Nat) : Int) := (F _ lm).1
  unfold gnomonlaw04_NumNests.D8.v
  simp only [letV, e1, e2, e3, cmp_zz (F _ ld).2 (F _ ly).2, cmp_zz (F _ lm).2 (F _ ly).2]
  have c1 : cmpZ (((mo X Y).natAbs : Nat) : Int) ((Y.natAbs : Nat) : Int) = -1 := by unfold cmpZ; rw [if_pos (by omega)]
  have fin : ∀ b : Bool, (b = true → (nea X Y).natAbs % 2 = 1) → gnomonlaw04_NumNests.D9.v (cmpZ ((d.natAbs : Nat) : Int) ((Y.natAbs : Nat) : Int)) 0 (cmpZ (((mo X Y).natAbs : Nat) : Int) ((Y.natAbs : Nat) : Int)) 0 b = true := by
    intro b hb
    unfold gnomonlaw04_NumNests.D9.v
    rw [c1]
    by_cases c2 : ((d.natAbs : Nat) : Int) < ((Y.natAbs : Nat) : Int)
    · have : cmpZ ((d.natAbs : Nat) : Int) ((Y.natAbs : Nat) : Int) = -1 := by unfold cmpZ; rw [if_pos c2]
      rw [this]; rfl
    · have c3 : ((d.natAbs : Nat) : Int) = ((Y.natAbs : Nat) : Int) := by omega
      have : cmpZ ((d.natAbs : Nat) : Int) ((Y.natAbs : Nat) : Int) = 0 := by unfold cmpZ; rw [if_neg c2, if_pos c3]
      rw [this]
      have hb2 : b = false := by
        cases b
        · rfl
        · have h1 := hb rfl
          have h2 := ho.2 (by omega)
          omega
      subst hb2; rfl
  have el : (zz (nea X Y)).2 = digs (nea X Y).natAbs := rfl
  rw [el]
  by_cases hl : 0 < (digs (nea X Y).natAbs).length
  · have : decide (((digs (nea X Y).natAbs).length : Int) > 0) = true := decide_eq_true (by omega)
    rw [this, cond_true, digs_odd _ hl]
    refine fin _ fun h => ?_
    have := eq_of_beq h
    omega
  · have : decide (((digs (nea X Y).natAbs).length : Int) > 0) = false := decide_eq_false (by omega)
    rw [this, cond_false]
    exact fin _ fun h => by cases h
theorem nests_D7 {X Y : Int} (hX : SmZ X) (hY : SmZ Y) (h0 : Y ≠ 0) : gnomonlaw04_NumNests.D7.v (zz X).1 (zz X).2 (zz Y).1 (zz Y).2 (zz (nea X Y)).1 (zz (nea X Y)).2 (zz (mo X Y)).1 (zz (mo X Y)).2 = true := by
  have ho := nea_off (a := X) h0
  have sg_ : SmZ (nea X Y) := smZ_le (nea_abs h0) hX
  unfold gnomonlaw04_NumNests.D7.v
  simp only [letV, eta2, two_zz mulI sg_ hY]
  have em : mulI (nea X Y) Y = nea X Y * Y := rfl
  rw [em]
  by_cases h : SmZ (nea X Y * Y)
  · have e1 : subI X (nea X Y * Y) = X - nea X Y * Y := rfl
    have ly : (digs Y.natAbs).length ≤ 8192 := hY
    have s1 : SmZ (X - nea X Y * Y) := smZ_le (j := Y) (by omega) hY
    have s2 : SmZ ((X - nea X Y * Y) * 2 ^ 1) := smZ_le (j := Y) (by rw [Int.natAbs_mul]; simp; omega) hY
    have e2 : shlZ (zz (X - nea X Y * Y)) 1 = (zz ((X - nea X Y * Y) * 2 ^ 1), 0) := by rw [← zlim_ok s2]; exact shl_zz s1 1
    simp only [zlim_ok h, zne, cond_false, two_zz subI hX h, e1, zlim_ok s1, e2]
    exact nests_D8 hX hY h0 (by simp)
  · have hh := mul_flo_big hX hY (f := nea X Y) (by omega) h
    have e5 : ((5 : Int) != 0) = true := rfl
    have e6 : ((5 : Int) == 5) = true := rfl
    rw [zlim_no h]
    simp only [e5, e6, cond_true, ite_max]
    simp only [zz_len]
    rw [hh]; rfl
theorem nests_D5 {X Y : Int} (hX : SmZ X) (hY : SmZ Y) (h0 : Y ≠ 0) : gnomonlaw04_NumNests.D5.v (zz X).1 (zz X).2 (zz Y).1 (zz Y).2 (zz (flo X Y)).1 (zz (flo X Y)).2 (zz (cei X Y)).1 (zz (cei X Y)).2 (zz (nea X Y)).1 (zz (nea X Y)).2 (zz (mo X Y)).1 (zz (mo X Y)).2 = true := by
  have sf : SmZ (flo X Y) := smZ_le (flo_abs h0) hX
  have sc : SmZ (cei X Y) := smZ_le (cei_abs h0) hX
  have d6 : gnomonlaw04_NumNests.D6.v (zz X).1 (zz X).2 (zz Y).1 (zz Y).2 (zz (flo X Y)).1 (zz (flo X Y)).2 (zz (cei X Y)).1 (zz (cei X Y)).2 (zz (nea X Y)).1 (zz (nea X Y)).2 (zz (mo X Y)).1 (zz (mo X Y)).2 = true := by
    unfold gnomonlaw04_NumNests.D6.v
    rw [nests_D7 hX hY h0]
    simp only [eta2]
    rcases nea_flo (a := X) h0 with e | e
    · rw [e]; simp
    · rw [e]; simp
  unfold gnomonlaw04_NumNests.D5.v
  have hc := cei_flo (a := X) h0
  have es : subI (cei X Y) (flo X Y) = if mo X Y = 0 then 0 else 1 := by
    show cei X Y - flo X Y = _
    rw [hc]; split <;> omega
  have s01 : SmZ (if mo X Y = 0 then (0 : Int) else 1) := sm_small (by split <;> decide)
  simp only [letV, eta2, two_zz subI sc sf, es, zlim_ok s01, zne, cond_false, zz_eq, zi_zz, cmp_eq_iff, d6]
  have ne : (cmpZ (mo X Y) 0 != 0) = !decide (mo X Y = 0) := by rw [← cmp_eq_iff]; rfl
  rw [ne]
  by_cases hm : mo X Y = 0 <;> simp [hm]
theorem nests_D3 {X Y : Int} (hX : SmZ X) (hY : SmZ Y) (h0 : Y ≠ 0) : gnomonlaw04_NumNests.D3.v (zz X).1 (zz X).2 (zz Y).1 (zz Y).2 = true := by
  have sf : SmZ (flo X Y) := smZ_le (flo_abs h0) hX
  have sc : SmZ (cei X Y) := smZ_le (cei_abs h0) hX
  have sn : SmZ (nea X Y) := smZ_le (nea_abs h0) hX
  have hma := mo_abs (a := X) h0
  have sm : SmZ (mo X Y) := smZ_le (Nat.le_of_lt hma) hY
  unfold gnomonlaw04_NumNests.D3.v
  simp only [letV, eta2, quo_zz hX hY h0, zlim_ok sf, zlim_ok sc, zlim_ok sn, zlim_ok sm, zne, cond_false]
  unfold gnomonlaw04_NumNests.D4.v
  simp only [letV, eta2, two_zz mulI sf hY]
  have em : mulI (flo X Y) Y = flo X Y * Y := rfl
  have ex : flo X Y * Y + mo X Y = X := by unfold mo; rw [Int.mul_comm Y]; omega
  rw [em]
  by_cases h : SmZ (flo X Y * Y)
  · have ea : addI (flo X Y * Y) (mo X Y) = X := ex
    simp only [zlim_ok h, zne, cond_false, two_zz addI h sm, ea, zlim_ok hX, decide_true, Bool.not_true, zi_zz, cmpZ_wrap]
    have hs : (cmpZ (mo X Y) 0 == cmpZ (-Y) 0) = false := by
      obtain ⟨p, A, e1, hp, _⟩ := sg_of X
      obtain ⟨q, B, e2, hq, _⟩ := sg_of Y
      have hB : B ≠ 0 := fun h => h0 (by rw [e2]; exact sg_eq_zero.mpr h)
      rw [e1, e2, mo_sg hB hp, neg_sg]
      generalize (if (xor p q) = true ∧ A % B ≠ 0 then B - A % B else A % B) = n
      unfold cmpZ sg
      cases q
      · simp only [Bool.false_eq_true, if_false, Bool.not_false, if_true]
        rw [if_neg (by omega), if_pos (show -(B : Int) < 0 by omega)]
        split <;> rfl
      · simp only [if_true, Bool.not_true, Bool.false_eq_true, if_false]
        rw [if_neg (show ¬ ((B : Nat) : Int) < 0 by omega), if_neg (show ¬ ((B : Nat) : Int) = 0 by omega)]
        by_cases hn : n = 0
        · subst hn; rfl
        · rw [if_pos (by omega)]; rfl
    rw [hs, cond_false]
    exact nests_D5 hX hY h0
  · have hh := mul_flo_big hX hY (f := flo X Y) (by
      have : flo X Y * Y = X - mo X Y := by omega
      rw [this]; omega) h
    have e5 : ((5 : Int) != 0) = true := rfl
    have e6 : ((5 : Int) == 5) = true := rfl
    rw [zlim_no h]
    simp only [e5, e6, cond_true, ite_max]
    simp only [zz_len]
    rw [hh]; rfl
theorem NumNests_v (b c : Bool) (xs ys : List Nat) : gnomonlaw04_NumNests.v b xs c ys = true := by
  unfold gnomonlaw04_NumNests.v gnomonlaw04_NumNests.D1.v
  simp only [letV, Bool.not_true, cond_false]
  generalize zi (b, xs) = X
  generalize zi (c, ys) = Y
  unfold gnomonlaw04_NumNests.D2.v
  by_cases hx : SmZ X
  · by_cases hy : SmZ Y
    · simp only [hx, hy, decide_true, Bool.not_true, cond_false, eta2, zi_zz, cmp_eq_iff]
      by_cases h0 : Y = 0
      · simp only [h0, decide_true, cond_true]
      · simp only [h0, decide_false, cond_false]
        exact nests_D3 hx hy h0
    · simp only [hx, hy, decide_true, decide_false, Bool.not_true, Bool.not_false, cond_false, cond_true]
  · simp only [hx, decide_false, Bool.not_false, cond_true]
section
variable {h : Hp} {cs ds : Array Value} {X Y : Bool × List Nat × Unit}
theorem NumNests_law (z0 : saysInt4 h cs.toList X) (z1 : saysInt4 h ds.toList Y) (tb : Tab h) : HC gnomonlaw04_NumNests.id #[.agg cs, .agg ds] h fun v h' => Keep h h' ∧ v = .bool true := by
  obtain ⟨a, c, e, r⟩ := int4_open z0
  obtain ⟨b, d, e', s⟩ := int4_open z1
  subst e; subst e'
  have := gnomonlaw04_NumNests.hv (b0_0 := X.1) (b1_0 := Y.1) r rfl s rfl tb
  rw [NumNests_v] at this; exact this
end
end Go.Proofs.YtpglfeeebnnkkaaDoor.G
