/- Texts of this work, joined: TopD3, ZAri, TopD4, TopD5. -/
import Derived.Test.YtabkkcbpckcfnaaDoorKB
import Derived.Test.YtabkkcbpckcfnaaDoorKC0
import Derived.Test.YtabkkcbpckcfnaaDoorKC1
/- Functions without loops as functions of values. Written by a program of this work. -/
namespace Go.Proofs.YtabkkcbpckcfnaaDoor.G
open Go.Gv
set_option linter.unusedVariables false
set_option maxRecDepth 100000
namespace gnomontop_quotients
def D6.v (b3_0 : Bool) (xs3_1 : List Nat) (b5_0 : Bool) (xs5_1 : List Nat) (b9_0 : Bool) (xs9_1 : List Nat) (b17_0 : Bool) (xs17_1 : List Nat) (b19_0 : Bool) (xs19_1 : List Nat) : Bool :=
  bif (decide (((cmpI (val xs19_1) (val xs3_1))) < (0 : Int))) then
    (decide ((b9_0, xs9_1) = (b5_0, xs5_1)))
  else
    bif (decide (((cmpI (val xs19_1) (val xs3_1))) > (0 : Int))) then
      (decide ((b9_0, xs9_1) = (b17_0, xs17_1)))
    else
      bif (bitS (val xs5_1) (0 : Int) == 1) then
        bif (decide ((b9_0, xs9_1) = (b17_0, xs17_1))) then
          true
        else
          bif (!(bitS (val xs5_1) (0 : Int) == 1)) then
            (decide ((b9_0, xs9_1) = (b5_0, xs5_1)))
          else
            false
      else
        bif (!(bitS (val xs5_1) (0 : Int) == 1)) then
          (decide ((b9_0, xs9_1) = (b5_0, xs5_1)))
        else
          false
theorem D6.hv {R : Rt} {h0 h : Hp} (k0 : Keep h0 h) {b3_0 : Bool} {a3_1 : Option Addr} {c3_1 : Nat} {xs3_1 : List Nat} (r3_1 : Rd h a3_1 c3_1 xs3_1) {B3 : Nat} (bx3 : BlkV h B3 [.bool b3_0, .slice a3_1 xs3_1.length c3_1]) (o3 : h0.size ≤ B3) {b5_0 : Bool} {a5_1 : Option Addr} {c5_1 : Nat} {xs5_1 : List Nat} (r5_1 : GotE eU64 h0 h a5_1 c5_1 xs5_1) {B5 : Nat} (bx5 : BlkV h B5 [.bool b5_0, .slice a5_1 xs5_1.length c5_1]) (o5 : h0.size ≤ B5) {b9_0 : Bool} {a9_1 : Option Addr} {c9_1 : Nat} {xs9_1 : List Nat} (r9_1 : GotE eU64 h0 h a9_1 c9_1 xs9_1) {B9 : Nat} (bx9 : BlkV h B9 [.bool b9_0, .slice a9_1 xs9_1.length c9_1]) (o9 : h0.size ≤ B9) {b17_0 : Bool} {a17_1 : Option Addr} {c17_1 : Nat} {xs17_1 : List Nat} (r17_1 : GotE eU64 h0 h a17_1 c17_1 xs17_1) {B17 : Nat} (bx17 : BlkV h B17 [.bool b17_0, .slice a17_1 xs17_1.length c17_1]) (o17 : h0.size ≤ B17) {b19_0 : Bool} {a19_1 : Option Addr} {c19_1 : Nat} {xs19_1 : List Nat} (r19_1 : GotE eU64 h0 h a19_1 c19_1 xs19_1) {B19 : Nat} (bx19 : BlkV h B19 [.bool b19_0, .slice a19_1 xs19_1.length c19_1]) (o19 : h0.size ≤ B19) (d3q5 : B3 ≠ B5) (d3q9 : B3 ≠ B9) (d3q17 : B3 ≠ B17) (d3q19 : B3 ≠ B19) (d5q9 : B5 ≠ B9) (d5q17 : B5 ≠ B17) (d5q19 : B5 ≠ B19) (d9q17 : B9 ≠ B17) (d9q19 : B9 ≠ B19) (d17q19 : B17 ≠ B19) (g : Post sBool h0 R (D6.v b3_0 xs3_1 b5_0 xs5_1 b9_0 xs9_1 b17_0 xs17_1 b19_0 xs19_1)) : D6.t R (⟨B3, 0, none⟩ : Addr) (⟨B5, 0, none⟩ : Addr) (⟨B9, 0, none⟩ : Addr) (⟨B17, 0, none⟩ : Addr) (⟨B19, 0, none⟩ : Addr) h := by
  have kh := Keep.refl h
  have lt3 := bx3.lt
  have lt5 := bx5.lt
  have lt9 := bx9.lt
  have lt17 := bx17.lt
  have lt19 := bx19.lt
  unfold D6.v at g
  unfold D6.t
  refine ldA bx19 (base_add _ _) rfl ?_
  refine gSlice_intro rfl ?_
  refine ldA bx3 (base_add _ _) rfl ?_
  refine gSlice_intro rfl ?_
  refine hc_intro (nat_Cmp.hv r19_1.rd64 rfl r3_1 rfl) fun v h_1 ⟨k_1, s⟩ => ?_
  obtain ⟨rfl, i_44⟩ := s
  refine gInt_intro rfl (?_)
  have m_1 := k_1.tame
  have bx3 := bx3.keep k_1
  have bx5 := bx5.keep k_1
  have bx9 := bx9.keep k_1
  have bx17 := bx17.keep k_1
  have bx19 := bx19.keep k_1
  have k0 := k0.trans k_1
  have kh := kh.trans k_1
  refine lift_dec g (fun q_45 g => ?_) (fun q_45 g => ?_)
  · refine ldA bx9 (base_add _ _) rfl ?_
    refine gBool_intro rfl ?_
    refine ldA bx9 (base_add _ _) rfl ?_
    refine gSlice_intro rfl ?_
    refine ldA bx5 (base_add _ _) rfl ?_
    refine gBool_intro rfl ?_
    refine ldA bx5 (base_add _ _) rfl ?_
    refine gSlice_intro rfl ?_
    refine hc_intro (gnomontop_sameInt.hs (r9_1.tame (m_1)).rd64 rfl (r5_1.tame (m_1)).rd64 rfl) fun v h_2 ⟨k_2, s⟩ => ?_
    obtain rfl := s
    refine gBool_intro rfl (?_)
    have m_2 := k_2.tame
    have bx3 := bx3.keep k_2
    have bx5 := bx5.keep k_2
    have bx9 := bx9.keep k_2
    have bx17 := bx17.keep k_2
    have bx19 := bx19.keep k_2
    have k0 := k0.trans k_2
    have kh := kh.trans k_2
    exact g _ _ k0 rfl
  · refine lift_dec g (fun q_47 g => ?_) (fun q_47 g => ?_)
    · refine ldA bx9 (base_add _ _) rfl ?_
      refine gBool_intro rfl ?_
      refine ldA bx9 (base_add _ _) rfl ?_
      refine gSlice_intro rfl ?_
      refine ldA bx17 (base_add _ _) rfl ?_
      refine gBool_intro rfl ?_
      refine ldA bx17 (base_add _ _) rfl ?_
      refine gSlice_intro rfl ?_
      refine hc_intro (gnomontop_sameInt.hs (r9_1.tame (m_1)).rd64 rfl (r17_1.tame (m_1)).rd64 rfl) fun v h_2 ⟨k_2, s⟩ => ?_
      obtain rfl := s
      refine gBool_intro rfl (?_)
      have m_2 := k_2.tame
      have bx3 := bx3.keep k_2
      have bx5 := bx5.keep k_2
      have bx9 := bx9.keep k_2
      have bx17 := bx17.keep k_2
      have bx19 := bx19.keep k_2
      have k0 := k0.trans k_2
      have kh := kh.trans k_2
      exact g _ _ k0 rfl
    · refine ldA bx5 (base_add _ _) rfl ?_
      refine gSlice_intro rfl ?_
      refine hc_intro (nat_Bit.hv (r5_1.tame (m_1)).rd64 rfl (show In .i64 (0 : Int) by decide)) fun v h_2 ⟨k_2, s⟩ => ?_
      obtain rfl := s
      refine gBool_intro rfl (?_)
      have m_2 := k_2.tame
      have bx3 := bx3.keep k_2
      have bx5 := bx5.keep k_2
      have bx9 := bx9.keep k_2
      have bx17 := bx17.keep k_2
      have bx19 := bx19.keep k_2
      have k0 := k0.trans k_2
      have kh := kh.trans k_2
      refine lift_bool g (fun q_50 g => ?_) (fun q_50 g => ?_)
      · refine ldA bx9 (base_add _ _) rfl ?_
        refine gBool_intro rfl ?_
        refine ldA bx9 (base_add _ _) rfl ?_
        refine gSlice_intro rfl ?_
        refine ldA bx17 (base_add _ _) rfl ?_
        refine gBool_intro rfl ?_
        refine ldA bx17 (base_add _ _) rfl ?_
        refine gSlice_intro rfl ?_
        refine hc_intro (gnomontop_sameInt.hs (r9_1.tame (m_1.trans m_2)).rd64 rfl (r17_1.tame (m_1.trans m_2)).rd64 rfl) fun v h_3 ⟨k_3, s⟩ => ?_
        obtain rfl := s
        refine gBool_intro rfl (?_)
        have m_3 := k_3.tame
        have bx3 := bx3.keep k_3
        have bx5 := bx5.keep k_3
        have bx9 := bx9.keep k_3
        have bx17 := bx17.keep k_3
        have bx19 := bx19.keep k_3
        have k0 := k0.trans k_3
        have kh := kh.trans k_3
        refine lift_dec g (fun q_52 g => ?_) (fun q_52 g => ?_)
        · exact g _ _ k0 rfl
        · refine lift_not g (fun q_53 g => ?_) (fun q_53 g => ?_)
          · refine ldA bx9 (base_add _ _) rfl ?_
            refine gBool_intro rfl ?_
            refine ldA bx9 (base_add _ _) rfl ?_
            refine gSlice_intro rfl ?_
            refine ldA bx5 (base_add _ _) rfl ?_
            refine gBool_intro rfl ?_
            refine ldA bx5 (base_add _ _) rfl ?_
            refine gSlice_intro rfl ?_
            refine hc_intro (gnomontop_sameInt.hs (r9_1.tame (m_1.trans (m_2.trans m_3))).rd64 rfl (r5_1.tame (m_1.trans (m_2.trans m_3))).rd64 rfl) fun v h_4 ⟨k_4, s⟩ => ?_
            obtain rfl := s
            refine gBool_intro rfl (?_)
            have m_4 := k_4.tame
            have bx3 := bx3.keep k_4
            have bx5 := bx5.keep k_4
            have bx9 := bx9.keep k_4
            have bx17 := bx17.keep k_4
            have bx19 := bx19.keep k_4
            have k0 := k0.trans k_4
            have kh := kh.trans k_4
            exact g _ _ k0 rfl
          · exact g _ _ k0 rfl
      · refine lift_not g (fun q_55 g => ?_) (fun q_55 g => ?_)
        · refine ldA bx9 (base_add _ _) rfl ?_
          refine gBool_intro rfl ?_
          refine ldA bx9 (base_add _ _) rfl ?_
          refine gSlice_intro rfl ?_
          refine ldA bx5 (base_add _ _) rfl ?_
          refine gBool_intro rfl ?_
          refine ldA bx5 (base_add _ _) rfl ?_
          refine gSlice_intro rfl ?_
          refine hc_intro (gnomontop_sameInt.hs (r9_1.tame (m_1.trans m_2)).rd64 rfl (r5_1.tame (m_1.trans m_2)).rd64 rfl) fun v h_3 ⟨k_3, s⟩ => ?_
          obtain rfl := s
          refine gBool_intro rfl (?_)
          have m_3 := k_3.tame
          have bx3 := bx3.keep k_3
          have bx5 := bx5.keep k_3
          have bx9 := bx9.keep k_3
          have bx17 := bx17.keep k_3
          have bx19 := bx19.keep k_3
          have k0 := k0.trans k_3
          have kh := kh.trans k_3
          exact g _ _ k0 rfl
        · exact g _ _ k0 rfl
def D5.v (b3_0 : Bool) (xs3_1 : List Nat) (b5_0 : Bool) (xs5_1 : List Nat) (b7_0 : Bool) (xs7_1 : List Nat) (b9_0 : Bool) (xs9_1 : List Nat) (b11_0 : Bool) (xs11_1 : List Nat) (b17_0 : Bool) (xs17_1 : List Nat) (x18 : Int) : Bool :=
  bif (x18 != (0 : Int)) then
    false
  else
    bif ((((xs11_1.length : Nat) : Int)) == (0 : Int)) then
      bif (decide ((b7_0, xs7_1) = (b5_0, xs5_1))) then
        (decide ((b9_0, xs9_1) = (b5_0, xs5_1)))
      else
        false
    else
      letV (shlZ (false, xs11_1) (1 : Int)) fun p_39 =>
      bif (p_39.2 != (0 : Int)) then
        false
      else
        bif (!(decide ((b7_0, xs7_1) = (b17_0, xs17_1)))) then
          false
        else
          D6.v b3_0 xs3_1 b5_0 xs5_1 b9_0 xs9_1 b17_0 xs17_1 p_39.1.1 p_39.1.2
theorem D5.hv {R : Rt} {h0 h : Hp} (k0 : Keep h0 h) {b3_0 : Bool} {a3_1 : Option Addr} {c3_1 : Nat} {xs3_1 : List Nat} (r3_1 : Rd h a3_1 c3_1 xs3_1) {B3 : Nat} (bx3 : BlkV h B3 [.bool b3_0, .slice a3_1 xs3_1.length c3_1]) (o3 : h0.size ≤ B3) {b5_0 : Bool} {a5_1 : Option Addr} {c5_1 : Nat} {xs5_1 : List Nat} (r5_1 : GotE eU64 h0 h a5_1 c5_1 xs5_1) {B5 : Nat} (bx5 : BlkV h B5 [.bool b5_0, .slice a5_1 xs5_1.length c5_1]) (o5 : h0.size ≤ B5) {b7_0 : Bool} {a7_1 : Option Addr} {c7_1 : Nat} {xs7_1 : List Nat} (r7_1 : GotE eU64 h0 h a7_1 c7_1 xs7_1) {B7 : Nat} (bx7 : BlkV h B7 [.bool b7_0, .slice a7_1 xs7_1.length c7_1]) (o7 : h0.size ≤ B7) {b9_0 : Bool} {a9_1 : Option Addr} {c9_1 : Nat} {xs9_1 : List Nat} (r9_1 : GotE eU64 h0 h a9_1 c9_1 xs9_1) {B9 : Nat} (bx9 : BlkV h B9 [.bool b9_0, .slice a9_1 xs9_1.length c9_1]) (o9 : h0.size ≤ B9) {b11_0 : Bool} {a11_1 : Option Addr} {c11_1 : Nat} {xs11_1 : List Nat} (r11_1 : GotE eU64 h0 h a11_1 c11_1 xs11_1) {B11 : Nat} (bx11 : BlkV h B11 [.bool b11_0, .slice a11_1 xs11_1.length c11_1]) (o11 : h0.size ≤ B11) {b17_0 : Bool} {a17_1 : Option Addr} {c17_1 : Nat} {xs17_1 : List Nat} (r17_1 : GotE eU64 h0 h a17_1 c17_1 xs17_1) {B17 : Nat} (bx17 : BlkV h B17 [.bool b17_0, .slice a17_1 xs17_1.length c17_1]) (o17 : h0.size ≤ B17) {x18 : Int} (i18 : In .i64 x18) (d3q5 : B3 ≠ B5) (d3q7 : B3 ≠ B7) (d3q9 : B3 ≠ B9) (d3q11 : B3 ≠ B11) (d3q17 : B3 ≠ B17) (d5q7 : B5 ≠ B7) (d5q9 : B5 ≠ B9) (d5q11 : B5 ≠ B11) (d5q17 : B5 ≠ B17) (d7q9 : B7 ≠ B9) (d7q11 : B7 ≠ B11) (d7q17 : B7 ≠ B17) (d9q11 : B9 ≠ B11) (d9q17 : B9 ≠ B17) (d11q17 : B11 ≠ B17) (g : Post sBool h0 R (D5.v b3_0 xs3_1 b5_0 xs5_1 b7_0 xs7_1 b9_0 xs9_1 b11_0 xs11_1 b17_0 xs17_1 x18)) : D5.t R (⟨B3, 0, none⟩ : Addr) (⟨B5, 0, none⟩ : Addr) (⟨B7, 0, none⟩ : Addr) (⟨B9, 0, none⟩ : Addr) (⟨B11, 0, none⟩ : Addr) (⟨B17, 0, none⟩ : Addr) x18 h := by
  have kh := Keep.refl h
  have lt3 := bx3.lt
  have lt5 := bx5.lt
  have lt7 := bx7.lt
  have lt9 := bx9.lt
  have lt11 := bx11.lt
  have lt17 := bx17.lt
  unfold D5.v at g
  unfold D5.t
  refine lift_ne g (fun q_34 g => ?_) (fun q_34 g => ?_)
  · exact g _ _ k0 rfl
  · refine ldA bx11 (base_add _ _) rfl ?_
    refine gSlice_intro rfl ?_
    refine lift_eq g (fun q_35 g => ?_) (fun q_35 g => ?_)
    · refine ldA bx7 (base_add _ _) rfl ?_
      refine gBool_intro rfl ?_
      refine ldA bx7 (base_add _ _) rfl ?_
      refine gSlice_intro rfl ?_
      refine ldA bx5 (base_add _ _) rfl ?_
      refine gBool_intro rfl ?_
      refine ldA bx5 (base_add _ _) rfl ?_
      refine gSlice_intro rfl ?_
      refine hc_intro (gnomontop_sameInt.hs r7_1.rd64 rfl r5_1.rd64 rfl) fun v h_1 ⟨k_1, s⟩ => ?_
      obtain rfl := s
      refine gBool_intro rfl (?_)
      have m_1 := k_1.tame
      have bx3 := bx3.keep k_1
      have bx5 := bx5.keep k_1
      have bx7 := bx7.keep k_1
      have bx9 := bx9.keep k_1
      have bx11 := bx11.keep k_1
      have bx17 := bx17.keep k_1
      have k0 := k0.trans k_1
      have kh := kh.trans k_1
      refine lift_dec g (fun q_37 g => ?_) (fun q_37 g => ?_)
      · refine ldA bx9 (base_add _ _) rfl ?_
        refine gBool_intro rfl ?_
        refine ldA bx9 (base_add _ _) rfl ?_
        refine gSlice_intro rfl ?_
        refine ldA bx5 (base_add _ _) rfl ?_
        refine gBool_intro rfl ?_
        refine ldA bx5 (base_add _ _) rfl ?_
        refine gSlice_intro rfl ?_
        refine hc_intro (gnomontop_sameInt.hs (r9_1.tame (m_1)).rd64 rfl (r5_1.tame (m_1)).rd64 rfl) fun v h_2 ⟨k_2, s⟩ => ?_
        obtain rfl := s
        refine gBool_intro rfl (?_)
        have m_2 := k_2.tame
        have bx3 := bx3.keep k_2
        have bx5 := bx5.keep k_2
        have bx7 := bx7.keep k_2
        have bx9 := bx9.keep k_2
        have bx11 := bx11.keep k_2
        have bx17 := bx17.keep k_2
        have k0 := k0.trans k_2
        have kh := kh.trans k_2
        exact g _ _ k0 rfl
      · exact g _ _ k0 rfl
    · refine ldA bx11 (base_add _ _) rfl ?_
      refine gSlice_intro rfl ?_
      refine hc_intro (num_Shl.hs r11_1.rd64 rfl (show In .i64 (1 : Int) by decide)) fun v h_1 ⟨k_1, s⟩ => ?_
      obtain ⟨p_39, hp_39⟩ : ∃ p, p = shlZ (false, xs11_1) (1 : Int) := ⟨_, rfl⟩
      rw [← hp_39] at s
      replace g := lift_let2 hp_39 g
      obtain ⟨_, _, rfl, ⟨a_39_0, c_39_0, rfl, r_39_0⟩, ⟨rfl, i_39_1⟩⟩ := s
      refine gTup_intro rfl (uncons_intro (gAgg_intro rfl (uncons_intro (gBool_intro rfl (uncons_intro (gSlice_intro rfl (unnil_intro (uncons_intro (gInt_intro rfl (unnil_intro (?_)))))))))))
      have r_39_0 := r_39_0.from k0.le
      have m_1 := k_1.tame
      have bx3 := bx3.keep k_1
      have bx5 := bx5.keep k_1
      have bx7 := bx7.keep k_1
      have bx9 := bx9.keep k_1
      have bx11 := bx11.keep k_1
      have bx17 := bx17.keep k_1
      have k0 := k0.trans k_1
      have kh := kh.trans k_1
      refine boxV fun h_2 bx_40 k_2 => ?_
      have d3q_40 : B3 ≠ h_1.size := Nat.ne_of_lt bx3.lt
      have d5q_40 : B5 ≠ h_1.size := Nat.ne_of_lt bx5.lt
      have d7q_40 : B7 ≠ h_1.size := Nat.ne_of_lt bx7.lt
      have d9q_40 : B9 ≠ h_1.size := Nat.ne_of_lt bx9.lt
      have d11q_40 : B11 ≠ h_1.size := Nat.ne_of_lt bx11.lt
      have d17q_40 : B17 ≠ h_1.size := Nat.ne_of_lt bx17.lt
      have o_40 : h0.size ≤ h_1.size := k0.le
      have oh_40 : h.size ≤ h_1.size := kh.le
      have lt_40 := bx_40.lt
      have m_2 := k_2.tame
      have bx3 := bx3.keep k_2
      have bx5 := bx5.keep k_2
      have bx7 := bx7.keep k_2
      have bx9 := bx9.keep k_2
      have bx11 := bx11.keep k_2
      have bx17 := bx17.keep k_2
      have k0 := k0.trans k_2
      have kh := kh.trans k_2
      refine stA bx_40 (base_add _ _) rfl fun h_3 bx_40 k_3 m_3 => ?_
      have bx3 := bx3.keepB d3q_40 k_3
      have bx5 := bx5.keepB d5q_40 k_3
      have bx7 := bx7.keepB d7q_40 k_3
      have bx9 := bx9.keepB d9q_40 k_3
      have bx11 := bx11.keepB d11q_40 k_3
      have bx17 := bx17.keepB d17q_40 k_3
      have k0 := KeepB.keep k0 k_3 o_40
      have kh := KeepB.keep kh k_3 oh_40
      refine stA bx_40 (base_add _ _) rfl fun h_4 bx_40 k_4 m_4 => ?_
      have bx3 := bx3.keepB d3q_40 k_4
      have bx5 := bx5.keepB d5q_40 k_4
      have bx7 := bx7.keepB d7q_40 k_4
      have bx9 := bx9.keepB d9q_40 k_4
      have bx11 := bx11.keepB d11q_40 k_4
      have bx17 := bx17.keepB d17q_40 k_4
      have k0 := KeepB.keep k0 k_4 o_40
      have kh := KeepB.keep kh k_4 oh_40
      refine lift_ne g (fun q_41 g => ?_) (fun q_41 g => ?_)
      · exact g _ _ k0 rfl
      · refine ldA bx7 (base_add _ _) rfl ?_
        refine gBool_intro rfl ?_
        refine ldA bx7 (base_add _ _) rfl ?_
        refine gSlice_intro rfl ?_
        refine ldA bx17 (base_add _ _) rfl ?_
        refine gBool_intro rfl ?_
        refine ldA bx17 (base_add _ _) rfl ?_
        refine gSlice_intro rfl ?_
        refine hc_intro (gnomontop_sameInt.hs (r7_1.tame (m_1.trans (m_2.trans (m_3.trans m_4)))).rd64 rfl (r17_1.tame (m_1.trans (m_2.trans (m_3.trans m_4)))).rd64 rfl) fun v h_5 ⟨k_5, s⟩ => ?_
        obtain rfl := s
        refine gBool_intro rfl (?_)
        have m_5 := k_5.tame
        have bx3 := bx3.keep k_5
        have bx5 := bx5.keep k_5
        have bx7 := bx7.keep k_5
        have bx9 := bx9.keep k_5
        have bx11 := bx11.keep k_5
        have bx17 := bx17.keep k_5
        have bx_40 := bx_40.keep k_5
        have k0 := k0.trans k_5
        have kh := kh.trans k_5
        refine lift_not g (fun q_43 g => ?_) (fun q_43 g => ?_)
        · exact g _ _ k0 rfl
        · exact D6.hv k0 (r3_1.tame (m_1.trans (m_2.trans (m_3.trans (m_4.trans m_5))))) bx3 o3 (r5_1.tame (m_1.trans (m_2.trans (m_3.trans (m_4.trans m_5))))) bx5 o5 (r9_1.tame (m_1.trans (m_2.trans (m_3.trans (m_4.trans m_5))))) bx9 o9 (r17_1.tame (m_1.trans (m_2.trans (m_3.trans (m_4.trans m_5))))) bx17 o17 (r_39_0.tame (m_2.trans (m_3.trans (m_4.trans m_5)))) bx_40 o_40 d3q5 d3q9 d3q17 d3q_40 d5q9 d5q17 d5q_40 d9q17 d9q_40 d17q_40 g
def D4.v (b3_0 : Bool) (xs3_1 : List Nat) (b5_0 : Bool) (xs5_1 : List Nat) (b7_0 : Bool) (xs7_1 : List Nat) (b9_0 : Bool) (xs9_1 : List Nat) (b11_0 : Bool) (xs11_1 : List Nat) : Bool :=
  letV (zz (1 : Int)) fun p_31 =>
  letV (twoZ addI (b5_0, xs5_1) (p_31.1, p_31.2)) fun p_32 =>
  D5.v b3_0 xs3_1 b5_0 xs5_1 b7_0 xs7_1 b9_0 xs9_1 b11_0 xs11_1 p_32.1.1 p_32.1.2 p_32.2
theorem D4.hv {R : Rt} {h0 h : Hp} (k0 : Keep h0 h) {b3_0 : Bool} {a3_1 : Option Addr} {c3_1 : Nat} {xs3_1 : List Nat} (r3_1 : Rd h a3_1 c3_1 xs3_1) {B3 : Nat} (bx3 : BlkV h B3 [.bool b3_0, .slice a3_1 xs3_1.length c3_1]) (o3 : h0.size ≤ B3) {b5_0 : Bool} {a5_1 : Option Addr} {c5_1 : Nat} {xs5_1 : List Nat} (r5_1 : GotE eU64 h0 h a5_1 c5_1 xs5_1) {B5 : Nat} (bx5 : BlkV h B5 [.bool b5_0, .slice a5_1 xs5_1.length c5_1]) (o5 : h0.size ≤ B5) {b7_0 : Bool} {a7_1 : Option Addr} {c7_1 : Nat} {xs7_1 : List Nat} (r7_1 : GotE eU64 h0 h a7_1 c7_1 xs7_1) {B7 : Nat} (bx7 : BlkV h B7 [.bool b7_0, .slice a7_1 xs7_1.length c7_1]) (o7 : h0.size ≤ B7) {b9_0 : Bool} {a9_1 : Option Addr} {c9_1 : Nat} {xs9_1 : List Nat} (r9_1 : GotE eU64 h0 h a9_1 c9_1 xs9_1) {B9 : Nat} (bx9 : BlkV h B9 [.bool b9_0, .slice a9_1 xs9_1.length c9_1]) (o9 : h0.size ≤ B9) {b11_0 : Bool} {a11_1 : Option Addr} {c11_1 : Nat} {xs11_1 : List Nat} (r11_1 : GotE eU64 h0 h a11_1 c11_1 xs11_1) {B11 : Nat} (bx11 : BlkV h B11 [.bool b11_0, .slice a11_1 xs11_1.length c11_1]) (o11 : h0.size ≤ B11) (d3q5 : B3 ≠ B5) (d3q7 : B3 ≠ B7) (d3q9 : B3 ≠ B9) (d3q11 : B3 ≠ B11) (d5q7 : B5 ≠ B7) (d5q9 : B5 ≠ B9) (d5q11 : B5 ≠ B11) (d7q9 : B7 ≠ B9) (d7q11 : B7 ≠ B11) (d9q11 : B9 ≠ B11) (g : Post sBool h0 R (D4.v b3_0 xs3_1 b5_0 xs5_1 b7_0 xs7_1 b9_0 xs9_1 b11_0 xs11_1)) : D4.t R (⟨B3, 0, none⟩ : Addr) (⟨B5, 0, none⟩ : Addr) (⟨B7, 0, none⟩ : Addr) (⟨B9, 0, none⟩ : Addr) (⟨B11, 0, none⟩ : Addr) h := by
  have kh := Keep.refl h
  have lt3 := bx3.lt
  have lt5 := bx5.lt
  have lt7 := bx7.lt
  have lt9 := bx9.lt
  have lt11 := bx11.lt
  unfold D4.v at g
  unfold D4.t
  refine ⟨blkLt rfl (lt5), ?_⟩
  refine ldA bx5 (base_add _ _) rfl ?_
  refine gBool_intro rfl ?_
  refine ldA bx5 (base_add _ _) rfl ?_
  refine gSlice_intro rfl ?_
  refine ⟨?_, ?_⟩
  · refine hc_intro (num_Of.hs (show In .i64 (1 : Int) by decide)) fun v h_1 ⟨k_1, s⟩ => ?_
    obtain ⟨p_31, hp_31⟩ : ∃ p, p = zz (1 : Int) := ⟨_, rfl⟩
    rw [← hp_31] at s
    replace g := lift_let2 hp_31 g
    obtain ⟨a_31, c_31, rfl, r_31⟩ := s
    refine gAgg_intro rfl (uncons_intro (gBool_intro rfl (uncons_intro (gSlice_intro rfl (unnil_intro (?_))))))
    have r_31 := r_31.from k0.le
    have m_1 := k_1.tame
    have bx3 := bx3.keep k_1
    have bx5 := bx5.keep k_1
    have bx7 := bx7.keep k_1
    have bx9 := bx9.keep k_1
    have bx11 := bx11.keep k_1
    have k0 := k0.trans k_1
    have kh := kh.trans k_1
    refine ⟨k_1.preLe (Nat.le_refl _), ?_⟩
    refine ⟨?_, ?_⟩
    · refine hc_intro (num_Add.hs (r5_1.tame (m_1)).rd64 rfl r_31.rd64 rfl) fun v h_2 ⟨k_2, s⟩ => ?_
      obtain ⟨p_32, hp_32⟩ : ∃ p, p = twoZ addI (b5_0, xs5_1) (p_31.1, p_31.2) := ⟨_, rfl⟩
      rw [← hp_32] at s
      replace g := lift_let2 hp_32 g
      obtain ⟨_, _, rfl, ⟨a_32_0, c_32_0, rfl, r_32_0⟩, ⟨rfl, i_32_1⟩⟩ := s
      refine gTup_intro rfl (uncons_intro (gAgg_intro rfl (uncons_intro (gBool_intro rfl (uncons_intro (gSlice_intro rfl (unnil_intro (uncons_intro (gInt_intro rfl (unnil_intro (?_)))))))))))
      have r_32_0 := r_32_0.from k0.le
      have m_2 := k_2.tame
      have bx3 := bx3.keep k_2
      have bx5 := bx5.keep k_2
      have bx7 := bx7.keep k_2
      have bx9 := bx9.keep k_2
      have bx11 := bx11.keep k_2
      have k0 := k0.trans k_2
      have kh := kh.trans k_2
      refine ⟨k_2.preLe (m_1).le, ?_⟩
      refine boxV fun h_3 bx_33 k_3 => ?_
      have d3q_33 : B3 ≠ h_2.size := Nat.ne_of_lt bx3.lt
      have d5q_33 : B5 ≠ h_2.size := Nat.ne_of_lt bx5.lt
      have d7q_33 : B7 ≠ h_2.size := Nat.ne_of_lt bx7.lt
      have d9q_33 : B9 ≠ h_2.size := Nat.ne_of_lt bx9.lt
      have d11q_33 : B11 ≠ h_2.size := Nat.ne_of_lt bx11.lt
      have o_33 : h0.size ≤ h_2.size := k0.le
      have oh_33 : h.size ≤ h_2.size := kh.le
      have lt_33 := bx_33.lt
      have m_3 := k_3.tame
      have bx3 := bx3.keep k_3
      have bx5 := bx5.keep k_3
      have bx7 := bx7.keep k_3
      have bx9 := bx9.keep k_3
      have bx11 := bx11.keep k_3
      have k0 := k0.trans k_3
      have kh := kh.trans k_3
      refine ⟨k_3.preLe (m_1.trans m_2).le, ?_⟩
      refine stA bx_33 (base_add _ _) rfl fun h_4 bx_33 k_4 m_4 => ?_
      have bx3 := bx3.keepB d3q_33 k_4
      have bx5 := bx5.keepB d5q_33 k_4
      have bx7 := bx7.keepB d7q_33 k_4
      have bx9 := bx9.keepB d9q_33 k_4
      have bx11 := bx11.keepB d11q_33 k_4
      have k0 := KeepB.keep k0 k_4 o_33
      have kh := KeepB.keep kh k_4 oh_33
      refine stA bx_33 (base_add _ _) rfl fun h_5 bx_33 k_5 m_5 => ?_
      have bx3 := bx3.keepB d3q_33 k_5
      have bx5 := bx5.keepB d5q_33 k_5
      have bx7 := bx7.keepB d7q_33 k_5
      have bx9 := bx9.keepB d9q_33 k_5
      have bx11 := bx11.keepB d11q_33 k_5
      have k0 := KeepB.keep k0 k_5 o_33
      have kh := KeepB.keep kh k_5 oh_33
      exact D5.hv k0 (r3_1.tame (m_1.trans (m_2.trans (m_3.trans (m_4.trans m_5))))) bx3 o3 (r5_1.tame (m_1.trans (m_2.trans (m_3.trans (m_4.trans m_5))))) bx5 o5 (r7_1.tame (m_1.trans (m_2.trans (m_3.trans (m_4.trans m_5))))) bx7 o7 (r9_1.tame (m_1.trans (m_2.trans (m_3.trans (m_4.trans m_5))))) bx9 o9 (r11_1.tame (m_1.trans (m_2.trans (m_3.trans (m_4.trans m_5))))) bx11 o11 (r_32_0.tame (m_3.trans (m_4.trans m_5))) bx_33 o_33 i_32_1 d3q5 d3q7 d3q9 d3q11 d3q_33 d5q7 d5q9 d5q11 d5q_33 d7q9 d7q11 d7q_33 d9q11 d9q_33 d11q_33 g
    · refine boxV fun h_2 bx_57 k_2 => ?_
      have d3q_57 : B3 ≠ h_1.size := Nat.ne_of_lt bx3.lt
      have d5q_57 : B5 ≠ h_1.size := Nat.ne_of_lt bx5.lt
      have d7q_57 : B7 ≠ h_1.size := Nat.ne_of_lt bx7.lt
      have d9q_57 : B9 ≠ h_1.size := Nat.ne_of_lt bx9.lt
      have d11q_57 : B11 ≠ h_1.size := Nat.ne_of_lt bx11.lt
      have o_57 : h0.size ≤ h_1.size := k0.le
      have oh_57 : h.size ≤ h_1.size := kh.le
      have lt_57 := bx_57.lt
      have m_2 := k_2.tame
      have bx3 := bx3.keep k_2
      have bx5 := bx5.keep k_2
      have bx7 := bx7.keep k_2
      have bx9 := bx9.keep k_2
      have bx11 := bx11.keep k_2
      have k0 := k0.trans k_2
      have kh := kh.trans k_2
      refine ⟨k_2.preLe (m_1).le, ?_⟩
      refine hc_intro (num_Add.hs (r5_1.tame (m_1.trans m_2)).rd64 rfl (r_31.tame (m_2)).rd64 rfl) fun v h_3 ⟨k_3, s⟩ => ?_
      obtain ⟨p_58, hp_58⟩ : ∃ p, p = twoZ addI (b5_0, xs5_1) (p_31.1, p_31.2) := ⟨_, rfl⟩
      rw [← hp_58] at s
      replace g := lift_let2 hp_58 g
      obtain ⟨_, _, rfl, ⟨a_58_0, c_58_0, rfl, r_58_0⟩, ⟨rfl, i_58_1⟩⟩ := s
      refine gTup_intro rfl (uncons_intro (gAgg_intro rfl (uncons_intro (gBool_intro rfl (uncons_intro (gSlice_intro rfl (unnil_intro (uncons_intro (gInt_intro rfl (unnil_intro (?_)))))))))))
      have r_58_0 := r_58_0.from k0.le
      have m_3 := k_3.tame
      have bx3 := bx3.keep k_3
      have bx5 := bx5.keep k_3
      have bx7 := bx7.keep k_3
      have bx9 := bx9.keep k_3
      have bx11 := bx11.keep k_3
      have bx_57 := bx_57.keep k_3
      have k0 := k0.trans k_3
      have kh := kh.trans k_3
      refine ⟨k_3.preLe (m_1.trans m_2).le, ?_⟩
      refine stA bx_57 (base_add _ _) rfl fun h_4 bx_57 k_4 m_4 => ?_
      have bx3 := bx3.keepB d3q_57 k_4
      have bx5 := bx5.keepB d5q_57 k_4
      have bx7 := bx7.keepB d7q_57 k_4
      have bx9 := bx9.keepB d9q_57 k_4
      have bx11 := bx11.keepB d11q_57 k_4
      have k0 := KeepB.keep k0 k_4 o_57
      have kh := KeepB.keep kh k_4 oh_57
      refine stA bx_57 (base_add _ _) rfl fun h_5 bx_57 k_5 m_5 => ?_
      have bx3 := bx3.keepB d3q_57 k_5
      have bx5 := bx5.keepB d5q_57 k_5
      have bx7 := bx7.keepB d7q_57 k_5
      have bx9 := bx9.keepB d9q_57 k_5
      have bx11 := bx11.keepB d11q_57 k_5
      have k0 := KeepB.keep k0 k_5 o_57
      have kh := KeepB.keep kh k_5 oh_57
      exact D5.hv k0 (r3_1.tame (m_1.trans (m_2.trans (m_3.trans (m_4.trans m_5))))) bx3 o3 (r5_1.tame (m_1.trans (m_2.trans (m_3.trans (m_4.trans m_5))))) bx5 o5 (r7_1.tame (m_1.trans (m_2.trans (m_3.trans (m_4.trans m_5))))) bx7 o7 (r9_1.tame (m_1.trans (m_2.trans (m_3.trans (m_4.trans m_5))))) bx9 o9 (r11_1.tame (m_1.trans (m_2.trans (m_3.trans (m_4.trans m_5))))) bx11 o11 (r_58_0.tame (m_4.trans m_5)) bx_57 o_57 i_58_1 d3q5 d3q7 d3q9 d3q11 d3q_57 d5q7 d5q9 d5q11 d5q_57 d7q9 d7q11 d7q_57 d9q11 d9q_57 d11q_57 g
  · refine boxV fun h_1 bx_59 k_1 => ?_
    have d3q_59 : B3 ≠ h.size := Nat.ne_of_lt bx3.lt
    have d5q_59 : B5 ≠ h.size := Nat.ne_of_lt bx5.lt
    have d7q_59 : B7 ≠ h.size := Nat.ne_of_lt bx7.lt
    have d9q_59 : B9 ≠ h.size := Nat.ne_of_lt bx9.lt
    have d11q_59 : B11 ≠ h.size := Nat.ne_of_lt bx11.lt
    have o_59 : h0.size ≤ h.size := k0.le
    have oh_59 : h.size ≤ h.size := kh.le
    have lt_59 := bx_59.lt
    have m_1 := k_1.tame
    have bx3 := bx3.keep k_1
    have bx5 := bx5.keep k_1
    have bx7 := bx7.keep k_1
    have bx9 := bx9.keep k_1
    have bx11 := bx11.keep k_1
    have k0 := k0.trans k_1
    have kh := kh.trans k_1
    refine ⟨k_1.preLe (Nat.le_refl _), ?_⟩
    refine hc_intro (num_Of.hs (show In .i64 (1 : Int) by decide)) fun v h_2 ⟨k_2, s⟩ => ?_
    obtain ⟨p_60, hp_60⟩ : ∃ p, p = zz (1 : Int) := ⟨_, rfl⟩
    rw [← hp_60] at s
    replace g := lift_let2 hp_60 g
    obtain ⟨a_60, c_60, rfl, r_60⟩ := s
    refine gAgg_intro rfl (uncons_intro (gBool_intro rfl (uncons_intro (gSlice_intro rfl (unnil_intro (?_))))))
    have r_60 := r_60.from k0.le
    have m_2 := k_2.tame
    have bx3 := bx3.keep k_2
    have bx5 := bx5.keep k_2
    have bx7 := bx7.keep k_2
    have bx9 := bx9.keep k_2
    have bx11 := bx11.keep k_2
    have bx_59 := bx_59.keep k_2
    have k0 := k0.trans k_2
    have kh := kh.trans k_2
    refine ⟨k_2.preLe (m_1).le, ?_⟩
    refine hc_intro (num_Add.hs (r5_1.tame (m_1.trans m_2)).rd64 rfl r_60.rd64 rfl) fun v h_3 ⟨k_3, s⟩ => ?_
    obtain ⟨p_61, hp_61⟩ : ∃ p, p = twoZ addI (b5_0, xs5_1) (p_60.1, p_60.2) := ⟨_, rfl⟩
    rw [← hp_61] at s
    replace g := lift_let2 hp_61 g
    obtain ⟨_, _, rfl, ⟨a_61_0, c_61_0, rfl, r_61_0⟩, ⟨rfl, i_61_1⟩⟩ := s
    refine gTup_intro rfl (uncons_intro (gAgg_intro rfl (uncons_intro (gBool_intro rfl (uncons_intro (gSlice_intro rfl (unnil_intro (uncons_intro (gInt_intro rfl (unnil_intro (?_)))))))))))
    have r_61_0 := r_61_0.from k0.le
    have m_3 := k_3.tame
    have bx3 := bx3.keep k_3
    have bx5 := bx5.keep k_3
    have bx7 := bx7.keep k_3
    have bx9 := bx9.keep k_3
    have bx11 := bx11.keep k_3
    have bx_59 := bx_59.keep k_3
    have k0 := k0.trans k_3
    have kh := kh.trans k_3
    refine ⟨k_3.preLe (m_1.trans m_2).le, ?_⟩
    refine stA bx_59 (base_add _ _) rfl fun h_4 bx_59 k_4 m_4 => ?_
    have bx3 := bx3.keepB d3q_59 k_4
    have bx5 := bx5.keepB d5q_59 k_4
    have bx7 := bx7.keepB d7q_59 k_4
    have bx9 := bx9.keepB d9q_59 k_4
    have bx11 := bx11.keepB d11q_59 k_4
    have k0 := KeepB.keep k0 k_4 o_59
    have kh := KeepB.keep kh k_4 oh_59
    refine stA bx_59 (base_add _ _) rfl fun h_5 bx_59 k_5 m_5 => ?_
    have bx3 := bx3.keepB d3q_59 k_5
    have bx5 := bx5.keepB d5q_59 k_5
    have bx7 := bx7.keepB d7q_59 k_5
    have bx9 := bx9.keepB d9q_59 k_5
    have bx11 := bx11.keepB d11q_59 k_5
    have k0 := KeepB.keep k0 k_5 o_59
    have kh := KeepB.keep kh k_5 oh_59
    exact D5.hv k0 (r3_1.tame (m_1.trans (m_2.trans (m_3.trans (m_4.trans m_5))))) bx3 o3 (r5_1.tame (m_1.trans (m_2.trans (m_3.trans (m_4.trans m_5))))) bx5 o5 (r7_1.tame (m_1.trans (m_2.trans (m_3.trans (m_4.trans m_5))))) bx7 o7 (r9_1.tame (m_1.trans (m_2.trans (m_3.trans (m_4.trans m_5))))) bx9 o9 (r11_1.tame (m_1.trans (m_2.trans (m_3.trans (m_4.trans m_5))))) bx11 o11 (r_61_0.tame (m_4.trans m_5)) bx_59 o_59 i_61_1 d3q5 d3q7 d3q9 d3q11 d3q_59 d5q7 d5q9 d5q11 d5q_59 d7q9 d7q11 d7q_59 d9q11 d9q_59 d11q_59 g
def D3.v (b3_0 : Bool) (xs3_1 : List Nat) (b5_0 : Bool) (xs5_1 : List Nat) (b7_0 : Bool) (xs7_1 : List Nat) (b9_0 : Bool) (xs9_1 : List Nat) (b11_0 : Bool) (xs11_1 : List Nat) : Bool :=
  bif (decide ((((xs11_1.length : Nat) : Int)) > (0 : Int))) then
    bif (!(b11_0 == b3_0)) then
      false
    else
      D4.v b3_0 xs3_1 b5_0 xs5_1 b7_0 xs7_1 b9_0 xs9_1 b11_0 xs11_1
  else
    D4.v b3_0 xs3_1 b5_0 xs5_1 b7_0 xs7_1 b9_0 xs9_1 b11_0 xs11_1
theorem D3.hv {R : Rt} {h0 h : Hp} (k0 : Keep h0 h) {b3_0 : Bool} {a3_1 : Option Addr} {c3_1 : Nat} {xs3_1 : List Nat} (r3_1 : Rd h a3_1 c3_1 xs3_1) {B3 : Nat} (bx3 : BlkV h B3 [.bool b3_0, .slice a3_1 xs3_1.length c3_1]) (o3 : h0.size ≤ B3) {b5_0 : Bool} {a5_1 : Option Addr} {c5_1 : Nat} {xs5_1 : List Nat} (r5_1 : GotE eU64 h0 h a5_1 c5_1 xs5_1) {B5 : Nat} (bx5 : BlkV h B5 [.bool b5_0, .slice a5_1 xs5_1.length c5_1]) (o5 : h0.size ≤ B5) {b7_0 : Bool} {a7_1 : Option Addr} {c7_1 : Nat} {xs7_1 : List Nat} (r7_1 : GotE eU64 h0 h a7_1 c7_1 xs7_1) {B7 : Nat} (bx7 : BlkV h B7 [.bool b7_0, .slice a7_1 xs7_1.length c7_1]) (o7 : h0.size ≤ B7) {b9_0 : Bool} {a9_1 : Option Addr} {c9_1 : Nat} {xs9_1 : List Nat} (r9_1 : GotE eU64 h0 h a9_1 c9_1 xs9_1) {B9 : Nat} (bx9 : BlkV h B9 [.bool b9_0, .slice a9_1 xs9_1.length c9_1]) (o9 : h0.size ≤ B9) {b11_0 : Bool} {a11_1 : Option Addr} {c11_1 : Nat} {xs11_1 : List Nat} (r11_1 : GotE eU64 h0 h a11_1 c11_1 xs11_1) {B11 : Nat} (bx11 : BlkV h B11 [.bool b11_0, .slice a11_1 xs11_1.length c11_1]) (o11 : h0.size ≤ B11) (d3q5 : B3 ≠ B5) (d3q7 : B3 ≠ B7) (d3q9 : B3 ≠ B9) (d3q11 : B3 ≠ B11) (d5q7 : B5 ≠ B7) (d5q9 : B5 ≠ B9) (d5q11 : B5 ≠ B11) (d7q9 : B7 ≠ B9) (d7q11 : B7 ≠ B11) (d9q11 : B9 ≠ B11) (g : Post sBool h0 R (D3.v b3_0 xs3_1 b5_0 xs5_1 b7_0 xs7_1 b9_0 xs9_1 b11_0 xs11_1)) : D3.t R (⟨B3, 0, none⟩ : Addr) (⟨B5, 0, none⟩ : Addr) (⟨B7, 0, none⟩ : Addr) (⟨B9, 0, none⟩ : Addr) (⟨B11, 0, none⟩ : Addr) h := by
  have kh := Keep.refl h
  have lt3 := bx3.lt
  have lt5 := bx5.lt
  have lt7 := bx7.lt
  have lt9 := bx9.lt
  have lt11 := bx11.lt
  unfold D3.v at g
  unfold D3.t
  refine ldA bx11 (base_add _ _) rfl ?_
  refine gSlice_intro rfl ?_
  refine lift_dec g (fun q_29 g => ?_) (fun q_29 g => ?_)
  · refine ldA bx11 (base_add _ _) rfl ?_
    refine gBool_intro rfl ?_
    refine ldA bx3 (base_add _ _) rfl ?_
    refine gBool_intro rfl ?_
    refine lift_not g (fun q_30 g => ?_) (fun q_30 g => ?_)
    · exact g _ _ k0 rfl
    · exact D4.hv k0 r3_1 bx3 o3 r5_1 bx5 o5 r7_1 bx7 o7 r9_1 bx9 o9 r11_1 bx11 o11 d3q5 d3q7 d3q9 d3q11 d5q7 d5q9 d5q11 d7q9 d7q11 d9q11 g
  · exact D4.hv k0 r3_1 bx3 o3 r5_1 bx5 o5 r7_1 bx7 o7 r9_1 bx9 o9 r11_1 bx11 o11 d3q5 d3q7 d3q9 d3q11 d5q7 d5q9 d5q11 d7q9 d7q11 d9q11 g
def D2.v (b2_0 : Bool) (xs2_1 : List Nat) (b3_0 : Bool) (xs3_1 : List Nat) (b5_0 : Bool) (xs5_1 : List Nat) (b7_0 : Bool) (xs7_1 : List Nat) (b9_0 : Bool) (xs9_1 : List Nat) (b11_0 : Bool) (xs11_1 : List Nat) : Bool :=
  letV (twoZ mulI (b5_0, xs5_1) (b3_0, xs3_1)) fun p_19 =>
  letV (twoZ addI (p_19.1.1, p_19.1.2) (b11_0, xs11_1)) fun p_21 =>
  bif (p_19.2 != (0 : Int)) then
    false
  else
    bif (p_21.2 != (0 : Int)) then
      false
    else
      bif (!(decide ((p_21.1.1, p_21.1.2) = (b2_0, xs2_1)))) then
        false
      else
        bif (decide (((cmpI (val xs11_1) (val xs3_1))) ≥ (0 : Int))) then
          false
        else
          D3.v b3_0 xs3_1 b5_0 xs5_1 b7_0 xs7_1 b9_0 xs9_1 b11_0 xs11_1
theorem D2.hv {R : Rt} {h0 h : Hp} (k0 : Keep h0 h) {b2_0 : Bool} {a2_1 : Option Addr} {c2_1 : Nat} {xs2_1 : List Nat} (r2_1 : Rd h a2_1 c2_1 xs2_1) {B2 : Nat} (bx2 : BlkV h B2 [.bool b2_0, .slice a2_1 xs2_1.length c2_1]) (o2 : h0.size ≤ B2) {b3_0 : Bool} {a3_1 : Option Addr} {c3_1 : Nat} {xs3_1 : List Nat} (r3_1 : Rd h a3_1 c3_1 xs3_1) {B3 : Nat} (bx3 : BlkV h B3 [.bool b3_0, .slice a3_1 xs3_1.length c3_1]) (o3 : h0.size ≤ B3) {b5_0 : Bool} {a5_1 : Option Addr} {c5_1 : Nat} {xs5_1 : List Nat} (r5_1 : GotE eU64 h0 h a5_1 c5_1 xs5_1) {B5 : Nat} (bx5 : BlkV h B5 [.bool b5_0, .slice a5_1 xs5_1.length c5_1]) (o5 : h0.size ≤ B5) {b7_0 : Bool} {a7_1 : Option Addr} {c7_1 : Nat} {xs7_1 : List Nat} (r7_1 : GotE eU64 h0 h a7_1 c7_1 xs7_1) {B7 : Nat} (bx7 : BlkV h B7 [.bool b7_0, .slice a7_1 xs7_1.length c7_1]) (o7 : h0.size ≤ B7) {b9_0 : Bool} {a9_1 : Option Addr} {c9_1 : Nat} {xs9_1 : List Nat} (r9_1 : GotE eU64 h0 h a9_1 c9_1 xs9_1) {B9 : Nat} (bx9 : BlkV h B9 [.bool b9_0, .slice a9_1 xs9_1.length c9_1]) (o9 : h0.size ≤ B9) {b11_0 : Bool} {a11_1 : Option Addr} {c11_1 : Nat} {xs11_1 : List Nat} (r11_1 : GotE eU64 h0 h a11_1 c11_1 xs11_1) {B11 : Nat} (bx11 : BlkV h B11 [.bool b11_0, .slice a11_1 xs11_1.length c11_1]) (o11 : h0.size ≤ B11) (d2q3 : B2 ≠ B3) (d2q5 : B2 ≠ B5) (d2q7 : B2 ≠ B7) (d2q9 : B2 ≠ B9) (d2q11 : B2 ≠ B11) (d3q5 : B3 ≠ B5) (d3q7 : B3 ≠ B7) (d3q9 : B3 ≠ B9) (d3q11 : B3 ≠ B11) (d5q7 : B5 ≠ B7) (d5q9 : B5 ≠ B9) (d5q11 : B5 ≠ B11) (d7q9 : B7 ≠ B9) (d7q11 : B7 ≠ B11) (d9q11 : B9 ≠ B11) (g : Post sBool h0 R (D2.v b2_0 xs2_1 b3_0 xs3_1 b5_0 xs5_1 b7_0 xs7_1 b9_0 xs9_1 b11_0 xs11_1)) : D2.t R (⟨B2, 0, none⟩ : Addr) (⟨B3, 0, none⟩ : Addr) (⟨B5, 0, none⟩ : Addr) (⟨B7, 0, none⟩ : Addr) (⟨B9, 0, none⟩ : Addr) (⟨B11, 0, none⟩ : Addr) h := by
  have kh := Keep.refl h
  have lt2 := bx2.lt
  have lt3 := bx3.lt
  have lt5 := bx5.lt
  have lt7 := bx7.lt
  have lt9 := bx9.lt
  have lt11 := bx11.lt
  unfold D2.v at g
  unfold D2.t
  refine ldA bx5 (base_add _ _) rfl ?_
  refine gBool_intro rfl ?_
  refine ldA bx5 (base_add _ _) rfl ?_
  refine gSlice_intro rfl ?_
  refine ldA bx3 (base_add _ _) rfl ?_
  refine gBool_intro rfl ?_
  refine ldA bx3 (base_add _ _) rfl ?_
  refine gSlice_intro rfl ?_
  refine hc_intro (num_Mul.hs r5_1.rd64 rfl r3_1 rfl) fun v h_1 ⟨k_1, s⟩ => ?_
  obtain ⟨p_19, hp_19⟩ : ∃ p, p = twoZ mulI (b5_0, xs5_1) (b3_0, xs3_1) := ⟨_, rfl⟩
  rw [← hp_19] at s
  replace g := lift_let2 hp_19 g
  obtain ⟨_, _, rfl, ⟨a_19_0, c_19_0, rfl, r_19_0⟩, ⟨rfl, i_19_1⟩⟩ := s
  refine gTup_intro rfl (uncons_intro (gAgg_intro rfl (uncons_intro (gBool_intro rfl (uncons_intro (gSlice_intro rfl (unnil_intro (uncons_intro (gInt_intro rfl (unnil_intro (?_)))))))))))
  have r_19_0 := r_19_0.from k0.le
  have m_1 := k_1.tame
  have bx2 := bx2.keep k_1
  have bx3 := bx3.keep k_1
  have bx5 := bx5.keep k_1
  have bx7 := bx7.keep k_1
  have bx9 := bx9.keep k_1
  have bx11 := bx11.keep k_1
  have k0 := k0.trans k_1
  have kh := kh.trans k_1
  refine boxV fun h_2 bx_20 k_2 => ?_
  have d2q_20 : B2 ≠ h_1.size := Nat.ne_of_lt bx2.lt
  have d3q_20 : B3 ≠ h_1.size := Nat.ne_of_lt bx3.lt
  have d5q_20 : B5 ≠ h_1.size := Nat.ne_of_lt bx5.lt
  have d7q_20 : B7 ≠ h_1.size := Nat.ne_of_lt bx7.lt
  have d9q_20 : B9 ≠ h_1.size := Nat.ne_of_lt bx9.lt
  have d11q_20 : B11 ≠ h_1.size := Nat.ne_of_lt bx11.lt
  have o_20 : h0.size ≤ h_1.size := k0.le
  have oh_20 : h.size ≤ h_1.size := kh.le
  have lt_20 := bx_20.lt
  have m_2 := k_2.tame
  have bx2 := bx2.keep k_2
  have bx3 := bx3.keep k_2
  have bx5 := bx5.keep k_2
  have bx7 := bx7.keep k_2
  have bx9 := bx9.keep k_2
  have bx11 := bx11.keep k_2
  have k0 := k0.trans k_2
  have kh := kh.trans k_2
  refine stA bx_20 (base_add _ _) rfl fun h_3 bx_20 k_3 m_3 => ?_
  have bx2 := bx2.keepB d2q_20 k_3
  have bx3 := bx3.keepB d3q_20 k_3
  have bx5 := bx5.keepB d5q_20 k_3
  have bx7 := bx7.keepB d7q_20 k_3
  have bx9 := bx9.keepB d9q_20 k_3
  have bx11 := bx11.keepB d11q_20 k_3
  have k0 := KeepB.keep k0 k_3 o_20
  have kh := KeepB.keep kh k_3 oh_20
  refine stA bx_20 (base_add _ _) rfl fun h_4 bx_20 k_4 m_4 => ?_
  have bx2 := bx2.keepB d2q_20 k_4
  have bx3 := bx3.keepB d3q_20 k_4
  have bx5 := bx5.keepB d5q_20 k_4
  have bx7 := bx7.keepB d7q_20 k_4
  have bx9 := bx9.keepB d9q_20 k_4
  have bx11 := bx11.keepB d11q_20 k_4
  have k0 := KeepB.keep k0 k_4 o_20
  have kh := KeepB.keep kh k_4 oh_20
  refine ldA bx_20 (base_add _ _) rfl ?_
  refine gBool_intro rfl ?_
  refine ldA bx_20 (base_add _ _) rfl ?_
  refine gSlice_intro rfl ?_
  refine ldA bx11 (base_add _ _) rfl ?_
  refine gBool_intro rfl ?_
  refine ldA bx11 (base_add _ _) rfl ?_
  refine gSlice_intro rfl ?_
  refine hc_intro (num_Add.hs (r_19_0.tame (m_2.trans (m_3.trans m_4))).rd64 rfl (r11_1.tame (m_1.trans (m_2.trans (m_3.trans m_4)))).rd64 rfl) fun v h_5 ⟨k_5, s⟩ => ?_
  obtain ⟨p_21, hp_21⟩ : ∃ p, p = twoZ addI (p_19.1.1, p_19.1.2) (b11_0, xs11_1) := ⟨_, rfl⟩
  rw [← hp_21] at s
  replace g := lift_let2 hp_21 g
  obtain ⟨_, _, rfl, ⟨a_21_0, c_21_0, rfl, r_21_0⟩, ⟨rfl, i_21_1⟩⟩ := s
  refine gTup_intro rfl (uncons_intro (gAgg_intro rfl (uncons_intro (gBool_intro rfl (uncons_intro (gSlice_intro rfl (unnil_intro (uncons_intro (gInt_intro rfl (unnil_intro (?_)))))))))))
  have r_21_0 := r_21_0.from k0.le
  have m_5 := k_5.tame
  have bx2 := bx2.keep k_5
  have bx3 := bx3.keep k_5
  have bx5 := bx5.keep k_5
  have bx7 := bx7.keep k_5
  have bx9 := bx9.keep k_5
  have bx11 := bx11.keep k_5
  have bx_20 := bx_20.keep k_5
  have k0 := k0.trans k_5
  have kh := kh.trans k_5
  refine boxV fun h_6 bx_22 k_6 => ?_
  have d2q_22 : B2 ≠ h_5.size := Nat.ne_of_lt bx2.lt
  have d3q_22 : B3 ≠ h_5.size := Nat.ne_of_lt bx3.lt
  have d5q_22 : B5 ≠ h_5.size := Nat.ne_of_lt bx5.lt
  have d7q_22 : B7 ≠ h_5.size := Nat.ne_of_lt bx7.lt
  have d9q_22 : B9 ≠ h_5.size := Nat.ne_of_lt bx9.lt
  have d11q_22 : B11 ≠ h_5.size := Nat.ne_of_lt bx11.lt
  have d_20q_22 : h_1.size ≠ h_5.size := Nat.ne_of_lt bx_20.lt
  have o_22 : h0.size ≤ h_5.size := k0.le
  have oh_22 : h.size ≤ h_5.size := kh.le
  have lt_22 := bx_22.lt
  have m_6 := k_6.tame
  have bx2 := bx2.keep k_6
  have bx3 := bx3.keep k_6
  have bx5 := bx5.keep k_6
  have bx7 := bx7.keep k_6
  have bx9 := bx9.keep k_6
  have bx11 := bx11.keep k_6
  have bx_20 := bx_20.keep k_6
  have k0 := k0.trans k_6
  have kh := kh.trans k_6
  refine stA bx_22 (base_add _ _) rfl fun h_7 bx_22 k_7 m_7 => ?_
  have bx2 := bx2.keepB d2q_22 k_7
  have bx3 := bx3.keepB d3q_22 k_7
  have bx5 := bx5.keepB d5q_22 k_7
  have bx7 := bx7.keepB d7q_22 k_7
  have bx9 := bx9.keepB d9q_22 k_7
  have bx11 := bx11.keepB d11q_22 k_7
  have bx_20 := bx_20.keepB d_20q_22 k_7
  have k0 := KeepB.keep k0 k_7 o_22
  have kh := KeepB.keep kh k_7 oh_22
  refine stA bx_22 (base_add _ _) rfl fun h_8 bx_22 k_8 m_8 => ?_
  have bx2 := bx2.keepB d2q_22 k_8
  have bx3 := bx3.keepB d3q_22 k_8
  have bx5 := bx5.keepB d5q_22 k_8
  have bx7 := bx7.keepB d7q_22 k_8
  have bx9 := bx9.keepB d9q_22 k_8
  have bx11 := bx11.keepB d11q_22 k_8
  have bx_20 := bx_20.keepB d_20q_22 k_8
  have k0 := KeepB.keep k0 k_8 o_22
  have kh := KeepB.keep kh k_8 oh_22
  refine lift_ne g (fun q_23 g => ?_) (fun q_23 g => ?_)
  · exact g _ _ k0 rfl
  · refine lift_ne g (fun q_24 g => ?_) (fun q_24 g => ?_)
    · exact g _ _ k0 rfl
    · refine ldA bx_22 (base_add _ _) rfl ?_
      refine gBool_intro rfl ?_
      refine ldA bx_22 (base_add _ _) rfl ?_
      refine gSlice_intro rfl ?_
      refine ldA bx2 (base_add _ _) rfl ?_
      refine gBool_intro rfl ?_
      refine ldA bx2 (base_add _ _) rfl ?_
      refine gSlice_intro rfl ?_
      refine hc_intro (gnomontop_sameInt.hs (r_21_0.tame (m_6.trans (m_7.trans m_8))).rd64 rfl (r2_1.tame (m_1.trans (m_2.trans (m_3.trans (m_4.trans (m_5.trans (m_6.trans (m_7.trans m_8)))))))) rfl) fun v h_9 ⟨k_9, s⟩ => ?_
      obtain rfl := s
      refine gBool_intro rfl (?_)
      have m_9 := k_9.tame
      have bx2 := bx2.keep k_9
      have bx3 := bx3.keep k_9
      have bx5 := bx5.keep k_9
      have bx7 := bx7.keep k_9
      have bx9 := bx9.keep k_9
      have bx11 := bx11.keep k_9
      have bx_20 := bx_20.keep k_9
      have bx_22 := bx_22.keep k_9
      have k0 := k0.trans k_9
      have kh := kh.trans k_9
      refine lift_not g (fun q_26 g => ?_) (fun q_26 g => ?_)
      · exact g _ _ k0 rfl
      · refine ldA bx11 (base_add _ _) rfl ?_
        refine gSlice_intro rfl ?_
        refine ldA bx3 (base_add _ _) rfl ?_
        refine gSlice_intro rfl ?_
        refine hc_intro (nat_Cmp.hv (r11_1.tame (m_1.trans (m_2.trans (m_3.trans (m_4.trans (m_5.trans (m_6.trans (m_7.trans (m_8.trans m_9))))))))).rd64 rfl (r3_1.tame (m_1.trans (m_2.trans (m_3.trans (m_4.trans (m_5.trans (m_6.trans (m_7.trans (m_8.trans m_9))))))))) rfl) fun v h_10 ⟨k_10, s⟩ => ?_
        obtain ⟨rfl, i_27⟩ := s
        refine gInt_intro rfl (?_)
        have m_10 := k_10.tame
        have bx2 := bx2.keep k_10
        have bx3 := bx3.keep k_10
        have bx5 := bx5.keep k_10
        have bx7 := bx7.keep k_10
        have bx9 := bx9.keep k_10
        have bx11 := bx11.keep k_10
        have bx_20 := bx_20.keep k_10
        have bx_22 := bx_22.keep k_10
        have k0 := k0.trans k_10
        have kh := kh.trans k_10
        refine lift_dec g (fun q_28 g => ?_) (fun q_28 g => ?_)
        · exact g _ _ k0 rfl
        · exact D3.hv k0 (r3_1.tame (m_1.trans (m_2.trans (m_3.trans (m_4.trans (m_5.trans (m_6.trans (m_7.trans (m_8.trans (m_9.trans m_10)))))))))) bx3 o3 (r5_1.tame (m_1.trans (m_2.trans (m_3.trans (m_4.trans (m_5.trans (m_6.trans (m_7.trans (m_8.trans (m_9.trans m_10)))))))))) bx5 o5 (r7_1.tame (m_1.trans (m_2.trans (m_3.trans (m_4.trans (m_5.trans (m_6.trans (m_7.trans (m_8.trans (m_9.trans m_10)))))))))) bx7 o7 (r9_1.tame (m_1.trans (m_2.trans (m_3.trans (m_4.trans (m_5.trans (m_6.trans (m_7.trans (m_8.trans (m_9.trans m_10)))))))))) bx9 o9 (r11_1.tame (m_1.trans (m_2.trans (m_3.trans (m_4.trans (m_5.trans (m_6.trans (m_7.trans (m_8.trans (m_9.trans m_10)))))))))) bx11 o11 d3q5 d3q7 d3q9 d3q11 d5q7 d5q9 d5q11 d7q9 d7q11 d9q11 g
def D1.v (b0_0 : Bool) (xs0_1 : List Nat) (b1_0 : Bool) (xs1_1 : List Nat) : Bool :=
  letV (quoZ flo (b0_0, xs0_1) (b1_0, xs1_1)) fun p_3 =>
  letV (quoZ cei (b0_0, xs0_1) (b1_0, xs1_1)) fun p_5 =>
  letV (quoZ nea (b0_0, xs0_1) (b1_0, xs1_1)) fun p_7 =>
  letV (quoZ mo (b0_0, xs0_1) (b1_0, xs1_1)) fun p_9 =>
  bif ((((xs1_1.length : Nat) : Int)) == (0 : Int)) then
    bif (p_3.2 == (4 : Int)) then
      bif (p_5.2 == (4 : Int)) then
        bif (p_7.2 == (4 : Int)) then
          (p_9.2 == (4 : Int))
        else
          false
      else
        false
    else
      false
  else
    bif (p_3.2 != (0 : Int)) then
      false
    else
      bif (p_5.2 != (0 : Int)) then
        false
      else
        bif (p_7.2 != (0 : Int)) then
          false
        else
          bif (p_9.2 != (0 : Int)) then
            false
          else
            D2.v b0_0 xs0_1 b1_0 xs1_1 p_3.1.1 p_3.1.2 p_5.1.1 p_5.1.2 p_7.1.1 p_7.1.2 p_9.1.1 p_9.1.2
theorem D1.hv {R : Rt} {h0 h : Hp} (k0 : Keep h0 h) {b0_0 : Bool} {a0_1 : Option Addr} {c0_1 l0_1 : Nat} {xs0_1 : List Nat} (r0_1 : Rd h a0_1 c0_1 xs0_1) (e0_1 : l0_1 = xs0_1.length) {b1_0 : Bool} {a1_1 : Option Addr} {c1_1 l1_1 : Nat} {xs1_1 : List Nat} (r1_1 : Rd h a1_1 c1_1 xs1_1) (e1_1 : l1_1 = xs1_1.length) (g : Post sBool h0 R (D1.v b0_0 xs0_1 b1_0 xs1_1)) : D1.t R b0_0 a0_1 l0_1 c0_1 b1_0 a1_1 l1_1 c1_1 h := by
  subst e0_1 e1_1
  have kh := Keep.refl h
  unfold D1.v at g
  unfold D1.t
  refine boxV fun h_1 bx_1 k_1 => ?_
  have o_1 : h0.size ≤ h.size := k0.le
  have oh_1 : h.size ≤ h.size := kh.le
  have lt_1 := bx_1.lt
  have m_1 := k_1.tame
  have k0 := k0.trans k_1
  have kh := kh.trans k_1
  refine boxV fun h_2 bx_2 k_2 => ?_
  have d_1q_2 : h.size ≠ h_1.size := Nat.ne_of_lt bx_1.lt
  have o_2 : h0.size ≤ h_1.size := k0.le
  have oh_2 : h.size ≤ h_1.size := kh.le
  have lt_2 := bx_2.lt
  have m_2 := k_2.tame
  have bx_1 := bx_1.keep k_2
  have k0 := k0.trans k_2
  have kh := kh.trans k_2
  refine ldA bx_1 (base_add _ _) rfl ?_
  refine gBool_intro rfl ?_
  refine ldA bx_1 (base_add _ _) rfl ?_
  refine gSlice_intro rfl ?_
  refine ldA bx_2 (base_add _ _) rfl ?_
  refine gBool_intro rfl ?_
  refine ldA bx_2 (base_add _ _) rfl ?_
  refine gSlice_intro rfl ?_
  refine hc_intro (num_FloorDiv.hs (r0_1.tame (m_1.trans m_2)) rfl (r1_1.tame (m_1.trans m_2)) rfl) fun v h_3 ⟨k_3, s⟩ => ?_
  obtain ⟨p_3, hp_3⟩ : ∃ p, p = quoZ flo (b0_0, xs0_1) (b1_0, xs1_1) := ⟨_, rfl⟩
  rw [← hp_3] at s
  replace g := lift_let2 hp_3 g
  obtain ⟨_, _, rfl, ⟨a_3_0, c_3_0, rfl, r_3_0⟩, ⟨rfl, i_3_1⟩⟩ := s
  refine gTup_intro rfl (uncons_intro (gAgg_intro rfl (uncons_intro (gBool_intro rfl (uncons_intro (gSlice_intro rfl (unnil_intro (uncons_intro (gInt_intro rfl (unnil_intro (?_)))))))))))
  have r_3_0 := r_3_0.from k0.le
  have m_3 := k_3.tame
  have bx_1 := bx_1.keep k_3
  have bx_2 := bx_2.keep k_3
  have k0 := k0.trans k_3
  have kh := kh.trans k_3
  refine boxV fun h_4 bx_4 k_4 => ?_
  have d_1q_4 : h.size ≠ h_3.size := Nat.ne_of_lt bx_1.lt
  have d_2q_4 : h_1.size ≠ h_3.size := Nat.ne_of_lt bx_2.lt
  have o_4 : h0.size ≤ h_3.size := k0.le
  have oh_4 : h.size ≤ h_3.size := kh.le
  have lt_4 := bx_4.lt
  have m_4 := k_4.tame
  have bx_1 := bx_1.keep k_4
  have bx_2 := bx_2.keep k_4
  have k0 := k0.trans k_4
  have kh := kh.trans k_4
  refine stA bx_4 (base_add _ _) rfl fun h_5 bx_4 k_5 m_5 => ?_
  have bx_1 := bx_1.keepB d_1q_4 k_5
  have bx_2 := bx_2.keepB d_2q_4 k_5
  have k0 := KeepB.keep k0 k_5 o_4
  have kh := KeepB.keep kh k_5 oh_4
  refine stA bx_4 (base_add _ _) rfl fun h_6 bx_4 k_6 m_6 => ?_
  have bx_1 := bx_1.keepB d_1q_4 k_6
  have bx_2 := bx_2.keepB d_2q_4 k_6
  have k0 := KeepB.keep k0 k_6 o_4
  have kh := KeepB.keep kh k_6 oh_4
  refine ldA bx_1 (base_add _ _) rfl ?_
  refine gBool_intro rfl ?_
  refine ldA bx_1 (base_add _ _) rfl ?_
  refine gSlice_intro rfl ?_
  refine ldA bx_2 (base_add _ _) rfl ?_
  refine gBool_intro rfl ?_
  refine ldA bx_2 (base_add _ _) rfl ?_
  refine gSlice_intro rfl ?_
  refine hc_intro (num_CeilDiv.hs (r0_1.tame (m_1.trans (m_2.trans (m_3.trans (m_4.trans (m_5.trans m_6)))))) rfl (r1_1.tame (m_1.trans (m_2.trans (m_3.trans (m_4.trans (m_5.trans m_6)))))) rfl) fun v h_7 ⟨k_7, s⟩ => ?_
  obtain ⟨p_5, hp_5⟩ : ∃ p, p = quoZ cei (b0_0, xs0_1) (b1_0, xs1_1) := ⟨_, rfl⟩
  rw [← hp_5] at s
  replace g := lift_let2 hp_5 g
  obtain ⟨_, _, rfl, ⟨a_5_0, c_5_0, rfl, r_5_0⟩, ⟨rfl, i_5_1⟩⟩ := s
  refine gTup_intro rfl (uncons_intro (gAgg_intro rfl (uncons_intro (gBool_intro rfl (uncons_intro (gSlice_intro rfl (unnil_intro (uncons_intro (gInt_intro rfl (unnil_intro (?_)))))))))))
  have r_5_0 := r_5_0.from k0.le
  have m_7 := k_7.tame
  have bx_1 := bx_1.keep k_7
  have bx_2 := bx_2.keep k_7
  have bx_4 := bx_4.keep k_7
  have k0 := k0.trans k_7
  have kh := kh.trans k_7
  refine boxV fun h_8 bx_6 k_8 => ?_
  have d_1q_6 : h.size ≠ h_7.size := Nat.ne_of_lt bx_1.lt
  have d_2q_6 : h_1.size ≠ h_7.size := Nat.ne_of_lt bx_2.lt
  have d_4q_6 : h_3.size ≠ h_7.size := Nat.ne_of_lt bx_4.lt
  have o_6 : h0.size ≤ h_7.size := k0.le
  have oh_6 : h.size ≤ h_7.size := kh.le
  have lt_6 := bx_6.lt
  have m_8 := k_8.tame
  have bx_1 := bx_1.keep k_8
  have bx_2 := bx_2.keep k_8
  have bx_4 := bx_4.keep k_8
  have k0 := k0.trans k_8
  have kh := kh.trans k_8
  refine stA bx_6 (base_add _ _) rfl fun h_9 bx_6 k_9 m_9 => ?_
  have bx_1 := bx_1.keepB d_1q_6 k_9
  have bx_2 := bx_2.keepB d_2q_6 k_9
  have bx_4 := bx_4.keepB d_4q_6 k_9
  have k0 := KeepB.keep k0 k_9 o_6
  have kh := KeepB.keep kh k_9 oh_6
  refine stA bx_6 (base_add _ _) rfl fun h_10 bx_6 k_10 m_10 => ?_
  have bx_1 := bx_1.keepB d_1q_6 k_10
  have bx_2 := bx_2.keepB d_2q_6 k_10
  have bx_4 := bx_4.keepB d_4q_6 k_10
  have k0 := KeepB.keep k0 k_10 o_6
  have kh := KeepB.keep kh k_10 oh_6
  refine ldA bx_1 (base_add _ _) rfl ?_
  refine gBool_intro rfl ?_
  refine ldA bx_1 (base_add _ _) rfl ?_
  refine gSlice_intro rfl ?_
  refine ldA bx_2 (base_add _ _) rfl ?_
  refine gBool_intro rfl ?_
  refine ldA bx_2 (base_add _ _) rfl ?_
  refine gSlice_intro rfl ?_
  refine hc_intro (num_NearDiv.hs (r0_1.tame (m_1.trans (m_2.trans (m_3.trans (m_4.trans (m_5.trans (m_6.trans (m_7.trans (m_8.trans (m_9.trans m_10)))))))))) rfl (r1_1.tame (m_1.trans (m_2.trans (m_3.trans (m_4.trans (m_5.trans (m_6.trans (m_7.trans (m_8.trans (m_9.trans m_10)))))))))) rfl) fun v h_11 ⟨k_11, s⟩ => ?_
  obtain ⟨p_7, hp_7⟩ : ∃ p, p = quoZ nea (b0_0, xs0_1) (b1_0, xs1_1) := ⟨_, rfl⟩
  rw [← hp_7] at s
  replace g := lift_let2 hp_7 g
  obtain ⟨_, _, rfl, ⟨a_7_0, c_7_0, rfl, r_7_0⟩, ⟨rfl, i_7_1⟩⟩ := s
  refine gTup_intro rfl (uncons_intro (gAgg_intro rfl (uncons_intro (gBool_intro rfl (uncons_intro (gSlice_intro rfl (unnil_intro (uncons_intro (gInt_intro rfl (unnil_intro (?_)))))))))))
  have r_7_0 := r_7_0.from k0.le
  have m_11 := k_11.tame
  have bx_1 := bx_1.keep k_11
  have bx_2 := bx_2.keep k_11
  have bx_4 := bx_4.keep k_11
  have bx_6 := bx_6.keep k_11
  have k0 := k0.trans k_11
  have kh := kh.trans k_11
  refine boxV fun h_12 bx_8 k_12 => ?_
  have d_1q_8 : h.size ≠ h_11.size := Nat.ne_of_lt bx_1.lt
  have d_2q_8 : h_1.size ≠ h_11.size := Nat.ne_of_lt bx_2.lt
  have d_4q_8 : h_3.size ≠ h_11.size := Nat.ne_of_lt bx_4.lt
  have d_6q_8 : h_7.size ≠ h_11.size := Nat.ne_of_lt bx_6.lt
  have o_8 : h0.size ≤ h_11.size := k0.le
  have oh_8 : h.size ≤ h_11.size := kh.le
  have lt_8 := bx_8.lt
  have m_12 := k_12.tame
  have bx_1 := bx_1.keep k_12
  have bx_2 := bx_2.keep k_12
  have bx_4 := bx_4.keep k_12
  have bx_6 := bx_6.keep k_12
  have k0 := k0.trans k_12
  have kh := kh.trans k_12
  refine stA bx_8 (base_add _ _) rfl fun h_13 bx_8 k_13 m_13 => ?_
  have bx_1 := bx_1.keepB d_1q_8 k_13
  have bx_2 := bx_2.keepB d_2q_8 k_13
  have bx_4 := bx_4.keepB d_4q_8 k_13
  have bx_6 := bx_6.keepB d_6q_8 k_13
  have k0 := KeepB.keep k0 k_13 o_8
  have kh := KeepB.keep kh k_13 oh_8
  refine stA bx_8 (base_add _ _) rfl fun h_14 bx_8 k_14 m_14 => ?_
  have bx_1 := bx_1.keepB d_1q_8 k_14
  have bx_2 := bx_2.keepB d_2q_8 k_14
  have bx_4 := bx_4.keepB d_4q_8 k_14
  have bx_6 := bx_6.keepB d_6q_8 k_14
  have k0 := KeepB.keep k0 k_14 o_8
  have kh := KeepB.keep kh k_14 oh_8
  refine ldA bx_1 (base_add _ _) rfl ?_
  refine gBool_intro rfl ?_
  refine ldA bx_1 (base_add _ _) rfl ?_
  refine gSlice_intro rfl ?_
  refine ldA bx_2 (base_add _ _) rfl ?_
  refine gBool_intro rfl ?_
  refine ldA bx_2 (base_add _ _) rfl ?_
  refine gSlice_intro rfl ?_
  refine hc_intro (num_Mod.hs (r0_1.tame (m_1.trans (m_2.trans (m_3.trans (m_4.trans (m_5.trans (m_6.trans (m_7.trans (m_8.trans (m_9.trans (m_10.trans (m_11.trans (m_12.trans (m_13.trans m_14)))))))))))))) rfl (r1_1.tame (m_1.trans (m_2.trans (m_3.trans (m_4.trans (m_5.trans (m_6.trans (m_7.trans (m_8.trans (m_9.trans (m_10.trans (m_11.trans (m_12.trans (m_13.trans m_14)))))))))))))) rfl) fun v h_15 ⟨k_15, s⟩ => ?_
  obtain ⟨p_9, hp_9⟩ : ∃ p, p = quoZ mo (b0_0, xs0_1) (b1_0, xs1_1) := ⟨_, rfl⟩
  rw [← hp_9] at s
  replace g := lift_let2 hp_9 g
  obtain ⟨_, _, rfl, ⟨a_9_0, c_9_0, rfl, r_9_0⟩, ⟨rfl, i_9_1⟩⟩ := s
  refine gTup_intro rfl (uncons_intro (gAgg_intro rfl (uncons_intro (gBool_intro rfl (uncons_intro (gSlice_intro rfl (unnil_intro (uncons_intro (gInt_intro rfl (unnil_intro (?_)))))))))))
  have r_9_0 := r_9_0.from k0.le
  have m_15 := k_15.tame
  have bx_1 := bx_1.keep k_15
  have bx_2 := bx_2.keep k_15
  have bx_4 := bx_4.keep k_15
  have bx_6 := bx_6.keep k_15
  have bx_8 := bx_8.keep k_15
  have k0 := k0.trans k_15
  have kh := kh.trans k_15
  refine boxV fun h_16 bx_10 k_16 => ?_
  have d_1q_10 : h.size ≠ h_15.size := Nat.ne_of_lt bx_1.lt
  have d_2q_10 : h_1.size ≠ h_15.size := Nat.ne_of_lt bx_2.lt
  have d_4q_10 : h_3.size ≠ h_15.size := Nat.ne_of_lt bx_4.lt
  have d_6q_10 : h_7.size ≠ h_15.size := Nat.ne_of_lt bx_6.lt
  have d_8q_10 : h_11.size ≠ h_15.size := Nat.ne_of_lt bx_8.lt
  have o_10 : h0.size ≤ h_15.size := k0.le
  have oh_10 : h.size ≤ h_15.size := kh.le
  have lt_10 := bx_10.lt
  have m_16 := k_16.tame
  have bx_1 := bx_1.keep k_16
  have bx_2 := bx_2.keep k_16
  have bx_4 := bx_4.keep k_16
  have bx_6 := bx_6.keep k_16
  have bx_8 := bx_8.keep k_16
  have k0 := k0.trans k_16
  have kh := kh.trans k_16
  refine stA bx_10 (base_add _ _) rfl fun h_17 bx_10 k_17 m_17 => ?_
  have bx_1 := bx_1.keepB d_1q_10 k_17
  have bx_2 := bx_2.keepB d_2q_10 k_17
  have bx_4 := bx_4.keepB d_4q_10 k_17
  have bx_6 := bx_6.keepB d_6q_10 k_17
  have bx_8 := bx_8.keepB d_8q_10 k_17
  have k0 := KeepB.keep k0 k_17 o_10
  have kh := KeepB.keep kh k_17 oh_10
  refine stA bx_10 (base_add _ _) rfl fun h_18 bx_10 k_18 m_18 => ?_
  have bx_1 := bx_1.keepB d_1q_10 k_18
  have bx_2 := bx_2.keepB d_2q_10 k_18
  have bx_4 := bx_4.keepB d_4q_10 k_18
  have bx_6 := bx_6.keepB d_6q_10 k_18
  have bx_8 := bx_8.keepB d_8q_10 k_18
  have k0 := KeepB.keep k0 k_18 o_10
  have kh := KeepB.keep kh k_18 oh_10
  refine ldA bx_2 (base_add _ _) rfl ?_
  refine gSlice_intro rfl ?_
  refine lift_eq g (fun q_11 g => ?_) (fun q_11 g => ?_)
  · refine lift_eq g (fun q_12 g => ?_) (fun q_12 g => ?_)
    · refine lift_eq g (fun q_13 g => ?_) (fun q_13 g => ?_)
      · refine lift_eq g (fun q_14 g => ?_) (fun q_14 g => ?_)
        · exact g _ _ k0 rfl
        · exact g _ _ k0 rfl
      · exact g _ _ k0 rfl
    · exact g _ _ k0 rfl
  · refine lift_ne g (fun q_15 g => ?_) (fun q_15 g => ?_)
    · exact g _ _ k0 rfl
    · refine lift_ne g (fun q_16 g => ?_) (fun q_16 g => ?_)
      · exact g _ _ k0 rfl
      · refine lift_ne g (fun q_17 g => ?_) (fun q_17 g => ?_)
        · exact g _ _ k0 rfl
        · refine lift_ne g (fun q_18 g => ?_) (fun q_18 g => ?_)
          · exact g _ _ k0 rfl
          · exact D2.hv k0 (r0_1.tame (m_1.trans (m_2.trans (m_3.trans (m_4.trans (m_5.trans (m_6.trans (m_7.trans (m_8.trans (m_9.trans (m_10.trans (m_11.trans (m_12.trans (m_13.trans (m_14.trans (m_15.trans (m_16.trans (m_17.trans m_18)))))))))))))))))) bx_1 o_1 (r1_1.tame (m_1.trans (m_2.trans (m_3.trans (m_4.trans (m_5.trans (m_6.trans (m_7.trans (m_8.trans (m_9.trans (m_10.trans (m_11.trans (m_12.trans (m_13.trans (m_14.trans (m_15.trans (m_16.trans (m_17.trans m_18)))))))))))))))))) bx_2 o_2 (r_3_0.tame (m_4.trans (m_5.trans (m_6.trans (m_7.trans (m_8.trans (m_9.trans (m_10.trans (m_11.trans (m_12.trans (m_13.trans (m_14.trans (m_15.trans (m_16.trans (m_17.trans m_18))))))))))))))) bx_4 o_4 (r_5_0.tame (m_8.trans (m_9.trans (m_10.trans (m_11.trans (m_12.trans (m_13.trans (m_14.trans (m_15.trans (m_16.trans (m_17.trans m_18))))))))))) bx_6 o_6 (r_7_0.tame (m_12.trans (m_13.trans (m_14.trans (m_15.trans (m_16.trans (m_17.trans m_18))))))) bx_8 o_8 (r_9_0.tame (m_16.trans (m_17.trans m_18))) bx_10 o_10 d_1q_2 d_1q_4 d_1q_6 d_1q_8 d_1q_10 d_2q_4 d_2q_6 d_2q_8 d_2q_10 d_4q_6 d_4q_8 d_4q_10 d_6q_8 d_6q_10 d_8q_10 g
def v (b0_0 : Bool) (xs0_1 : List Nat) (b1_0 : Bool) (xs1_1 : List Nat) : Bool := D1.v b0_0 xs0_1 b1_0 xs1_1
theorem hv {h : Hp} {b0_0 : Bool} {a0_1 : Option Addr} {c0_1 l0_1 : Nat} {xs0_1 : List Nat} (r0_1 : Rd h a0_1 c0_1 xs0_1) (e0_1 : l0_1 = xs0_1.length) {b1_0 : Bool} {a1_1 : Option Addr} {c1_1 l1_1 : Nat} {xs1_1 : List Nat} (r1_1 : Rd h a1_1 c1_1 xs1_1) (e1_1 : l1_1 = xs1_1.length) : HC id #[.agg #[.bool b0_0, .slice a0_1 l0_1 c0_1], .agg #[.bool b1_0, .slice a1_1 l1_1 c1_1]] h fun v_ h_ => Keep h h_ ∧ sBool h h_ v_ (v b0_0 xs0_1 b1_0 xs1_1) :=
  ok (D1.hv (Keep.refl _) r0_1 e0_1 r1_1 e1_1 fun v h' k s => ⟨k, s⟩)
end gnomontop_quotients

namespace gnomontop_shifts
def D2.v (b7_0 : Bool) (xs7_1 : List Nat) (b9_0 : Bool) (xs9_1 : List Nat) (b11_0 : Bool) (xs11_1 : List Nat) (b13_0 : Bool) (xs13_1 : List Nat) (b15_0 : Bool) (xs15_1 : List Nat) (b17_0 : Bool) (xs17_1 : List Nat) : Bool :=
  bif (decide ((b7_0, xs7_1) = (b9_0, xs9_1))) then
    bif (decide ((b11_0, xs11_1) = (b13_0, xs13_1))) then
      (decide ((b15_0, xs15_1) = (b17_0, xs17_1)))
    else
      false
  else
    false
theorem D2.hv {R : Rt} {h0 h : Hp} (k0 : Keep h0 h) {b7_0 : Bool} {a7_1 : Option Addr} {c7_1 : Nat} {xs7_1 : List Nat} (r7_1 : GotE eU64 h0 h a7_1 c7_1 xs7_1) {B7 : Nat} (bx7 : BlkV h B7 [.bool b7_0, .slice a7_1 xs7_1.length c7_1]) (o7 : h0.size ≤ B7) {b9_0 : Bool} {a9_1 : Option Addr} {c9_1 : Nat} {xs9_1 : List Nat} (r9_1 : GotE eU64 h0 h a9_1 c9_1 xs9_1) {B9 : Nat} (bx9 : BlkV h B9 [.bool b9_0, .slice a9_1 xs9_1.length c9_1]) (o9 : h0.size ≤ B9) {b11_0 : Bool} {a11_1 : Option Addr} {c11_1 : Nat} {xs11_1 : List Nat} (r11_1 : GotE eU64 h0 h a11_1 c11_1 xs11_1) {B11 : Nat} (bx11 : BlkV h B11 [.bool b11_0, .slice a11_1 xs11_1.length c11_1]) (o11 : h0.size ≤ B11) {b13_0 : Bool} {a13_1 : Option Addr} {c13_1 : Nat} {xs13_1 : List Nat} (r13_1 : GotE eU64 h0 h a13_1 c13_1 xs13_1) {B13 : Nat} (bx13 : BlkV h B13 [.bool b13_0, .slice a13_1 xs13_1.length c13_1]) (o13 : h0.size ≤ B13) {b15_0 : Bool} {a15_1 : Option Addr} {c15_1 : Nat} {xs15_1 : List Nat} (r15_1 : GotE eU64 h0 h a15_1 c15_1 xs15_1) {B15 : Nat} (bx15 : BlkV h B15 [.bool b15_0, .slice a15_1 xs15_1.length c15_1]) (o15 : h0.size ≤ B15) {b17_0 : Bool} {a17_1 : Option Addr} {c17_1 : Nat} {xs17_1 : List Nat} (r17_1 : GotE eU64 h0 h a17_1 c17_1 xs17_1) {B17 : Nat} (bx17 : BlkV h B17 [.bool b17_0, .slice a17_1 xs17_1.length c17_1]) (o17 : h0.size ≤ B17) (d7q9 : B7 ≠ B9) (d7q11 : B7 ≠ B11) (d7q13 : B7 ≠ B13) (d7q15 : B7 ≠ B15) (d7q17 : B7 ≠ B17) (d9q11 : B9 ≠ B11) (d9q13 : B9 ≠ B13) (d9q15 : B9 ≠ B15) (d9q17 : B9 ≠ B17) (d11q13 : B11 ≠ B13) (d11q15 : B11 ≠ B15) (d11q17 : B11 ≠ B17) (d13q15 : B13 ≠ B15) (d13q17 : B13 ≠ B17) (d15q17 : B15 ≠ B17) (tb : Tab h) (g : Post sBool h0 R (D2.v b7_0 xs7_1 b9_0 xs9_1 b11_0 xs11_1 b13_0 xs13_1 b15_0 xs15_1 b17_0 xs17_1)) : D2.t R (⟨B7, 0, none⟩ : Addr) (⟨B9, 0, none⟩ : Addr) (⟨B11, 0, none⟩ : Addr) (⟨B13, 0, none⟩ : Addr) (⟨B15, 0, none⟩ : Addr) (⟨B17, 0, none⟩ : Addr) h := by
  have kh := Keep.refl h
  have lt7 := bx7.lt
  have lt9 := bx9.lt
  have lt11 := bx11.lt
  have lt13 := bx13.lt
  have lt15 := bx15.lt
  have lt17 := bx17.lt
  unfold D2.v at g
  unfold D2.t
  refine ldA bx7 (base_add _ _) rfl ?_
  refine gBool_intro rfl ?_
  refine ldA bx7 (base_add _ _) rfl ?_
  refine gSlice_intro rfl ?_
  refine ldA bx9 (base_add _ _) rfl ?_
  refine gBool_intro rfl ?_
  refine ldA bx9 (base_add _ _) rfl ?_
  refine gSlice_intro rfl ?_
  refine hc_intro (gnomontop_sameInt.hs r7_1.rd64 rfl r9_1.rd64 rfl) fun v h_1 ⟨k_1, s⟩ => ?_
  obtain rfl := s
  refine gBool_intro rfl (?_)
  have m_1 := k_1.tame
  have bx7 := bx7.keep k_1
  have bx9 := bx9.keep k_1
  have bx11 := bx11.keep k_1
  have bx13 := bx13.keep k_1
  have bx15 := bx15.keep k_1
  have bx17 := bx17.keep k_1
  have k0 := k0.trans k_1
  have kh := kh.trans k_1
  refine lift_dec g (fun q_25 g => ?_) (fun q_25 g => ?_)
  · refine ldA bx11 (base_add _ _) rfl ?_
    refine gBool_intro rfl ?_
    refine ldA bx11 (base_add _ _) rfl ?_
    refine gSlice_intro rfl ?_
    refine ldA bx13 (base_add _ _) rfl ?_
    refine gBool_intro rfl ?_
    refine ldA bx13 (base_add _ _) rfl ?_
    refine gSlice_intro rfl ?_
    refine hc_intro (gnomontop_sameInt.hs (r11_1.tame (m_1)).rd64 rfl (r13_1.tame (m_1)).rd64 rfl) fun v h_2 ⟨k_2, s⟩ => ?_
    obtain rfl := s
    refine gBool_intro rfl (?_)
    have m_2 := k_2.tame
    have bx7 := bx7.keep k_2
    have bx9 := bx9.keep k_2
    have bx11 := bx11.keep k_2
    have bx13 := bx13.keep k_2
    have bx15 := bx15.keep k_2
    have bx17 := bx17.keep k_2
    have k0 := k0.trans k_2
    have kh := kh.trans k_2
    refine lift_dec g (fun q_27 g => ?_) (fun q_27 g => ?_)
    · refine ldA bx15 (base_add _ _) rfl ?_
      refine gBool_intro rfl ?_
      refine ldA bx15 (base_add _ _) rfl ?_
      refine gSlice_intro rfl ?_
      refine ldA bx17 (base_add _ _) rfl ?_
      refine gBool_intro rfl ?_
      refine ldA bx17 (base_add _ _) rfl ?_
      refine gSlice_intro rfl ?_
      refine hc_intro (gnomontop_sameInt.hs (r15_1.tame (m_1.trans m_2)).rd64 rfl (r17_1.tame (m_1.trans m_2)).rd64 rfl) fun v h_3 ⟨k_3, s⟩ => ?_
      obtain rfl := s
      refine gBool_intro rfl (?_)
      have m_3 := k_3.tame
      have bx7 := bx7.keep k_3
      have bx9 := bx9.keep k_3
      have bx11 := bx11.keep k_3
      have bx13 := bx13.keep k_3
      have bx15 := bx15.keep k_3
      have bx17 := bx17.keep k_3
      have k0 := k0.trans k_3
      have kh := kh.trans k_3
      exact g _ _ k0 rfl
    · exact g _ _ k0 rfl
  · exact g _ _ k0 rfl
def D1.v (b0_0 : Bool) (xs0_1 : List Nat) (x1 : Int) : Bool :=
  letV (zz (1 : Int)) fun p_2 =>
  letV (shlZ (p_2.1, p_2.2) x1) fun p_3 =>
  letV (shrZ flo (b0_0, xs0_1) x1) fun p_5 =>
  letV (quoZ flo (b0_0, xs0_1) (p_3.1.1, p_3.1.2)) fun p_7 =>
  letV (shrZ cei (b0_0, xs0_1) x1) fun p_9 =>
  letV (quoZ cei (b0_0, xs0_1) (p_3.1.1, p_3.1.2)) fun p_11 =>
  letV (shrZ nea (b0_0, xs0_1) x1) fun p_13 =>
  letV (quoZ nea (b0_0, xs0_1) (p_3.1.1, p_3.1.2)) fun p_15 =>
  bif (p_3.2 != (0 : Int)) then
    false
  else
    bif (p_5.2 != (0 : Int)) then
      false
    else
      bif (p_7.2 != (0 : Int)) then
        false
      else
        bif (p_9.2 != (0 : Int)) then
          false
        else
          bif (p_11.2 != (0 : Int)) then
            false
          else
            bif (p_13.2 != (0 : Int)) then
              false
            else
              bif (p_15.2 != (0 : Int)) then
                false
              else
                D2.v p_5.1.1 p_5.1.2 p_7.1.1 p_7.1.2 p_9.1.1 p_9.1.2 p_11.1.1 p_11.1.2 p_13.1.1 p_13.1.2 p_15.1.1 p_15.1.2
theorem D1.hv {R : Rt} {h0 h : Hp} (k0 : Keep h0 h) {b0_0 : Bool} {a0_1 : Option Addr} {c0_1 l0_1 : Nat} {xs0_1 : List Nat} (r0_1 : Rd h a0_1 c0_1 xs0_1) (e0_1 : l0_1 = xs0_1.length) {x1 : Int} (i1 : In .i64 x1) (tb : Tab h) (g : Post sBool h0 R (D1.v b0_0 xs0_1 x1)) : D1.t R b0_0 a0_1 l0_1 c0_1 x1 h := by
  subst e0_1
  have kh := Keep.refl h
  unfold D1.v at g
  unfold D1.t
  refine boxV fun h_1 bx_1 k_1 => ?_
  have o_1 : h0.size ≤ h.size := k0.le
  have oh_1 : h.size ≤ h.size := kh.le
  have lt_1 := bx_1.lt
  have m_1 := k_1.tame
  have k0 := k0.trans k_1
  have kh := kh.trans k_1
  refine hc_intro (num_Of.hs (show In .i64 (1 : Int) by decide)) fun v h_2 ⟨k_2, s⟩ => ?_
  obtain ⟨p_2, hp_2⟩ : ∃ p, p = zz (1 : Int) := ⟨_, rfl⟩
  rw [← hp_2] at s
  replace g := lift_let2 hp_2 g
  obtain ⟨a_2, c_2, rfl, r_2⟩ := s
  refine gAgg_intro rfl (uncons_intro (gBool_intro rfl (uncons_intro (gSlice_intro rfl (unnil_intro (?_))))))
  have r_2 := r_2.from k0.le
  have m_2 := k_2.tame
  have bx_1 := bx_1.keep k_2
  have k0 := k0.trans k_2
  have kh := kh.trans k_2
  refine hc_intro (num_Shl.hs r_2.rd64 rfl i1) fun v h_3 ⟨k_3, s⟩ => ?_
  obtain ⟨p_3, hp_3⟩ : ∃ p, p = shlZ (p_2.1, p_2.2) x1 := ⟨_, rfl⟩
  rw [← hp_3] at s
  replace g := lift_let2 hp_3 g
  obtain ⟨_, _, rfl, ⟨a_3_0, c_3_0, rfl, r_3_0⟩, ⟨rfl, i_3_1⟩⟩ := s
  refine gTup_intro rfl (uncons_intro (gAgg_intro rfl (uncons_intro (gBool_intro rfl (uncons_intro (gSlice_intro rfl (unnil_intro (uncons_intro (gInt_intro rfl (unnil_intro (?_)))))))))))
  have r_3_0 := r_3_0.from k0.le
  have m_3 := k_3.tame
  have bx_1 := bx_1.keep k_3
  have k0 := k0.trans k_3
  have kh := kh.trans k_3
  refine boxV fun h_4 bx_4 k_4 => ?_
  have d_1q_4 : h.size ≠ h_3.size := Nat.ne_of_lt bx_1.lt
  have o_4 : h0.size ≤ h_3.size := k0.le
  have oh_4 : h.size ≤ h_3.size := kh.le
  have lt_4 := bx_4.lt
  have m_4 := k_4.tame
  have bx_1 := bx_1.keep k_4
  have k0 := k0.trans k_4
  have kh := kh.trans k_4
  refine stA bx_4 (base_add _ _) rfl fun h_5 bx_4 k_5 m_5 => ?_
  have bx_1 := bx_1.keepB d_1q_4 k_5
  have k0 := KeepB.keep k0 k_5 o_4
  have kh := KeepB.keep kh k_5 oh_4
  refine stA bx_4 (base_add _ _) rfl fun h_6 bx_4 k_6 m_6 => ?_
  have bx_1 := bx_1.keepB d_1q_4 k_6
  have k0 := KeepB.keep k0 k_6 o_4
  have kh := KeepB.keep kh k_6 oh_4
  refine ldA bx_1 (base_add _ _) rfl ?_
  refine gBool_intro rfl ?_
  refine ldA bx_1 (base_add _ _) rfl ?_
  refine gSlice_intro rfl ?_
  refine hc_intro (num_FloorShr.hs (r0_1.tame (m_1.trans (m_2.trans (m_3.trans (m_4.trans (m_5.trans m_6)))))) rfl i1 (tb.tame (m_1.trans (m_2.trans (m_3.trans (m_4.trans (m_5.trans m_6))))))) fun v h_7 ⟨k_7, s⟩ => ?_
  obtain ⟨p_5, hp_5⟩ : ∃ p, p = shrZ flo (b0_0, xs0_1) x1 := ⟨_, rfl⟩
  rw [← hp_5] at s
  replace g := lift_let2 hp_5 g
  obtain ⟨_, _, rfl, ⟨a_5_0, c_5_0, rfl, r_5_0⟩, ⟨rfl, i_5_1⟩⟩ := s
  refine gTup_intro rfl (uncons_intro (gAgg_intro rfl (uncons_intro (gBool_intro rfl (uncons_intro (gSlice_intro rfl (unnil_intro (uncons_intro (gInt_intro rfl (unnil_intro (?_)))))))))))
  have r_5_0 := r_5_0.from k0.le
  have m_7 := k_7.tame
  have bx_1 := bx_1.keep k_7
  have bx_4 := bx_4.keep k_7
  have k0 := k0.trans k_7
  have kh := kh.trans k_7
  refine boxV fun h_8 bx_6 k_8 => ?_
  have d_1q_6 : h.size ≠ h_7.size := Nat.ne_of_lt bx_1.lt
  have d_4q_6 : h_3.size ≠ h_7.size := Nat.ne_of_lt bx_4.lt
  have o_6 : h0.size ≤ h_7.size := k0.le
  have oh_6 : h.size ≤ h_7.size := kh.le
  have lt_6 := bx_6.lt
  have m_8 := k_8.tame
  have bx_1 := bx_1.keep k_8
  have bx_4 := bx_4.keep k_8
  have k0 := k0.trans k_8
  have kh := kh.trans k_8
  refine stA bx_6 (base_add _ _) rfl fun h_9 bx_6 k_9 m_9 => ?_
  have bx_1 := bx_1.keepB d_1q_6 k_9
  have bx_4 := bx_4.keepB d_4q_6 k_9
  have k0 := KeepB.keep k0 k_9 o_6
  have kh := KeepB.keep kh k_9 oh_6
  refine stA bx_6 (base_add _ _) rfl fun h_10 bx_6 k_10 m_10 => ?_
  have bx_1 := bx_1.keepB d_1q_6 k_10
  have bx_4 := bx_4.keepB d_4q_6 k_10
  have k0 := KeepB.keep k0 k_10 o_6
  have kh := KeepB.keep kh k_10 oh_6
  refine ldA bx_1 (base_add _ _) rfl ?_
  refine gBool_intro rfl ?_
  refine ldA bx_1 (base_add _ _) rfl ?_
  refine gSlice_intro rfl ?_
  refine ldA bx_4 (base_add _ _) rfl ?_
  refine gBool_intro rfl ?_
  refine ldA bx_4 (base_add _ _) rfl ?_
  refine gSlice_intro rfl ?_
  refine hc_intro (num_FloorDiv.hs (r0_1.tame (m_1.trans (m_2.trans (m_3.trans (m_4.trans (m_5.trans (m_6.trans (m_7.trans (m_8.trans (m_9.trans m_10)))))))))) rfl (r_3_0.tame (m_4.trans (m_5.trans (m_6.trans (m_7.trans (m_8.trans (m_9.trans m_10))))))).rd64 rfl) fun v h_11 ⟨k_11, s⟩ => ?_
  obtain ⟨p_7, hp_7⟩ : ∃ p, p = quoZ flo (b0_0, xs0_1) (p_3.1.1, p_3.1.2) := ⟨_, rfl⟩
  rw [← hp_7] at s
  replace g := lift_let2 hp_7 g
  obtain ⟨_, _, rfl, ⟨a_7_0, c_7_0, rfl, r_7_0⟩, ⟨rfl, i_7_1⟩⟩ := s
  refine gTup_intro rfl (uncons_intro (gAgg_intro rfl (uncons_intro (gBool_intro rfl (uncons_intro (gSlice_intro rfl (unnil_intro (uncons_intro (gInt_intro rfl (unnil_intro (?_)))))))))))
  have r_7_0 := r_7_0.from k0.le
  have m_11 := k_11.tame
  have bx_1 := bx_1.keep k_11
  have bx_4 := bx_4.keep k_11
  have bx_6 := bx_6.keep k_11
  have k0 := k0.trans k_11
  have kh := kh.trans k_11
  refine boxV fun h_12 bx_8 k_12 => ?_
  have d_1q_8 : h.size ≠ h_11.size := Nat.ne_of_lt bx_1.lt
  have d_4q_8 : h_3.size ≠ h_11.size := Nat.ne_of_lt bx_4.lt
  have d_6q_8 : h_7.size ≠ h_11.size := Nat.ne_of_lt bx_6.lt
  have o_8 : h0.size ≤ h_11.size := k0.le
  have oh_8 : h.size ≤ h_11.size := kh.le
  have lt_8 := bx_8.lt
  have m_12 := k_12.tame
  have bx_1 := bx_1.keep k_12
  have bx_4 := bx_4.keep k_12
  have bx_6 := bx_6.keep k_12
  have k0 := k0.trans k_12
  have kh := kh.trans k_12
  refine stA bx_8 (base_add _ _) rfl fun h_13 bx_8 k_13 m_13 => ?_
  have bx_1 := bx_1.keepB d_1q_8 k_13
  have bx_4 := bx_4.keepB d_4q_8 k_13
  have bx_6 := bx_6.keepB d_6q_8 k_13
  have k0 := KeepB.keep k0 k_13 o_8
  have kh := KeepB.keep kh k_13 oh_8
  refine stA bx_8 (base_add _ _) rfl fun h_14 bx_8 k_14 m_14 => ?_
  have bx_1 := bx_1.keepB d_1q_8 k_14
  have bx_4 := bx_4.keepB d_4q_8 k_14
  have bx_6 := bx_6.keepB d_6q_8 k_14
  have k0 := KeepB.keep k0 k_14 o_8
  have kh := KeepB.keep kh k_14 oh_8
  refine ldA bx_1 (base_add _ _) rfl ?_
  refine gBool_intro rfl ?_
  refine ldA bx_1 (base_add _ _) rfl ?_
  refine gSlice_intro rfl ?_
  refine hc_intro (num_CeilShr.hs (r0_1.tame (m_1.trans (m_2.trans (m_3.trans (m_4.trans (m_5.trans (m_6.trans (m_7.trans (m_8.trans (m_9.trans (m_10.trans (m_11.trans (m_12.trans (m_13.trans m_14)))))))))))))) rfl i1 (tb.tame (m_1.trans (m_2.trans (m_3.trans (m_4.trans (m_5.trans (m_6.trans (m_7.trans (m_8.trans (m_9.trans (m_10.trans (m_11.trans (m_12.trans (m_13.trans m_14))))))))))))))) fun v h_15 ⟨k_15, s⟩ => ?_
  obtain ⟨p_9, hp_9⟩ : ∃ p, p = shrZ cei (b0_0, xs0_1) x1 := ⟨_, rfl⟩
  rw [← hp_9] at s
  replace g := lift_let2 hp_9 g
  obtain ⟨_, _, rfl, ⟨a_9_0, c_9_0, rfl, r_9_0⟩, ⟨rfl, i_9_1⟩⟩ := s
  refine gTup_intro rfl (uncons_intro (gAgg_intro rfl (uncons_intro (gBool_intro rfl (uncons_intro (gSlice_intro rfl (unnil_intro (uncons_intro (gInt_intro rfl (unnil_intro (?_)))))))))))
  have r_9_0 := r_9_0.from k0.le
  have m_15 := k_15.tame
  have bx_1 := bx_1.keep k_15
  have bx_4 := bx_4.keep k_15
  have bx_6 := bx_6.keep k_15
  have bx_8 := bx_8.keep k_15
  have k0 := k0.trans k_15
  have kh := kh.trans k_15
  refine boxV fun h_16 bx_10 k_16 => ?_
  have d_1q_10 : h.size ≠ h_15.size := Nat.ne_of_lt bx_1.lt
  have d_4q_10 : h_3.size ≠ h_15.size := Nat.ne_of_lt bx_4.lt
  have d_6q_10 : h_7.size ≠ h_15.size := Nat.ne_of_lt bx_6.lt
  have d_8q_10 : h_11.size ≠ h_15.size := Nat.ne_of_lt bx_8.lt
  have o_10 : h0.size ≤ h_15.size := k0.le
  have oh_10 : h.size ≤ h_15.size := kh.le
  have lt_10 := bx_10.lt
  have m_16 := k_16.tame
  have bx_1 := bx_1.keep k_16
  have bx_4 := bx_4.keep k_16
  have bx_6 := bx_6.keep k_16
  have bx_8 := bx_8.keep k_16
  have k0 := k0.trans k_16
  have kh := kh.trans k_16
  refine stA bx_10 (base_add _ _) rfl fun h_17 bx_10 k_17 m_17 => ?_
  have bx_1 := bx_1.keepB d_1q_10 k_17
  have bx_4 := bx_4.keepB d_4q_10 k_17
  have bx_6 := bx_6.keepB d_6q_10 k_17
  have bx_8 := bx_8.keepB d_8q_10 k_17
  have k0 := KeepB.keep k0 k_17 o_10
  have kh := KeepB.keep kh k_17 oh_10
  refine stA bx_10 (base_add _ _) rfl fun h_18 bx_10 k_18 m_18 => ?_
  have bx_1 := bx_1.keepB d_1q_10 k_18
  have bx_4 := bx_4.keepB d_4q_10 k_18
  have bx_6 := bx_6.keepB d_6q_10 k_18
  have bx_8 := bx_8.keepB d_8q_10 k_18
  have k0 := KeepB.keep k0 k_18 o_10
  have kh := KeepB.keep kh k_18 oh_10
  refine ldA bx_1 (base_add _ _) rfl ?_
  refine gBool_intro rfl ?_
  refine ldA bx_1 (base_add _ _) rfl ?_
  refine gSlice_intro rfl ?_
  refine ldA bx_4 (base_add _ _) rfl ?_
  refine gBool_intro rfl ?_
  refine ldA bx_4 (base_add _ _) rfl ?_
  refine gSlice_intro rfl ?_
  refine hc_intro (num_CeilDiv.hs (r0_1.tame (m_1.trans (m_2.trans (m_3.trans (m_4.trans (m_5.trans (m_6.trans (m_7.trans (m_8.trans (m_9.trans (m_10.trans (m_11.trans (m_12.trans (m_13.trans (m_14.trans (m_15.trans (m_16.trans (m_17.trans m_18)))))))))))))))))) rfl (r_3_0.tame (m_4.trans (m_5.trans (m_6.trans (m_7.trans (m_8.trans (m_9.trans (m_10.trans (m_11.trans (m_12.trans (m_13.trans (m_14.trans (m_15.trans (m_16.trans (m_17.trans m_18))))))))))))))).rd64 rfl) fun v h_19 ⟨k_19, s⟩ => ?_
  obtain ⟨p_11, hp_11⟩ : ∃ p, p = quoZ cei (b0_0, xs0_1) (p_3.1.1, p_3.1.2) := ⟨_, rfl⟩
  rw [← hp_11] at s
  replace g := lift_let2 hp_11 g
  obtain ⟨_, _, rfl, ⟨a_11_0, c_11_0, rfl, r_11_0⟩, ⟨rfl, i_11_1⟩⟩ := s
  refine gTup_intro rfl (uncons_intro (gAgg_intro rfl (uncons_intro (gBool_intro rfl (uncons_intro (gSlice_intro rfl (unnil_intro (uncons_intro (gInt_intro rfl (unnil_intro (?_)))))))))))
  have r_11_0 := r_11_0.from k0.le
  have m_19 := k_19.tame
  have bx_1 := bx_1.keep k_19
  have bx_4 := bx_4.keep k_19
  have bx_6 := bx_6.keep k_19
  have bx_8 := bx_8.keep k_19
  have bx_10 := bx_10.keep k_19
  have k0 := k0.trans k_19
  have kh := kh.trans k_19
  refine boxV fun h_20 bx_12 k_20 => ?_
  have d_1q_12 : h.size ≠ h_19.size := Nat.ne_of_lt bx_1.lt
  have d_4q_12 : h_3.size ≠ h_19.size := Nat.ne_of_lt bx_4.lt
  have d_6q_12 : h_7.size ≠ h_19.size := Nat.ne_of_lt bx_6.lt
  have d_8q_12 : h_11.size ≠ h_19.size := Nat.ne_of_lt bx_8.lt
  have d_10q_12 : h_15.size ≠ h_19.size := Nat.ne_of_lt bx_10.lt
  have o_12 : h0.size ≤ h_19.size := k0.le
  have oh_12 : h.size ≤ h_19.size := kh.le
  have lt_12 := bx_12.lt
  have m_20 := k_20.tame
  have bx_1 := bx_1.keep k_20
  have bx_4 := bx_4.keep k_20
  have bx_6 := bx_6.keep k_20
  have bx_8 := bx_8.keep k_20
  have bx_10 := bx_10.keep k_20
  have k0 := k0.trans k_20
  have kh := kh.trans k_20
  refine stA bx_12 (base_add _ _) rfl fun h_21 bx_12 k_21 m_21 => ?_
  have bx_1 := bx_1.keepB d_1q_12 k_21
  have bx_4 := bx_4.keepB d_4q_12 k_21
  have bx_6 := bx_6.keepB d_6q_12 k_21
  have bx_8 := bx_8.keepB d_8q_12 k_21
  have bx_10 := bx_10.keepB d_10q_12 k_21
  have k0 := KeepB.keep k0 k_21 o_12
  have kh := KeepB.keep kh k_21 oh_12
  refine stA bx_12 (base_add _ _) rfl fun h_22 bx_12 k_22 m_22 => ?_
  have bx_1 := bx_1.keepB d_1q_12 k_22
  have bx_4 := bx_4.keepB d_4q_12 k_22
  have bx_6 := bx_6.keepB d_6q_12 k_22
  have bx_8 := bx_8.keepB d_8q_12 k_22
  have bx_10 := bx_10.keepB d_10q_12 k_22
  have k0 := KeepB.keep k0 k_22 o_12
  have kh := KeepB.keep kh k_22 oh_12
  refine ldA bx_1 (base_add _ _) rfl ?_
  refine gBool_intro rfl ?_
  refine ldA bx_1 (base_add _ _) rfl ?_
  refine gSlice_intro rfl ?_
  refine hc_intro (num_NearShr.hs (r0_1.tame (m_1.trans (m_2.trans (m_3.trans (m_4.trans (m_5.trans (m_6.trans (m_7.trans (m_8.trans (m_9.trans (m_10.trans (m_11.trans (m_12.trans (m_13.trans (m_14.trans (m_15.trans (m_16.trans (m_17.trans (m_18.trans (m_19.trans (m_20.trans (m_21.trans m_22)))))))))))))))))))))) rfl i1 (tb.tame (m_1.trans (m_2.trans (m_3.trans (m_4.trans (m_5.trans (m_6.trans (m_7.trans (m_8.trans (m_9.trans (m_10.trans (m_11.trans (m_12.trans (m_13.trans (m_14.trans (m_15.trans (m_16.trans (m_17.trans (m_18.trans (m_19.trans (m_20.trans (m_21.trans m_22))))))))))))))))))))))) fun v h_23 ⟨k_23, s⟩ => ?_
  obtain ⟨p_13, hp_13⟩ : ∃ p, p = shrZ nea (b0_0, xs0_1) x1 := ⟨_, rfl⟩
  rw [← hp_13] at s
  replace g := lift_let2 hp_13 g
  obtain ⟨_, _, rfl, ⟨a_13_0, c_13_0, rfl, r_13_0⟩, ⟨rfl, i_13_1⟩⟩ := s
  refine gTup_intro rfl (uncons_intro (gAgg_intro rfl (uncons_intro (gBool_intro rfl (uncons_intro (gSlice_intro rfl (unnil_intro (uncons_intro (gInt_intro rfl (unnil_intro (?_)))))))))))
  have r_13_0 := r_13_0.from k0.le
  have m_23 := k_23.tame
  have bx_1 := bx_1.keep k_23
  have bx_4 := bx_4.keep k_23
  have bx_6 := bx_6.keep k_23
  have bx_8 := bx_8.keep k_23
  have bx_10 := bx_10.keep k_23
  have bx_12 := bx_12.keep k_23
  have k0 := k0.trans k_23
  have kh := kh.trans k_23
  refine boxV fun h_24 bx_14 k_24 => ?_
  have d_1q_14 : h.size ≠ h_23.size := Nat.ne_of_lt bx_1.lt
  have d_4q_14 : h_3.size ≠ h_23.size := Nat.ne_of_lt bx_4.lt
  have d_6q_14 : h_7.size ≠ h_23.size := Nat.ne_of_lt bx_6.lt
  have d_8q_14 : h_11.size ≠ h_23.size := Nat.ne_of_lt bx_8.lt
  have d_10q_14 : h_15.size ≠ h_23.size := Nat.ne_of_lt bx_10.lt
  have d_12q_14 : h_19.size ≠ h_23.size := Nat.ne_of_lt bx_12.lt
  have o_14 : h0.size ≤ h_23.size := k0.le
  have oh_14 : h.size ≤ h_23.size := kh.le
  have lt_14 := bx_14.lt
  have m_24 := k_24.tame
  have bx_1 := bx_1.keep k_24
  have bx_4 := bx_4.keep k_24
  have bx_6 := bx_6.keep k_24
  have bx_8 := bx_8.keep k_24
  have bx_10 := bx_10.keep k_24
  have bx_12 := bx_12.keep k_24
  have k0 := k0.trans k_24
  have kh := kh.trans k_24
  refine stA bx_14 (base_add _ _) rfl fun h_25 bx_14 k_25 m_25 => ?_
  have bx_1 := bx_1.keepB d_1q_14 k_25
  have bx_4 := bx_4.keepB d_4q_14 k_25
  have bx_6 := bx_6.keepB d_6q_14 k_25
  have bx_8 := bx_8.keepB d_8q_14 k_25
  have bx_10 := bx_10.keepB d_10q_14 k_25
  have bx_12 := bx_12.keepB d_12q_14 k_25
  have k0 := KeepB.keep k0 k_25 o_14
  have kh := KeepB.keep kh k_25 oh_14
  refine stA bx_14 (base_add _ _) rfl fun h_26 bx_14 k_26 m_26 => ?_
  have bx_1 := bx_1.keepB d_1q_14 k_26
  have bx_4 := bx_4.keepB d_4q_14 k_26
  have bx_6 := bx_6.keepB d_6q_14 k_26
  have bx_8 := bx_8.keepB d_8q_14 k_26
  have bx_10 := bx_10.keepB d_10q_14 k_26
  have bx_12 := bx_12.keepB d_12q_14 k_26
  have k0 := KeepB.keep k0 k_26 o_14
  have kh := KeepB.keep kh k_26 oh_14
  refine ldA bx_1 (base_add _ _) rfl ?_
  refine gBool_intro rfl ?_
  refine ldA bx_1 (base_add _ _) rfl ?_
  refine gSlice_intro rfl ?_
  refine ldA bx_4 (base_add _ _) rfl ?_
  refine gBool_intro rfl ?_
  refine ldA bx_4 (base_add _ _) rfl ?_
  refine gSlice_intro rfl ?_
  refine hc_intro (num_NearDiv.hs (r0_1.tame (m_1.trans (m_2.trans (m_3.trans (m_4.trans (m_5.trans (m_6.trans (m_7.trans (m_8.trans (m_9.trans (m_10.trans (m_11.trans (m_12.trans (m_13.trans (m_14.trans (m_15.trans (m_16.trans (m_17.trans (m_18.trans (m_19.trans (m_20.trans (m_21.trans (m_22.trans (m_23.trans (m_24.trans (m_25.trans m_26)))))))))))))))))))))))))) rfl (r_3_0.tame (m_4.trans (m_5.trans (m_6.trans (m_7.trans (m_8.trans (m_9.trans (m_10.trans (m_11.trans (m_12.trans (m_13.trans (m_14.trans (m_15.trans (m_16.trans (m_17.trans (m_18.trans (m_19.trans (m_20.trans (m_21.trans (m_22.trans (m_23.trans (m_24.trans (m_25.trans m_26))))))))))))))))))))))).rd64 rfl) fun v h_27 ⟨k_27, s⟩ => ?_
  obtain ⟨p_15, hp_15⟩ : ∃ p, p = quoZ nea (b0_0, xs0_1) (p_3.1.1, p_3.1.2) := ⟨_, rfl⟩
  rw [← hp_15] at s
  replace g := lift_let2 hp_15 g
  obtain ⟨_, _, rfl, ⟨a_15_0, c_15_0, rfl, r_15_0⟩, ⟨rfl, i_15_1⟩⟩ := s
  refine gTup_intro rfl (uncons_intro (gAgg_intro rfl (uncons_intro (gBool_intro rfl (uncons_intro (gSlice_intro rfl (unnil_intro (uncons_intro (gInt_intro rfl (unnil_intro (?_)))))))))))
  have r_15_0 := r_15_0.from k0.le
  have m_27 := k_27.tame
  have bx_1 := bx_1.keep k_27
  have bx_4 := bx_4.keep k_27
  have bx_6 := bx_6.keep k_27
  have bx_8 := bx_8.keep k_27
  have bx_10 := bx_10.keep k_27
  have bx_12 := bx_12.keep k_27
  have bx_14 := bx_14.keep k_27
  have k0 := k0.trans k_27
  have kh := kh.trans k_27
  refine boxV fun h_28 bx_16 k_28 => ?_
  have d_1q_16 : h.size ≠ h_27.size := Nat.ne_of_lt bx_1.lt
  have d_4q_16 : h_3.size ≠ h_27.size := Nat.ne_of_lt bx_4.lt
  have d_6q_16 : h_7.size ≠ h_27.size := Nat.ne_of_lt bx_6.lt
  have d_8q_16 : h_11.size ≠ h_27.size := Nat.ne_of_lt bx_8.lt
  have d_10q_16 : h_15.size ≠ h_27.size := Nat.ne_of_lt bx_10.lt
  have d_12q_16 : h_19.size ≠ h_27.size := Nat.ne_of_lt bx_12.lt
  have d_14q_16 : h_23.size ≠ h_27.size := Nat.ne_of_lt bx_14.lt
  have o_16 : h0.size ≤ h_27.size := k0.le
  have oh_16 : h.size ≤ h_27.size := kh.le
  have lt_16 := bx_16.lt
  have m_28 := k_28.tame
  have bx_1 := bx_1.keep k_28
  have bx_4 := bx_4.keep k_28
  have bx_6 := bx_6.keep k_28
  have bx_8 := bx_8.keep k_28
  have bx_10 := bx_10.keep k_28
  have bx_12 := bx_12.keep k_28
  have bx_14 := bx_14.keep k_28
  have k0 := k0.trans k_28
  have kh := kh.trans k_28
  refine stA bx_16 (base_add _ _) rfl fun h_29 bx_16 k_29 m_29 => ?_
  have bx_1 := bx_1.keepB d_1q_16 k_29
  have bx_4 := bx_4.keepB d_4q_16 k_29
  have bx_6 := bx_6.keepB d_6q_16 k_29
  have bx_8 := bx_8.keepB d_8q_16 k_29
  have bx_10 := bx_10.keepB d_10q_16 k_29
  have bx_12 := bx_12.keepB d_12q_16 k_29
  have bx_14 := bx_14.keepB d_14q_16 k_29
  have k0 := KeepB.keep k0 k_29 o_16
  have kh := KeepB.keep kh k_29 oh_16
  refine stA bx_16 (base_add _ _) rfl fun h_30 bx_16 k_30 m_30 => ?_
  have bx_1 := bx_1.keepB d_1q_16 k_30
  have bx_4 := bx_4.keepB d_4q_16 k_30
  have bx_6 := bx_6.keepB d_6q_16 k_30
  have bx_8 := bx_8.keepB d_8q_16 k_30
  have bx_10 := bx_10.keepB d_10q_16 k_30
  have bx_12 := bx_12.keepB d_12q_16 k_30
  have bx_14 := bx_14.keepB d_14q_16 k_30
  have k0 := KeepB.keep k0 k_30 o_16
  have kh := KeepB.keep kh k_30 oh_16
  refine lift_ne g (fun q_17 g => ?_) (fun q_17 g => ?_)
  · exact g _ _ k0 rfl
  · refine lift_ne g (fun q_18 g => ?_) (fun q_18 g => ?_)
    · exact g _ _ k0 rfl
    · refine lift_ne g (fun q_19 g => ?_) (fun q_19 g => ?_)
      · exact g _ _ k0 rfl
      · refine lift_ne g (fun q_20 g => ?_) (fun q_20 g => ?_)
        · exact g _ _ k0 rfl
        · refine lift_ne g (fun q_21 g => ?_) (fun q_21 g => ?_)
          · exact g _ _ k0 rfl
          · refine lift_ne g (fun q_22 g => ?_) (fun q_22 g => ?_)
            · exact g _ _ k0 rfl
            · refine lift_ne g (fun q_23 g => ?_) (fun q_23 g => ?_)
              · exact g _ _ k0 rfl
              · exact D2.hv k0 (r_5_0.tame (m_8.trans (m_9.trans (m_10.trans (m_11.trans (m_12.trans (m_13.trans (m_14.trans (m_15.trans (m_16.trans (m_17.trans (m_18.trans (m_19.trans (m_20.trans (m_21.trans (m_22.trans (m_23.trans (m_24.trans (m_25.trans (m_26.trans (m_27.trans (m_28.trans (m_29.trans m_30))))))))))))))))))))))) bx_6 o_6 (r_7_0.tame (m_12.trans (m_13.trans (m_14.trans (m_15.trans (m_16.trans (m_17.trans (m_18.trans (m_19.trans (m_20.trans (m_21.trans (m_22.trans (m_23.trans (m_24.trans (m_25.trans (m_26.trans (m_27.trans (m_28.trans (m_29.trans m_30))))))))))))))))))) bx_8 o_8 (r_9_0.tame (m_16.trans (m_17.trans (m_18.trans (m_19.trans (m_20.trans (m_21.trans (m_22.trans (m_23.trans (m_24.trans (m_25.trans (m_26.trans (m_27.trans (m_28.trans (m_29.trans m_30))))))))))))))) bx_10 o_10 (r_11_0.tame (m_20.trans (m_21.trans (m_22.trans (m_23.trans (m_24.trans (m_25.trans (m_26.trans (m_27.trans (m_28.trans (m_29.trans m_30))))))))))) bx_12 o_12 (r_13_0.tame (m_24.trans (m_25.trans (m_26.trans (m_27.trans (m_28.trans (m_29.trans m_30))))))) bx_14 o_14 (r_15_0.tame (m_28.trans (m_29.trans m_30))) bx_16 o_16 d_6q_8 d_6q_10 d_6q_12 d_6q_14 d_6q_16 d_8q_10 d_8q_12 d_8q_14 d_8q_16 d_10q_12 d_10q_14 d_10q_16 d_12q_14 d_12q_16 d_14q_16 (tb.tame (m_1.trans (m_2.trans (m_3.trans (m_4.trans (m_5.trans (m_6.trans (m_7.trans (m_8.trans (m_9.trans (m_10.trans (m_11.trans (m_12.trans (m_13.trans (m_14.trans (m_15.trans (m_16.trans (m_17.trans (m_18.trans (m_19.trans (m_20.trans (m_21.trans (m_22.trans (m_23.trans (m_24.trans (m_25.trans (m_26.trans (m_27.trans (m_28.trans (m_29.trans m_30)))))))))))))))))))))))))))))) g
def v (b0_0 : Bool) (xs0_1 : List Nat) (x1 : Int) : Bool := D1.v b0_0 xs0_1 x1
theorem hv {h : Hp} {b0_0 : Bool} {a0_1 : Option Addr} {c0_1 l0_1 : Nat} {xs0_1 : List Nat} (r0_1 : Rd h a0_1 c0_1 xs0_1) (e0_1 : l0_1 = xs0_1.length) {x1 : Int} (i1 : In .i64 x1) (tb : Tab h) : HC id #[.agg #[.bool b0_0, .slice a0_1 l0_1 c0_1], .int .i64 x1] h fun v_ h_ => Keep h h_ ∧ sBool h h_ v_ (v b0_0 xs0_1 x1) :=
  ok (D1.hv (Keep.refl _) r0_1 e0_1 i1 tb fun v h' k s => ⟨k, s⟩)
end gnomontop_shifts

end Go.Proofs.YtabkkcbpckcfnaaDoor.G

/- Whole numbers: sums, products, quotients and shifts of numbers in form: plain law. -/
namespace Go.Proofs.YtabkkcbpckcfnaaDoor.G
open Go.Gv
set_option linter.unusedVariables false
theorem sg_of (a : Int) : ∃ p A, a = sg p A ∧ (p = true → A ≠ 0) ∧ A = a.natAbs := by
  by_cases h : a < 0
  · exact ⟨true, a.natAbs, by unfold sg; simp; omega, fun _ => by omega, rfl⟩
  · exact ⟨false, a.natAbs, by unfold sg; simp; omega, fun h => (by cases h), rfl⟩
theorem quo_up {A B : Nat} (h : A % B ≠ 0) : A / B + 1 ≤ A := by
  have hd := Nat.div_add_mod A B
  rcases Nat.eq_zero_or_pos B with h0 | h0
  · subst h0; simp at h ⊢; omega
  have hm := Nat.mod_lt A h0
  generalize A % B = r at *
  have h2 : 2 ≤ B := by omega
  have h3 := Nat.mul_le_mul_right (A / B) h2
  omega
theorem flo_abs {a b : Int} (hb : b ≠ 0) : (flo a b).natAbs ≤ a.natAbs := by
  obtain ⟨p, A, rfl, hp, _⟩ := sg_of a
  obtain ⟨q, B, rfl, hq, _⟩ := sg_of b
  have hB : B ≠ 0 := fun h => hb (sg_eq_zero.mpr h)
  rw [flo_sg hB hp, sg_abs, sg_abs]
  split
  · rename_i h; exact quo_up h.2
  · exact Nat.div_le_self _ _
theorem cei_abs {a b : Int} (hb : b ≠ 0) : (cei a b).natAbs ≤ a.natAbs := by
  have := flo_abs (a := -a) hb
  unfold cei; rw [Int.natAbs_neg] at this ⊢; exact this
theorem near_le {A B : Nat} (hB : B ≠ 0) : nearN A B ≤ A := by
  unfold nearN
  split
  · rename_i h; exact quo_up (by omega)
  · exact Nat.div_le_self _ _
theorem nea_abs {a b : Int} (hb : b ≠ 0) : (nea a b).natAbs ≤ a.natAbs := by
  unfold nea; rw [sg_abs]; exact near_le (by omega)
theorem mo_abs {a b : Int} (hb : b ≠ 0) : (mo a b).natAbs < b.natAbs := by
  obtain ⟨p, A, rfl, hp, _⟩ := sg_of a
  obtain ⟨q, B, rfl, hq, _⟩ := sg_of b
  have hB : B ≠ 0 := fun h => hb (sg_eq_zero.mpr h)
  rw [mo_sg hB hp, sg_abs, sg_abs]
  have hm := Nat.mod_lt A (show 0 < B by omega)
  split
  · rename_i h; omega
  · exact hm
theorem pow2_pos (n : Nat) : (0 : Int) < 2 ^ n := by rw [pow2_sg, sg_false]; have := Nat.two_pow_pos n; omega
theorem pow2_nz (n : Nat) : ((2 : Int) ^ n) ≠ 0 := by have := pow2_pos n; omega
/-! ### answers of numbers in form -/
theorem two_zz (f : Int → Int → Int) {i j : Int} (h : SmZ i) (g : SmZ j) : twoZ f (zz i) (zz j) = zlim (f i j) := by
  unfold twoZ; rw [if_pos ⟨frm_zz h, frm_zz g⟩, zi_zz, zi_zz]
theorem quo_zz {g : Int → Int → Int} {i j : Int} (h1 : SmZ i) (h2 : SmZ j) (h0 : j ≠ 0) : quoZ g (zz i) (zz j) = zlim (g i j) := by
  unfold quoZ
  rw [if_pos ⟨frm_zz h1, frm_zz h2⟩, zi_zz, zi_zz, if_neg h0]
theorem quo_z0 {g : Int → Int → Int} {i : Int} (h1 : SmZ i) (h2 : SmZ 0) : quoZ g (zz i) (zz 0) = (nz, 4) := by
  unfold quoZ
  rw [if_pos ⟨frm_zz h1, frm_zz h2⟩, zi_zz, zi_zz, if_pos rfl]
theorem shr_zz {g : Int → Int → Int} {i : Int} (h1 : SmZ i) (n : Nat) : shrZ g (zz i) (n : Int) = zlim (g i (2 ^ n)) := by
  unfold shrZ
  rw [if_neg (by omega), if_pos (frm_zz h1), zi_zz, Int.toNat_natCast]
theorem shl_zz {i : Int} (h1 : SmZ i) (n : Nat) : shlZ (zz i) (n : Int) = zlim (i * 2 ^ n) := by
  unfold shlZ
  rw [if_neg (by omega), if_pos (frm_zz h1), zi_zz, Int.toNat_natCast]
theorem zz_eq {i j : Int} : (zz i = zz j) ↔ i = j := ⟨zz_inj, fun e => by rw [e]⟩
theorem eta2 (p : Zw) : (p.1, p.2) = p := rfl
theorem dl_pow2 {k j : Nat} (h : k < 64 * j) : (digs (2 ^ k)).length ≤ j := digs_len.mpr (Nat.pow_lt_pow_right (by decide) h)
theorem sm_small {i : Int} (h : i.natAbs < 340282366920938463463374607431768211456) : SmZ i := by
  unfold SmZ
  have : (digs i.natAbs).length ≤ 2 := digs_len.mpr (by simpa using h)
  omega
end Go.Proofs.YtabkkcbpckcfnaaDoor.G

/- The theorem of division: the parts answer true: plain law. -/
namespace Go.Proofs.YtabkkcbpckcfnaaDoor.G
open Go.Gv
set_option linter.unusedVariables false
set_option maxRecDepth 100000
theorem cmp_less {A B : Nat} (h : A < B) : cmpI A B = -1 := by unfold cmpI; rw [if_pos h]
theorem divides_true {A B : Nat} (ha : (digs A).length ≤ 250) (hb : (digs B).length ≤ 250) : gnomontop_divides.v (digs A) (digs B) = true := by
  unfold gnomontop_divides.v gnomontop_divides.D1.v
  by_cases h0 : B = 0
  · subst h0
    have e : quoS (digs A) (digs 0) = ([], [], 4) := by
      unfold quoS; rw [if_pos ⟨frm_d (by omega), frm_d (by omega)⟩, val_digs 0, if_pos rfl]
    rw [e, digs_zero]; rfl
  · have l1 := Nat.le_trans (digs_len_mono (Nat.div_le_self A B)) ha
    have l2 := Nat.le_trans (digs_len_mono (Nat.mod_le A B)) ha
    have e1 := quoS_d (X := A) (Y := B) (by omega) (by omega) h0
    have hle : A / B * B ≤ A := Nat.div_mul_le_self _ _
    have l3 := Nat.le_trans (digs_len_mono hle) ha
    have e2 := mulS_d (X := A / B) (Y := B) (by omega) (by omega) (by omega)
    have ea : A / B * B + A % B = A := Nat.div_add_mod' A B
    have e3 : addS (digs (A / B * B)) (digs (A % B)) = (digs A, 0) := by rw [addS_d (by omega) (by omega) (by rw [ea]; omega), ea]
    have lab := dl_mul ha hb
    have e4 := mulS_d (X := A) (Y := B) (by omega) (by omega) (by omega)
    have e5 : quoS (digs (A * B)) (digs B) = (digs A, [], 0) := by rw [quoS_d (by omega) (by omega) h0, Nat.mul_div_cancel _ (by omega), Nat.mul_mod_left, digs_zero]
    have e6 : gnomontop_divides.D2.v (digs A) (digs B) = true := by
      unfold gnomontop_divides.D2.v
      rw [e4]; simp only [letV]; rw [e5]; simp
    have lB := dl_pos h0
    have c0 : ((((digs B).length : Nat) : Int) == 0) = false := by
      rw [beq_eq_false_iff_ne]; omega
    rw [e1]; simp only [letV]
    rw [c0, e2]; simp only
    rw [e3, val_digs, val_digs, cmp_less (Nat.mod_lt A (show 0 < B by omega)), e6]
    simp
theorem roots_true {A : Nat} (ha : (digs A).length ≤ 250) : gnomontop_roots.v (digs A) = true := by
  have e1 : rootS (digs A) = (digs (rootN A), digs (A - rootN A * rootN A), 0) := by unfold rootS; rw [if_pos (frm_d (by omega)), val_digs]
  have hle := rootN_le A
  have hlt := rootN_lt A
  have hS : rootN A ≤ rootN A * rootN A := Nat.le_mul_self _
  unfold gnomontop_roots.v gnomontop_roots.D1.v
  rw [e1]; simp only [letV]
  generalize rootN A = S at *
  have lS : (digs S).length ≤ 250 := Nat.le_trans (digs_len_mono (by omega)) ha
  have l2 : (digs 2).length ≤ 1 := dw_word (by decide)
  have lS2 := dl_mul lS l2
  have lP : (digs (S * S)).length ≤ 250 := Nat.le_trans (digs_len_mono hle) ha
  have lR : (digs (A - S * S)).length ≤ 250 := Nat.le_trans (digs_len_mono (by omega)) ha
  have ea : S * S + (A - S * S) = A := by omega
  have e2 := mulS_d (X := S) (Y := S) (by omega) (by omega) (by omega)
  have e3 : addS (digs (S * S)) (digs (A - S * S)) = (digs A, 0) := by rw [addS_d (by omega) (by omega) (by rw [ea]; omega), ea]
  have e4 : mulWS (digs S) (Int.toNat 2) = (digs (S * 2), 0) := mulWS_d (w := 2) (by omega) (by omega)
  rw [e2, e4]; simp only
  rw [e3, val_digs, val_digs]
  have hs : (S + 1) * (S + 1) = S * S + 2 * S + 1 := by rw [Nat.add_mul, Nat.mul_add, Nat.one_mul, Nat.mul_one]; omega
  have c1 : decide (cmpI (A - S * S) (S * 2) ≤ 0) = true := by
    refine decide_eq_true ?_
    unfold cmpI
    split
    · decide
    · rw [if_pos (by omega)]; decide
  rw [c1]; simp
/-! ### quotients of whole numbers -/
theorem cei_flo {a b : Int} (hb : b ≠ 0) : cei a b = if mo a b = 0 then flo a b else flo a b + 1 := by
  obtain ⟨p, A, rfl, hp, _⟩ := sg_of a
  obtain ⟨q, B, rfl, hq, _⟩ := sg_of b
  have hB : B ≠ 0 := fun h => hb (sg_eq_zero.mpr h)
  rw [flo_sg hB hp, cei_sg hB hp, mo_sg hB hp]
  have hm := Nat.mod_lt A (show 0 < B by omega)
  generalize A % B = r at *
  generalize A / B = Q at *
  have e0 : ∀ n : Nat, (sg q n = 0) ↔ n = 0 := fun n => sg_eq_zero
  by_cases hr : r = 0
  · subst hr
    simp only [ne_eq, not_true_eq_false, and_false, if_false, e0, if_true]
  · cases hx : (xor p q)
    · simp only [Bool.false_eq_true, false_and, if_false, hr, ne_eq, not_false_eq_true, and_self, if_true, e0]
      unfold sg; simp
    · simp only [reduceCtorEq, false_and, if_false, hr, ne_eq, not_false_eq_true, and_self, if_true, e0]
      rw [if_neg (by omega)]
      unfold sg; simp; omega
theorem nea_flo {a b : Int} (hb : b ≠ 0) : nea a b = flo a b ∨ nea a b = cei a b := by
  obtain ⟨p, A, rfl, hp, _⟩ := sg_of a
  obtain ⟨q, B, rfl, hq, _⟩ := sg_of b
  have hB : B ≠ 0 := fun h => hb (sg_eq_zero.mpr h)
  rw [flo_sg hB hp, cei_sg hB hp, nea_sg hB hp]
  unfold nearN
  have hm := Nat.mod_lt A (show 0 < B by omega)
  generalize A % B = r at *
  generalize A / B = Q at *
  by_cases hr : r = 0
  · subst hr
    left
    rw [if_neg (by omega), if_neg (by simp)]
  · cases hx : (xor p q)
    · by_cases c : B < 2 * r ∨ (2 * r = B ∧ Q % 2 = 1)
      · right; rw [if_pos c, if_pos ⟨rfl, hr⟩]
      · left; rw [if_neg c, if_neg (by simp)]
    · by_cases c : B < 2 * r ∨ (2 * r = B ∧ Q % 2 = 1)
      · left; rw [if_pos c, if_pos ⟨rfl, hr⟩]
      · right; rw [if_neg c, if_neg (by simp)]
/-- The nearest is off by at most half the divisor; where by just half, it is even. -/
theorem nea_off {a b : Int} (hb : b ≠ 0) : 2 * (a - nea a b * b).natAbs ≤ b.natAbs ∧ (2 * (a - nea a b * b).natAbs = b.natAbs → (nea a b).natAbs % 2 = 0) := by
  obtain ⟨p, A, rfl, hp, _⟩ := sg_of a
  obtain ⟨q, B, rfl, hq, _⟩ := sg_of b
  have hB : B ≠ 0 := fun h => hb (sg_eq_zero.mpr h)
  rw [nea_sg hB hp, mul_sg, sg_abs, sg_abs]
  have ex : (xor (xor p q) q) = p := by cases p <;> cases q <;> rfl
  rw [ex]
  have hd := Nat.div_add_mod A B
  have hm := Nat.mod_lt A (show 0 < B by omega)
  have e : (sg p A - sg p (nearN A B * B)).natAbs = ((A : Int) - ((nearN A B * B : Nat) : Int)).natAbs := by
    cases p
    · rfl
    · unfold sg; simp only [if_true]; omega
  rw [e]
  unfold nearN
  generalize A % B = r at *
  generalize A / B = Q at *
  have e1 : (Q + 1) * B = B * Q + B := by rw [Nat.add_mul, Nat.one_mul, Nat.mul_comm]
  have e2 : Q * B = B * Q := Nat.mul_comm _ _
  by_cases c : B < 2 * r ∨ (2 * r = B ∧ Q % 2 = 1)
  · rw [if_pos c, e1]
    generalize B * Q = T at *
    omega
  · rw [if_neg c, e2]
    generalize B * Q = T at *
    omega
/-- The rest has the divisor's sign. -/
theorem mo_sign {a b : Int} (hb : b ≠ 0) (h : mo a b ≠ 0) : decide (mo a b < 0) = decide (b < 0) := by
  obtain ⟨p, A, rfl, hp, _⟩ := sg_of a
  obtain ⟨q, B, rfl, hq, _⟩ := sg_of b
  have hB : B ≠ 0 := fun h => hb (sg_eq_zero.mpr h)
  rw [mo_sg hB hp] at h ⊢
  have h0 := fun e => h (sg_eq_zero.mpr e)
  rw [sg_neg_of fun _ => h0, sg_neg_of hq]
theorem nea_char {a b : Int} (hb : b ≠ 0) : (2 * (mo a b).natAbs < b.natAbs → nea a b = flo a b) ∧ (b.natAbs < 2 * (mo a b).natAbs → nea a b = flo a b + 1) ∧ (2 * (mo a b).natAbs = b.natAbs → nea a b = if (flo a b).natAbs % 2 = 1 then flo a b + 1 else flo a b) := by
  have ho := nea_off (a := a) hb
  have hm := mo_abs (a := a) hb
  have em : a - flo a b * b = mo a b := by unfold mo; rw [Int.mul_comm]
  have hc := cei_flo (a := a) hb
  have h1 : nea a b = flo a b ∨ (nea a b = flo a b + 1 ∧ mo a b ≠ 0) := by
    rcases nea_flo (a := a) hb with h | h
    · exact Or.inl h
    · by_cases h0 : mo a b = 0
      · rw [if_pos h0] at hc; exact Or.inl (h.trans hc)
      · rw [if_neg h0] at hc; exact Or.inr ⟨h.trans hc, h0⟩
  rcases h1 with h | ⟨h, h0⟩
  · rw [h, em] at ho
    rw [h]
    refine ⟨fun _ => rfl, fun g => ?_, fun g => ?_⟩
    · omega
    · have := ho.2 g
      rw [if_neg (by omega)]
  · have hs := mo_sign hb h0
    have em2 : a - (flo a b + 1) * b = mo a b - b := by rw [Int.add_mul, Int.one_mul]; omega
    rw [h, em2] at ho
    rw [h]
    have ab : (mo a b - b).natAbs = b.natAbs - (mo a b).natAbs := by
      by_cases hn : b < 0
      · have : mo a b < 0 := by rw [decide_eq_true hn] at hs; exact of_decide_eq_true hs
        omega
      · have : ¬ mo a b < 0 := by rw [decide_eq_false hn] at hs; exact of_decide_eq_false hs
        omega
    rw [ab] at ho
    refine ⟨fun g => ?_, fun _ => rfl, fun g => ?_⟩
    · omega
    · have := ho.2 (by omega)
      rw [if_pos (by omega)]
theorem zz_nat (n : Nat) : (false, digs n) = zz (n : Int) := by
  have : ¬ ((n : Nat) : Int) < 0 := by omega
  unfold zz; rw [Int.natAbs_natCast]; simp [this]
theorem sm_nat {n : Nat} (h : (digs n).length ≤ 8192) : SmZ (n : Int) := by unfold SmZ; rw [Int.natAbs_natCast]; exact h
theorem bit_zero (n : Nat) : (bitS n 0 == 1) = decide (n % 2 = 1) := by
  have e : bitS n 0 = ((n % 2 : Nat) : Int) := by unfold bitS; simp
  rw [e]
  rcases Nat.mod_two_eq_zero_or_one n with h | h <;> rw [h] <;> rfl
theorem quotients_D6 {X Y : Int} (h0 : Y ≠ 0) {b : Bool} : gnomontop_quotients.D6.v (zz Y).1 (zz Y).2 (zz (flo X Y)).1 (zz (flo X Y)).2 (zz (nea X Y)).1 (zz (nea X Y)).2 (zz (flo X Y + 1)).1 (zz (flo X Y + 1)).2 b (digs ((mo X Y).natAbs * 2)) = true := by
  have hn := nea_char (a := X) h0
  unfold gnomontop_quotients.D6.v
  have ey : val (zz Y).2 = Y.natAbs := val_digs _
  have ef : val (zz (flo X Y)).2 = (flo X Y).natAbs := val_digs _
  rw [ey, ef, val_digs, bit_zero]
  simp only [eta2, zz_eq]
  rcases Nat.lt_trichotomy (2 * (mo X Y).natAbs) Y.natAbs with h | h | h
  · have c : cmpI ((mo X Y).natAbs * 2) Y.natAbs = -1 := cmp_less (by omega)
    rw [c, hn.1 h]; simp
  · have c : cmpI ((mo X Y).natAbs * 2) Y.natAbs = 0 := by unfold cmpI; rw [if_neg (by omega), if_pos (by omega)]
    rw [c, hn.2.2 h]
    by_cases g : (flo X Y).natAbs % 2 = 1
    · simp [g]
    · simp [g]
  · have c : cmpI ((mo X Y).natAbs * 2) Y.natAbs = 1 := by unfold cmpI; rw [if_neg (by omega), if_neg (by omega)]
    rw [c, hn.2.1 h]; simp
theorem quotients_D4 {X Y : Int} (hx : (digs X.natAbs).length ≤ 250) (hy : (digs Y.natAbs).length ≤ 250) (h0 : Y ≠ 0) : gnomontop_quotients.D4.v (zz Y).1 (zz Y).2 (zz (flo X Y)).1 (zz (flo X Y)).2 (zz (cei X Y)).1 (zz (cei X Y)).2 (zz (nea X Y)).1 (zz (nea X Y)).2 (zz (mo X Y)).1 (zz (mo X Y)).2 = true := by
  have lf : (digs (flo X Y).natAbs).length ≤ 250 := Nat.le_trans (digs_len_mono (flo_abs h0)) hx
  have lm : (digs (mo X Y).natAbs).length ≤ 250 := Nat.le_trans (digs_len_mono (Nat.le_of_lt (mo_abs h0))) hy
  have l1 : (digs 1).length ≤ 250 := Nat.le_trans (dw_word (by decide)) (by decide)
  have l2 : (digs 2).length ≤ 1 := dw_word (by decide)
  have lf1 : (digs (flo X Y + 1).natAbs).length ≤ 251 := Nat.le_trans (digs_len_mono (by omega)) (digs_add_len lf l1)
  have s1 : SmZ 1 := by unfold SmZ; exact Nat.le_trans l1 (by decide)
  have sf : SmZ (flo X Y) := Nat.le_trans lf (by decide)
  have sf1 : SmZ (flo X Y + 1) := Nat.le_trans lf1 (by decide)
  have lm2 := dl_mul lm l2
  have hc := cei_flo (a := X) h0
  unfold gnomontop_quotients.D4.v
  simp only [letV, eta2]
  rw [two_zz addI sf s1, show addI (flo X Y) 1 = flo X Y + 1 from rfl, zlim_ok sf1]
  unfold gnomontop_quotients.D5.v
  simp only [eta2, zz_eq]
  have em : (zz (mo X Y)).2 = digs (mo X Y).natAbs := rfl
  rw [em]
  by_cases hm : mo X Y = 0
  · have : (digs (mo X Y).natAbs) = [] := by rw [hm]; exact digs_zero
    rw [this]
    rw [if_pos hm] at hc
    have hq := (nea_char (a := X) h0).1 (by rw [hm]; omega)
    rw [hc, hq]; simp
  · rw [if_neg hm] at hc
    have lp := dl_pos (X := (mo X Y).natAbs) (by omega)
    have c0 : ((((digs (mo X Y).natAbs).length : Nat) : Int) == 0) = false := by rw [beq_eq_false_iff_ne]; omega
    have e3 : shlZ (false, digs (mo X Y).natAbs) 1 = (zz (((mo X Y).natAbs * 2 : Nat) : Int), 0) := by
      rw [zz_nat]
      have := shl_zz (sm_nat (n := (mo X Y).natAbs) (by omega)) 1
      rw [show ((1 : Nat) : Int) = 1 from rfl] at this
      rw [this]
      have e : (((mo X Y).natAbs : Nat) : Int) * 2 ^ 1 = (((mo X Y).natAbs * 2 : Nat) : Int) := by simp
      rw [e, zlim_ok (sm_nat (by omega))]
    have e4 : (zz (((mo X Y).natAbs * 2 : Nat) : Int)).2 = digs ((mo X Y).natAbs * 2) := by unfold zz; rw [Int.natAbs_natCast]
    rw [c0, e3]
    simp only [letV]
    rw [e4, quotients_D6 h0, hc]
    simp
theorem quotients_true {X Y : Int} (hx : (digs X.natAbs).length ≤ 250) (hy : (digs Y.natAbs).length ≤ 250) : gnomontop_quotients.v (zz X).1 (zz X).2 (zz Y).1 (zz Y).2 = true := by
  have sx : SmZ X := Nat.le_trans hx (by decide)
  have sy : SmZ Y := Nat.le_trans hy (by decide)
  unfold gnomontop_quotients.v gnomontop_quotients.D1.v
  simp only [letV, eta2]
  by_cases h0 : Y = 0
  · subst h0
    rw [quo_z0 sx sy, quo_z0 sx sy, quo_z0 sx sy, quo_z0 sx sy]
    have : (zz 0).2 = [] := digs_zero
    rw [this]; rfl
  · have lf : (digs (flo X Y).natAbs).length ≤ 250 := Nat.le_trans (digs_len_mono (flo_abs h0)) hx
    have lc : (digs (cei X Y).natAbs).length ≤ 250 := Nat.le_trans (digs_len_mono (cei_abs h0)) hx
    have ln : (digs (nea X Y).natAbs).length ≤ 250 := Nat.le_trans (digs_len_mono (nea_abs h0)) hx
    have hma := mo_abs (a := X) h0
    have lm : (digs (mo X Y).natAbs).length ≤ 250 := Nat.le_trans (digs_len_mono (Nat.le_of_lt hma)) hy
    have sf : SmZ (flo X Y) := Nat.le_trans lf (by decide)
    have sc : SmZ (cei X Y) := Nat.le_trans lc (by decide)
    have sn : SmZ (nea X Y) := Nat.le_trans ln (by decide)
    have sm : SmZ (mo X Y) := Nat.le_trans lm (by decide)
    have lfy := dl_mul lf hy
    have sfy : SmZ (flo X Y * Y) := by unfold SmZ; rw [Int.natAbs_mul]; omega
    rw [quo_zz sx sy h0, quo_zz sx sy h0, quo_zz sx sy h0, quo_zz sx sy h0, zlim_ok sf, zlim_ok sc, zlim_ok sn, zlim_ok sm]
    have lY := dl_pos (X := Y.natAbs) (by omega)
    have ey : (zz Y).2 = digs Y.natAbs := rfl
    have em : (zz (mo X Y)).2 = digs (mo X Y).natAbs := rfl
    have c0 : ((((zz Y).2.length : Nat) : Int) == 0) = false := by rw [beq_eq_false_iff_ne, ey]; omega
    have e3 : gnomontop_quotients.D3.v (zz Y).1 (zz Y).2 (zz (flo X Y)).1 (zz (flo X Y)).2 (zz (cei X Y)).1 (zz (cei X Y)).2 (zz (nea X Y)).1 (zz (nea X Y)).2 (zz (mo X Y)).1 (zz (mo X Y)).2 = true := by
      unfold gnomontop_quotients.D3.v
      rw [quotients_D4 hx hy h0]
      by_cases hm : mo X Y = 0
      · rw [hm]
        have : (zz 0).2 = [] := digs_zero
        rw [this]; rfl
      · have hs : (zz (mo X Y)).1 = (zz Y).1 := mo_sign h0 hm
        rw [hs]; simp
    have e2 : gnomontop_quotients.D2.v (zz X).1 (zz X).2 (zz Y).1 (zz Y).2 (zz (flo X Y)).1 (zz (flo X Y)).2 (zz (cei X Y)).1 (zz (cei X Y)).2 (zz (nea X Y)).1 (zz (nea X Y)).2 (zz (mo X Y)).1 (zz (mo X Y)).2 = true := by
      unfold gnomontop_quotients.D2.v
      simp only [letV, eta2]
      rw [two_zz mulI sf sy, show mulI (flo X Y) Y = flo X Y * Y from rfl, zlim_ok sfy]
      have ea : addI (flo X Y * Y) (mo X Y) = X := by unfold addI mo; rw [Int.mul_comm (flo X Y)]; omega
      simp only
      rw [two_zz addI sfy sm, ea, zlim_ok sx, e3, ey, em, val_digs, val_digs, cmp_less hma]
      simp
    rw [c0, e2]; simp
theorem shifts_true {X : Int} {n : Nat} (hx : (digs X.natAbs).length ≤ 250) (hn : n < 20000) : gnomontop_shifts.v (zz X).1 (zz X).2 (n : Int) = true := by
  have sx : SmZ X := Nat.le_trans hx (by decide)
  have s1 : SmZ 1 := sm_small (by decide)
  have sp : SmZ (2 ^ n) := by
    have e : ((2 : Int) ^ n) = ((2 ^ n : Nat) : Int) := (Int.natCast_pow 2 n).symm
    rw [e]; exact sm_nat (dl_pow2 (by omega))
  have h0 := pow2_nz n
  have sf : SmZ (flo X (2 ^ n)) := smZ_le (flo_abs h0) sx
  have sc : SmZ (cei X (2 ^ n)) := smZ_le (cei_abs h0) sx
  have sn : SmZ (nea X (2 ^ n)) := smZ_le (nea_abs h0) sx
  unfold gnomontop_shifts.v gnomontop_shifts.D1.v
  simp only [letV, eta2]
  rw [shl_zz s1 n, Int.one_mul, zlim_ok sp]
  simp only
  rw [shr_zz sx n, shr_zz sx n, shr_zz sx n, quo_zz sx sp h0, quo_zz sx sp h0, quo_zz sx sp h0, zlim_ok sf, zlim_ok sc, zlim_ok sn]
  unfold gnomontop_shifts.D2.v
  simp
end Go.Proofs.YtabkkcbpckcfnaaDoor.G

/- The law WholeDivision of the translation answers true. -/
namespace Go.Proofs.YtabkkcbpckcfnaaDoor.G
open Go.Gv
set_option linter.unusedVariables false
set_option maxRecDepth 100000
theorem two_ten {a b k : Nat} (ha : a ≤ 93 * k) (hb : 28 * k ≤ b) : 2 ^ a ≤ 10 ^ b := by
  have h1 : 2 ^ (93 * k) ≤ 10 ^ (28 * k) := by
    rw [Nat.pow_mul, Nat.pow_mul]
    exact Nat.pow_le_pow_left (by decide) k
  exact Nat.le_trans (Nat.pow_le_pow_right (by decide) ha) (Nat.le_trans h1 (Nat.pow_le_pow_right (by decide) hb))
theorem txt_short {A : Nat} (h : blen A ≤ 16000) : (txt A).length ≤ 4898 := by
  rw [txt_len (by decide)]
  obtain ⟨a, ha⟩ : ∃ a, a = 16000 := ⟨_, rfl⟩
  obtain ⟨b, hb⟩ : ∃ b, b = 4898 := ⟨_, rfl⟩
  rw [← ha] at h
  rw [← hb]
  exact Nat.lt_of_lt_of_le (blen_le.mp h) (two_ten (k := 173) (by omega) (by omega))
theorem byt_append (s t : ByteArray) : byt (s ++ t) = byt s ++ byt t := by
  unfold byt
  rw [ByteArray.data_append, Array.toList_append, List.map_append]
theorem readS_00 {X : Nat} (h : (txt X).length ≤ 4898) : readS ((⟨#[48, 48]⟩ : ByteArray) ++ bstr (txt X)) = (digs X, 0) := by
  have e : byt ((⟨#[48, 48]⟩ : ByteArray) ++ bstr (txt X)) = 48 :: 48 :: txt X := by rw [byt_append, byt_bstr txt_lt]; rfl
  have hs : ((⟨#[48, 48]⟩ : ByteArray) ++ bstr (txt X)).size = (txt X).length + 2 := by rw [← byt_len, e]; rfl
  rw [readS_yes (by omega) (by omega) (by
    rw [e]
    intro b hb
    rcases List.mem_cons.mp hb with rfl | hb
    · rfl
    rcases List.mem_cons.mp hb with rfl | hb
    · rfl
    have := txt_digit hb; exact decide_eq_true this)]
  rw [e, num_zero, num_zero, num_txt]
theorem ring_of {f : FuncId} {args : Array Value} {h : Hp} {b : Bool} (hc : HC f args h fun v h' => Keep h h' ∧ sBool h h' v b) (e : b = true) {K : Bool → Hp → Prop} (g : ∀ h', Keep h h' → K true h') : HC f args h fun v h' => gBool v fun x => K x h' :=
  hc_intro hc fun v h' ⟨k, s⟩ => by
    have s : v = .bool b := s
    subst s; subst e; exact gBool_intro rfl (g h' k)
theorem digits_spec {a : Option Addr} {c l A : Nat} {h : Hp} (r : Rd h a c (digs A)) (hl : l = (digs A).length) (ha : (digs A).length ≤ 250) : HC gnomontop_digits.id #[.slice a l c] h fun v h' => Keep h h' ∧ sBool h h' v true := by
  subst hl
  refine gnomontop_digits.ok ?_
  unfold gnomontop_digits.t gnomontop_digits.D1.t
  refine hc_intro (Text_spec r rfl) fun v h2 ⟨k2, e⟩ => ?_
  subst e
  refine gTup_intro rfl (uncons_intro (gStr_intro rfl (uncons_intro (gInt_intro rfl (unnil_intro ?_)))))
  refine hc_intro (Bits_spec (r.keep k2) rfl) fun v h9 ⟨e1, e2⟩ => ?_
  subst e1; subst e2
  refine gInt_intro rfl ?_
  rw [val_digs]
  refine c_dec (fun _ => ⟨k2, rfl⟩) fun hb => ?_
  have hs := txt_short (A := A) (by omega)
  have et : textS (digs A) = (bstr (txt A), 0) := by
    unfold textS; rw [if_pos (frm_d (by omega)), val_digs, if_neg (by omega)]
  rw [et]
  refine hc_intro (Read_spec _ _) fun v h12 ⟨k12, an⟩ => ?_
  rw [readS_txt (by omega)] at an
  refine an.elimG fun a3 c3 g3 _ => ?_
  have hsz := bstr_size (txt A)
  refine ⟨?_, ?_⟩
  · show ((((2 : Nat) + (bstr (txt A)).size : Nat) : Int)) ≤ 9223372036854775807
    omega
  refine hc_intro (Read_spec _ _) fun v h19 ⟨k19, an⟩ => ?_
  rw [readS_00 hs] at an
  refine an.elimG fun a4 c4 g4 _ => ?_
  refine c_eq (fun _ => ?_) fun hh => absurd rfl hh
  refine c_eq (fun _ => ?_) fun hh => absurd rfl hh
  refine c_eq (fun _ => ?_) fun hh => absurd rfl hh
  have k19' := k2.trans (k12.trans k19)
  refine c_not (fun _ => ?_) fun hh => ?_
  · refine ring_of (gnomontop_same.hv (g3.keep k19).rd64 rfl (r.keep k19') rfl) (by simp) fun h26 k26 => ?_
    refine c_bool (fun _ => ?_) fun hh => absurd hh (by simp)
    refine ring_of (gnomontop_same.hv (g4.keep k26).rd64 rfl (r.keep (k19'.trans k26)) rfl) (by simp) fun h29 k29 => ?_
    exact ⟨k19'.trans (k26.trans k29), rfl⟩
  · exfalso
    have h0 : (txt A).length ≠ 0 := fun g => txt_ne A (List.length_eq_zero_iff.mp g)
    have ne : bstr (txt A) ≠ (⟨#[]⟩ : ByteArray) := fun g => h0 (by rw [← hsz, g]; rfl)
    have := c_str (s := bstr (txt A)) (t := (⟨#[]⟩ : ByteArray)) (A := False) (B := True) (fun g => absurd g ne) fun _ => trivial
    rw [hh] at this; exact this
theorem box2 {h : Hp} {t : TypeId} {zs : List Value} (hz : zs.length = 2) {x y : Value} {K : Addr → Hp → Prop} (g : ∀ h', BlkV h' h.size [x, y] → Keep h h' → K ⟨h.size, 0, none⟩ h') :
    boxK h t zs fun q h1 => stK h1 (q.add 0) x fun h2 => stK h2 (q.add 1) y fun h3 => K q h3 := by
  match zs, hz with
  | [u, w], _ =>
    refine boxV fun h1 o1 k1 => ?_
    refine stV o1 (Nat.le_of_ble_eq_true rfl) fun h2 o2 k2 => ?_
    refine stV o2 (Nat.le_of_ble_eq_true rfl) fun h3 o3 k3 => ?_
    exact g h3 o3 (KeepB.keep (KeepB.keep k1 k2 (Nat.le_refl _)) k3 (Nat.le_refl _))
theorem ldB {h : Hp} {b : Nat} {vs : List Value} (o : BlkV h b vs) {k : Nat} {x : Bool} (hk : vs[k]? = some (.bool x)) {K : Bool → Prop} (g : K x) : ldK h ((⟨b, 0, none⟩ : Addr).add k) fun v => gBool v K := ldV o hk (gBool_intro rfl g)
theorem zz_yes (A : Nat) : (decide ((((digs A).length : Nat) : Int) > 0), digs A) = zz (sg true A) := by
  rw [zz_sg, Bool.true_and, ← len_pos_digs]
  congr 1
  exact decide_eq_decide.mpr (by omega)
theorem zz_not (A : Nat) : (false, digs A) = zz (sg false A) := by rw [zz_sg, Bool.false_and]
section
variable {h0 h : Hp} {a b e0 e1 : Option Addr} {c d f0 f1 m0 m1 A B B1 B8 B9 : Nat} {p q na nb : Bool} {n : Int}
theorem wd_D5 (k0 : Keep h0 h) (o1 : BlkV h B1 [.slice e0 m0 f0, .slice e1 m1 f1, .bool na, .bool nb, .int .i64 n]) (o8 : BlkV h B8 [.bool p, .slice a (digs A).length c]) (o9 : BlkV h B9 [.bool q, .slice b (digs B).length d])
    (rA : Rd h a c (digs A)) (rB : Rd h b d (digs B)) (la : (digs A).length ≤ 250) (lb : (digs B).length ≤ 250) {s t : Bool} (eA : (p, digs A) = zz (sg s A)) (eB : (q, digs B) = zz (sg t B)) (ni : In .i64 n) (tb : Tab h) :
    gnomontop_WholeDivision.D5.t (fun v h' => Keep h0 h' ∧ v = .bool true) ⟨B1, 0, none⟩ ⟨B8, 0, none⟩ ⟨B9, 0, none⟩ h := by
  have t1 : gnomontop_quotients.v p (digs A) q (digs B) = true := by
    have := quotients_true (X := sg s A) (Y := sg t B) (by rw [sg_abs]; exact la) (by rw [sg_abs]; exact lb)
    rw [← eA, ← eB] at this; exact this
  have t2 : ∀ y : Nat, y < 20000 → gnomontop_shifts.v p (digs A) (y : Int) = true := fun y hy => by
    have := shifts_true (X := sg s A) (n := y) (by rw [sg_abs]; exact la) hy
    rw [← eA] at this; exact this
  unfold gnomontop_WholeDivision.D5.t
  refine ⟨o8.lt, ?_⟩
  refine ldB o8 rfl ?_
  refine ldS o8 rfl ?_
  refine ⟨o9.lt, ?_⟩
  refine ldB o9 rfl ?_
  refine ldS o9 rfl ?_
  refine ring_of (gnomontop_quotients.hv rA rfl rB rfl) t1 fun h1 k1 => ?_
  refine ⟨k1.preLe (Nat.le_refl _), ?_⟩
  refine c_bool (fun _ => ?_) fun hh => absurd hh (by simp)
  refine ⟨o8.lt, ?_⟩
  refine ldB (o8.keep k1) rfl ?_
  refine ldS (o8.keep k1) rfl ?_
  refine ⟨o1.addLt 4, ?_⟩
  refine ldI (o1.keep k1) rfl ?_
  refine hc_intro (gnomontop_among.hv ni (by decide) (by decide)) fun v h2 ⟨e, z, ev, hz⟩ => ?_
  subst e; subst ev
  refine gInt_intro rfl ⟨(Keep.refl _).preLe k1.le, ?_⟩
  refine ring_of (gnomontop_shifts.hv (rA.keep k1) rfl (in_i64.mpr (by omega)) (tb.keep k1)) (t2 z (by omega)) fun h3 k3 => ?_
  exact ⟨k3.preLe k1.le, k0.trans (k1.trans k3), rfl⟩
theorem wd_D4 (k0 : Keep h0 h) (o1 : BlkV h B1 [.slice e0 m0 f0, .slice e1 m1 f1, .bool na, .bool nb, .int .i64 n]) (o8 : BlkV h B8 [.bool p, .slice a (digs A).length c])
    (rA : Rd h a c (digs A)) (rB : Rd h b d (digs B)) (la : (digs A).length ≤ 250) (lb : (digs B).length ≤ 250) {s : Bool} (eA : (p, digs A) = zz (sg s A)) (ni : In .i64 n) (tb : Tab h) :
    gnomontop_WholeDivision.D4.t (fun v h' => Keep h0 h' ∧ v = .bool true) ⟨B1, 0, none⟩ b (digs B).length d ⟨B8, 0, none⟩ h := by
  unfold gnomontop_WholeDivision.D4.t
  refine ldB o1 rfl ?_
  refine c_bool (fun _ => ?_) fun _ => ?_
  · refine box2 rfl fun h1 o9 k1 => ?_
    exact wd_D5 (k0.trans k1) (o1.keep k1) (o8.keep k1) o9 (rA.keep k1) (rB.keep k1) la lb eA (zz_yes B) ni (tb.keep k1)
  · refine box2 rfl fun h1 o9 k1 => ?_
    exact wd_D5 (k0.trans k1) (o1.keep k1) (o8.keep k1) o9 (rA.keep k1) (rB.keep k1) la lb eA (zz_not B) ni (tb.keep k1)
theorem wd_D3 (k0 : Keep h0 h) (o1 : BlkV h B1 [.slice e0 m0 f0, .slice e1 m1 f1, .bool na, .bool nb, .int .i64 n])
    (rA : Rd h a c (digs A)) (rB : Rd h b d (digs B)) (la : (digs A).length ≤ 250) (lb : (digs B).length ≤ 250) (ni : In .i64 n) (tb : Tab h) :
    gnomontop_WholeDivision.D3.t (fun v h' => Keep h0 h' ∧ v = .bool true) ⟨B1, 0, none⟩ a (digs A).length c b (digs B).length d h := by
  unfold gnomontop_WholeDivision.D3.t
  refine ldB o1 rfl ?_
  refine c_bool (fun _ => ?_) fun _ => ?_
  · refine box2 rfl fun h1 o8 k1 => ?_
    exact wd_D4 (k0.trans k1) (o1.keep k1) o8 (rA.keep k1) (rB.keep k1) la lb (zz_yes A) ni (tb.keep k1)
  · refine box2 rfl fun h1 o8 k1 => ?_
    exact wd_D4 (k0.trans k1) (o1.keep k1) o8 (rA.keep k1) (rB.keep k1) la lb (zz_not A) ni (tb.keep k1)
theorem WholeDivision_run {l1 l2 : Nat} {xs ys : List Nat} (rA : Rd h a c xs) (hl1 : l1 = xs.length) (rB : Rd h b d ys) (hl2 : l2 = ys.length) (ni : In .i64 n) (tb : Tab h) :
    HC gnomontop_WholeDivision.id #[.agg #[.slice a l1 c, .slice b l2 d, .bool na, .bool nb, .int .i64 n]] h fun v h' => Keep h h' ∧ v = .bool true := by
  subst hl1; subst hl2
  refine gnomontop_WholeDivision.ok ?_
  unfold gnomontop_WholeDivision.t gnomontop_WholeDivision.D1.t
  refine boxV fun h2 o2 k2 => ?_
  refine box_intro [7] (by rfl) (by decide) (by decide) fun h4 o4 k4 => ?_
  refine box_intro [2] (by rfl) (by decide) (by decide) fun h6 o6 k6 => ?_
  have d7 : digs 7 = [7] := digs1 (by decide) (by decide)
  have d2 : digs 2 = [2] := digs1 (by decide) (by decide)
  have d3 : digs 3 = [3] := digs1 (by decide) (by decide)
  have d1 : digs 1 = [1] := digs1 (by decide) (by decide)
  have e1 : quoS [7] [2] = ([3], [1], 0) := by
    rw [← d7, ← d2, quoS_d (by rw [d7]; decide) (by rw [d2]; decide) (by decide), show 7 / 2 = 3 by rfl, show 7 % 2 = 1 by rfl, d3, d1]
  refine hc_intro (QuoRem_spec ((o4.rd (by decide)).keep k6) (o6.rd (by decide)) rfl rfl) fun v h8 ⟨k8, an⟩ => ?_
  rw [e1] at an
  refine an.elim fun a11 c11 b11 d11 g11 g11' => ?_
  refine c_ne (fun hh => absurd rfl hh) fun _ => ?_
  refine box_intro [3] (by rfl) (by decide) (by decide) fun h17 o17 k17 => ?_
  refine ring_of (gnomontop_same.hv (g11.keep k17).rd64 rfl (o17.rd (by decide)) rfl) (by simp) fun h19 k19 => ?_
  refine c_not (fun hh => absurd hh (by simp)) fun _ => ?_
  refine box_intro [1] (by rfl) (by decide) (by decide) fun h22 o22 k22 => ?_
  refine ring_of (gnomontop_same.hv (g11'.keep (k17.trans (k19.trans k22))).rd64 rfl (o22.rd (by decide)) rfl) (by simp) fun h24 k24 => ?_
  refine c_not (fun hh => absurd hh (by simp)) fun _ => ?_
  unfold gnomontop_WholeDivision.D2.t
  have k224 := k4.trans (k6.trans (k8.trans (k17.trans (k19.trans (k22.trans k24)))))
  have k024 := k2.trans k224
  have o24 := o2.keep k224
  refine ldS o24 rfl ?_
  refine hc_intro (gnomontop_natural.hv (n := 250) (by decide) (rA.keep k024) rfl rfl) fun v h29 ⟨k29, an⟩ => ?_
  refine AnsS.elim an fun p1 q1 r1 => ?_
  refine ldS (o24.keep k29) rfl ?_
  refine hc_intro (gnomontop_natural.hv (n := 250) (by decide) (rB.keep (k024.trans k29)) rfl rfl) fun v h34 ⟨k34, an⟩ => ?_
  refine AnsS.elim an fun p2 q2 r2 => ?_
  have lA := take_len 250 rA.words
  have lB := take_len 250 rB.words
  generalize val (xs.take 250) = A at *
  generalize val (ys.take 250) = B at *
  have r1 := r1.keep k34
  refine ring_of (gnomontop_divides.hv r1 rfl r2 rfl) (divides_true lA lB) fun h37 k37 => ?_
  refine c_not (fun hh => absurd hh (by simp)) fun _ => ?_
  refine ring_of (gnomontop_roots.hv (r1.keep k37) rfl) (roots_true lA) fun h40 k40 => ?_
  refine c_not (fun hh => absurd hh (by simp)) fun _ => ?_
  refine ring_of (digits_spec (r1.keep (k37.trans k40)) rfl lA) rfl fun h43 k43 => ?_
  refine c_not (fun hh => absurd hh (by simp)) fun _ => ?_
  have k3443 := k37.trans (k40.trans k43)
  have k2443 := k29.trans (k34.trans k3443)
  exact wd_D3 (k024.trans k2443) (o24.keep k2443) (r1.keep k3443) (r2.keep k3443) lA lB ni (tb.keep (k024.trans k2443))
end
theorem says_one {α β : Type} {S : Says α} {T : Says β} {h : Hp} {cs : List Value} {p : α × β} (z : saysCons S 1 T h cs p) : ∃ c rest, cs = c :: rest ∧ S h [c] p.1 ∧ T h rest p.2 := by
  obtain ⟨l, s, t⟩ := z
  cases cs with
  | nil => simp at l
  | cons c r => exact ⟨c, r, rfl, s, t⟩
abbrev saysDiv := saysCons saysWords 1 (saysCons saysWords 1 (saysCons saysBool 1 (saysCons saysBool 1 (saysCons (saysInt .i64) 1 saysEnd))))
theorem WholeDivision_law {h : Hp} {cs : Array Value} {x : List Nat × List Nat × Bool × Bool × Int × Unit} (z : saysDiv h cs.toList x) (tb : Tab h) :
    HC gnomontop_WholeDivision.id #[.agg cs] h fun v h' => Keep h h' ∧ v = .bool true := by
  obtain ⟨v0, t0, e0, ⟨a0, c0, f0, r0, _⟩, z⟩ := says_one z
  obtain ⟨v1, t1, e1, ⟨a1, c1, f1, r1, _⟩, z⟩ := says_one z
  obtain ⟨v2, t2, e2, f2, z⟩ := says_one z
  obtain ⟨v3, t3, e3, f3, z⟩ := says_one z
  obtain ⟨v4, t4, e4, ⟨f4, i4⟩, z⟩ := says_one z
  have z : t4 = [] := z
  have f2 : [v2] = [.bool x.2.2.1] := f2
  have f3 : [v3] = [.bool x.2.2.2.1] := f3
  simp only [List.cons.injEq, and_true] at f0 f1 f2 f3 f4
  subst f0 f1 f2 f3 f4
  rw [e1, e2, e3, e4, z] at e0
  have ec : cs = #[.slice a0 x.1.length c0, .slice a1 x.2.1.length c1, .bool x.2.2.1, .bool x.2.2.2.1, .int .i64 x.2.2.2.2.1] := Array.toList_inj.mp e0
  rw [ec]
  exact WholeDivision_run r0 rfl r1 rfl (in_wf i4) tb
end Go.Proofs.YtabkkcbpckcfnaaDoor.G
