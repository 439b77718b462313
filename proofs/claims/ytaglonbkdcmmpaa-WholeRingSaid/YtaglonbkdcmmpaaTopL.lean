/- Functions without loops as functions of values. Written by a program of this work. -/
import Derived.Test.YtaglonbkdcmmpaaTopA
namespace Go.Proofs.Ytaglonbkdcmmpaa.G
open Go.Gv
set_option linter.unusedVariables false
set_option maxRecDepth 100000
namespace gnomontop_ringSums
def D3.v (xs0 : List Nat) (xs1 : List Nat) : Bool :=
  letV (subS xs0 xs1) fun p_19 =>
  bif (decide (((cmpI (val xs0) (val xs1))) < (0 : Int))) then
    bif (p_19.2 == (3 : Int)) then
      (((cmpI (val xs1) (val xs0))) == (1 : Int))
    else
      false
  else
    bif (p_19.2 == (0 : Int)) then
      ((((cmpI (val xs0) (val xs1))) == (0 : Int)) == (decide (xs0 = xs1)))
    else
      false
theorem D3.hv {R : Rt} {h0 h : Hp} (k0 : Keep h0 h) {a0 : Option Addr} {c0 l0 : Nat} {xs0 : List Nat} (r0 : Rd h a0 c0 xs0) (e0 : l0 = xs0.length) {a1 : Option Addr} {c1 l1 : Nat} {xs1 : List Nat} (r1 : Rd h a1 c1 xs1) (e1 : l1 = xs1.length) (g : Post sBool h0 R (D3.v xs0 xs1)) : D3.t R a0 l0 c0 a1 l1 c1 h := by
  subst e0 e1
  unfold D3.v at g
  unfold D3.t
  refine hc_intro (nat_Sub.hv r0 rfl r1 rfl) fun v h_1 ⟨k_1, s⟩ => ?_
  replace g := lift_let g
  generalize hp_19 : subS xs0 xs1 = p_19 at s g
  obtain ⟨_, _, rfl, ⟨a_19_0, c_19_0, rfl, r_19_0⟩, ⟨rfl, i_19_1⟩⟩ := s
  refine gTup_intro rfl (uncons_intro (gSlice_intro rfl (uncons_intro (gInt_intro rfl (unnil_intro (?_))))))
  refine hc_intro (nat_Cmp.hv (r0.keep (k_1)) rfl (r1.keep (k_1)) rfl) fun v h_2 ⟨k_2, s⟩ => ?_
  obtain ⟨rfl, i_20⟩ := s
  refine gInt_intro rfl (?_)
  refine lift_dec g (fun q_21 g => ?_) (fun q_21 g => ?_)
  · refine lift_eq g (fun q_22 g => ?_) (fun q_22 g => ?_)
    · refine hc_intro (nat_Cmp.hv (r1.keep (k_1.trans k_2)) rfl (r0.keep (k_1.trans k_2)) rfl) fun v h_3 ⟨k_3, s⟩ => ?_
      obtain ⟨rfl, i_23⟩ := s
      refine gInt_intro rfl (?_)
      exact g _ _ (k0.trans (k_1.trans (k_2.trans k_3))) rfl
    · exact g _ _ (k0.trans (k_1.trans k_2)) rfl
  · refine lift_eq g (fun q_24 g => ?_) (fun q_24 g => ?_)
    · refine hc_intro (gnomontop_same.hv (r0.keep (k_1.trans k_2)) rfl (r1.keep (k_1.trans k_2)) rfl) fun v h_3 ⟨k_3, s⟩ => ?_
      obtain rfl := s
      refine gBool_intro rfl (?_)
      exact g _ _ (k0.trans (k_1.trans (k_2.trans k_3))) rfl
    · exact g _ _ (k0.trans (k_1.trans k_2)) rfl
def D2.v (xs0 : List Nat) (xs1 : List Nat) (xs7 : List Nat) (xs9 : List Nat) (xs11 : List Nat) (xs13 : List Nat) (xs17 : List Nat) : Bool :=
  bif (!(decide (xs7 = xs9))) then
    false
  else
    bif (!(decide (xs11 = xs0))) then
      false
    else
      bif (!(decide (xs13 = xs17))) then
        false
      else
        D3.v xs0 xs1
theorem D2.hv {R : Rt} {h0 h : Hp} (k0 : Keep h0 h) {a0 : Option Addr} {c0 l0 : Nat} {xs0 : List Nat} (r0 : Rd h a0 c0 xs0) (e0 : l0 = xs0.length) {a1 : Option Addr} {c1 l1 : Nat} {xs1 : List Nat} (r1 : Rd h a1 c1 xs1) (e1 : l1 = xs1.length) {a7 : Option Addr} {c7 l7 : Nat} {xs7 : List Nat} (r7 : GotE eU64 h0 h a7 c7 xs7) (e7 : l7 = xs7.length) {a9 : Option Addr} {c9 l9 : Nat} {xs9 : List Nat} (r9 : GotE eU64 h0 h a9 c9 xs9) (e9 : l9 = xs9.length) {a11 : Option Addr} {c11 l11 : Nat} {xs11 : List Nat} (r11 : GotE eU64 h0 h a11 c11 xs11) (e11 : l11 = xs11.length) {a13 : Option Addr} {c13 l13 : Nat} {xs13 : List Nat} (r13 : GotE eU64 h0 h a13 c13 xs13) (e13 : l13 = xs13.length) {a17 : Option Addr} {c17 l17 : Nat} {xs17 : List Nat} (r17 : GotE eU64 h0 h a17 c17 xs17) (e17 : l17 = xs17.length) (g : Post sBool h0 R (D2.v xs0 xs1 xs7 xs9 xs11 xs13 xs17)) : D2.t R a0 l0 c0 a1 l1 c1 a7 l7 c7 a9 l9 c9 a11 l11 c11 a13 l13 c13 a17 l17 c17 h := by
  subst e0 e1 e7 e9 e11 e13 e17
  unfold D2.v at g
  unfold D2.t
  refine hc_intro (gnomontop_same.hv r7.rd64 rfl r9.rd64 rfl) fun v h_1 ⟨k_1, s⟩ => ?_
  obtain rfl := s
  refine gBool_intro rfl (?_)
  refine lift_not g (fun q_14 g => ?_) (fun q_14 g => ?_)
  · exact g _ _ (k0.trans (k_1)) rfl
  · refine hc_intro (gnomontop_same.hv (r11.keep (k_1)).rd64 rfl (r0.keep (k_1)) rfl) fun v h_2 ⟨k_2, s⟩ => ?_
    obtain rfl := s
    refine gBool_intro rfl (?_)
    refine lift_not g (fun q_16 g => ?_) (fun q_16 g => ?_)
    · exact g _ _ (k0.trans (k_1.trans k_2)) rfl
    · refine hc_intro (gnomontop_same.hv (r13.keep (k_1.trans k_2)).rd64 rfl (r17.keep (k_1.trans k_2)).rd64 rfl) fun v h_3 ⟨k_3, s⟩ => ?_
      obtain rfl := s
      refine gBool_intro rfl (?_)
      refine lift_not g (fun q_18 g => ?_) (fun q_18 g => ?_)
      · exact g _ _ (k0.trans (k_1.trans (k_2.trans k_3))) rfl
      · exact D3.hv (k0.trans (k_1.trans (k_2.trans k_3))) (r0.keep (k_1.trans (k_2.trans k_3))) rfl (r1.keep (k_1.trans (k_2.trans k_3))) rfl g
def D1.v (xs0 : List Nat) (xs1 : List Nat) (xs2 : List Nat) : Bool :=
  letV (addS xs0 xs1) fun p_1 =>
  letV (addS xs1 xs0) fun p_2 =>
  letV (subS p_1.1 xs1) fun p_3 =>
  letV (addS p_1.1 xs2) fun p_4 =>
  letV (addS xs1 xs2) fun p_5 =>
  letV (addS xs0 p_5.1) fun p_6 =>
  bif (p_1.2 != (0 : Int)) then
    false
  else
    bif (p_2.2 != (0 : Int)) then
      false
    else
      bif (p_3.2 != (0 : Int)) then
        false
      else
        bif (p_4.2 != (0 : Int)) then
          false
        else
          bif (p_5.2 != (0 : Int)) then
            false
          else
            bif (p_6.2 != (0 : Int)) then
              false
            else
              D2.v xs0 xs1 p_1.1 p_2.1 p_3.1 p_4.1 p_6.1
theorem D1.hv {R : Rt} {h0 h : Hp} (k0 : Keep h0 h) {a0 : Option Addr} {c0 l0 : Nat} {xs0 : List Nat} (r0 : Rd h a0 c0 xs0) (e0 : l0 = xs0.length) {a1 : Option Addr} {c1 l1 : Nat} {xs1 : List Nat} (r1 : Rd h a1 c1 xs1) (e1 : l1 = xs1.length) {a2 : Option Addr} {c2 l2 : Nat} {xs2 : List Nat} (r2 : Rd h a2 c2 xs2) (e2 : l2 = xs2.length) (g : Post sBool h0 R (D1.v xs0 xs1 xs2)) : D1.t R a0 l0 c0 a1 l1 c1 a2 l2 c2 h := by
  subst e0 e1 e2
  unfold D1.v at g
  unfold D1.t
  refine hc_intro (nat_Add.hv r0 rfl r1 rfl) fun v h_1 ⟨k_1, s⟩ => ?_
  replace g := lift_let g
  generalize hp_1 : addS xs0 xs1 = p_1 at s g
  obtain ⟨_, _, rfl, ⟨a_1_0, c_1_0, rfl, r_1_0⟩, ⟨rfl, i_1_1⟩⟩ := s
  refine gTup_intro rfl (uncons_intro (gSlice_intro rfl (uncons_intro (gInt_intro rfl (unnil_intro (?_))))))
  refine hc_intro (nat_Add.hv (r1.keep (k_1)) rfl (r0.keep (k_1)) rfl) fun v h_2 ⟨k_2, s⟩ => ?_
  replace g := lift_let g
  generalize hp_2 : addS xs1 xs0 = p_2 at s g
  obtain ⟨_, _, rfl, ⟨a_2_0, c_2_0, rfl, r_2_0⟩, ⟨rfl, i_2_1⟩⟩ := s
  refine gTup_intro rfl (uncons_intro (gSlice_intro rfl (uncons_intro (gInt_intro rfl (unnil_intro (?_))))))
  refine hc_intro (nat_Sub.hv (r_1_0.keep (k_2)).rd64 rfl (r1.keep (k_1.trans k_2)) rfl) fun v h_3 ⟨k_3, s⟩ => ?_
  replace g := lift_let g
  generalize hp_3 : subS p_1.1 xs1 = p_3 at s g
  obtain ⟨_, _, rfl, ⟨a_3_0, c_3_0, rfl, r_3_0⟩, ⟨rfl, i_3_1⟩⟩ := s
  refine gTup_intro rfl (uncons_intro (gSlice_intro rfl (uncons_intro (gInt_intro rfl (unnil_intro (?_))))))
  refine hc_intro (nat_Add.hv (r_1_0.keep (k_2.trans k_3)).rd64 rfl (r2.keep (k_1.trans (k_2.trans k_3))) rfl) fun v h_4 ⟨k_4, s⟩ => ?_
  replace g := lift_let g
  generalize hp_4 : addS p_1.1 xs2 = p_4 at s g
  obtain ⟨_, _, rfl, ⟨a_4_0, c_4_0, rfl, r_4_0⟩, ⟨rfl, i_4_1⟩⟩ := s
  refine gTup_intro rfl (uncons_intro (gSlice_intro rfl (uncons_intro (gInt_intro rfl (unnil_intro (?_))))))
  refine hc_intro (nat_Add.hv (r1.keep (k_1.trans (k_2.trans (k_3.trans k_4)))) rfl (r2.keep (k_1.trans (k_2.trans (k_3.trans k_4)))) rfl) fun v h_5 ⟨k_5, s⟩ => ?_
  replace g := lift_let g
  generalize hp_5 : addS xs1 xs2 = p_5 at s g
  obtain ⟨_, _, rfl, ⟨a_5_0, c_5_0, rfl, r_5_0⟩, ⟨rfl, i_5_1⟩⟩ := s
  refine gTup_intro rfl (uncons_intro (gSlice_intro rfl (uncons_intro (gInt_intro rfl (unnil_intro (?_))))))
  refine hc_intro (nat_Add.hv (r0.keep (k_1.trans (k_2.trans (k_3.trans (k_4.trans k_5))))) rfl r_5_0.rd64 rfl) fun v h_6 ⟨k_6, s⟩ => ?_
  replace g := lift_let g
  generalize hp_6 : addS xs0 p_5.1 = p_6 at s g
  obtain ⟨_, _, rfl, ⟨a_6_0, c_6_0, rfl, r_6_0⟩, ⟨rfl, i_6_1⟩⟩ := s
  refine gTup_intro rfl (uncons_intro (gSlice_intro rfl (uncons_intro (gInt_intro rfl (unnil_intro (?_))))))
  refine lift_ne g (fun q_7 g => ?_) (fun q_7 g => ?_)
  · exact g _ _ (k0.trans (k_1.trans (k_2.trans (k_3.trans (k_4.trans (k_5.trans k_6)))))) rfl
  · refine lift_ne g (fun q_8 g => ?_) (fun q_8 g => ?_)
    · exact g _ _ (k0.trans (k_1.trans (k_2.trans (k_3.trans (k_4.trans (k_5.trans k_6)))))) rfl
    · refine lift_ne g (fun q_9 g => ?_) (fun q_9 g => ?_)
      · exact g _ _ (k0.trans (k_1.trans (k_2.trans (k_3.trans (k_4.trans (k_5.trans k_6)))))) rfl
      · refine lift_ne g (fun q_10 g => ?_) (fun q_10 g => ?_)
        · exact g _ _ (k0.trans (k_1.trans (k_2.trans (k_3.trans (k_4.trans (k_5.trans k_6)))))) rfl
        · refine lift_ne g (fun q_11 g => ?_) (fun q_11 g => ?_)
          · exact g _ _ (k0.trans (k_1.trans (k_2.trans (k_3.trans (k_4.trans (k_5.trans k_6)))))) rfl
          · refine lift_ne g (fun q_12 g => ?_) (fun q_12 g => ?_)
            · exact g _ _ (k0.trans (k_1.trans (k_2.trans (k_3.trans (k_4.trans (k_5.trans k_6)))))) rfl
            · exact D2.hv (k0.trans (k_1.trans (k_2.trans (k_3.trans (k_4.trans (k_5.trans k_6)))))) (r0.keep (k_1.trans (k_2.trans (k_3.trans (k_4.trans (k_5.trans k_6)))))) rfl (r1.keep (k_1.trans (k_2.trans (k_3.trans (k_4.trans (k_5.trans k_6)))))) rfl ((r_1_0.from (k0).le).keep (k_2.trans (k_3.trans (k_4.trans (k_5.trans k_6))))) rfl ((r_2_0.from (k0.trans (k_1)).le).keep (k_3.trans (k_4.trans (k_5.trans k_6)))) rfl ((r_3_0.from (k0.trans (k_1.trans k_2)).le).keep (k_4.trans (k_5.trans k_6))) rfl ((r_4_0.from (k0.trans (k_1.trans (k_2.trans k_3))).le).keep (k_5.trans k_6)) rfl (r_6_0.from (k0.trans (k_1.trans (k_2.trans (k_3.trans (k_4.trans k_5))))).le) rfl g
def v (xs0 : List Nat) (xs1 : List Nat) (xs2 : List Nat) : Bool := D1.v xs0 xs1 xs2
theorem hv {h : Hp} {a0 : Option Addr} {c0 l0 : Nat} {xs0 : List Nat} (r0 : Rd h a0 c0 xs0) (e0 : l0 = xs0.length) {a1 : Option Addr} {c1 l1 : Nat} {xs1 : List Nat} (r1 : Rd h a1 c1 xs1) (e1 : l1 = xs1.length) {a2 : Option Addr} {c2 l2 : Nat} {xs2 : List Nat} (r2 : Rd h a2 c2 xs2) (e2 : l2 = xs2.length) : HC id #[.slice a0 l0 c0, .slice a1 l1 c1, .slice a2 l2 c2] h fun v_ h_ => Keep h h_ ∧ sBool h h_ v_ (v xs0 xs1 xs2) :=
  ok (D1.hv (Keep.refl _) r0 e0 r1 e1 r2 e2 fun v h' k s => ⟨k, s⟩)
end gnomontop_ringSums

namespace gnomontop_ringParts
def D1.v (xs0 : List Nat) (xs1 : List Nat) (x2 : Int) : Bool :=
  letV (partsS xs0 xs1 x2) fun p_1 =>
  letV (shlS p_1.2.1 ((IntKind.i64.wrap ((64 : Int) * x2)))) fun p_2 =>
  letV (shlS p_1.2.2.1 ((IntKind.i64.wrap ((128 : Int) * x2)))) fun p_3 =>
  letV (addS p_1.1 p_2.1) fun p_4 =>
  letV (addS p_4.1 p_3.1) fun p_5 =>
  letV (mulS xs0 xs1) fun p_6 =>
  bif (p_1.2.2.2 == (0 : Int)) then
    bif (p_2.2 == (0 : Int)) then
      bif (p_3.2 == (0 : Int)) then
        bif (p_4.2 == (0 : Int)) then
          bif (p_5.2 == (0 : Int)) then
            bif (p_6.2 == (0 : Int)) then
              (decide (p_5.1 = p_6.1))
            else
              false
          else
            false
        else
          false
      else
        false
    else
      false
  else
    false
theorem D1.hv {R : Rt} {h0 h : Hp} (k0 : Keep h0 h) {a0 : Option Addr} {c0 l0 : Nat} {xs0 : List Nat} (r0 : Rd h a0 c0 xs0) (e0 : l0 = xs0.length) {a1 : Option Addr} {c1 l1 : Nat} {xs1 : List Nat} (r1 : Rd h a1 c1 xs1) (e1 : l1 = xs1.length) {x2 : Int} (i2 : In .i64 x2) (g : Post sBool h0 R (D1.v xs0 xs1 x2)) : D1.t R a0 l0 c0 a1 l1 c1 x2 h := by
  subst e0 e1
  unfold D1.v at g
  unfold D1.t
  refine hc_intro (natmul_Parts.hv r0 rfl r1 rfl i2) fun v h_1 ⟨k_1, s⟩ => ?_
  replace g := lift_let g
  generalize hp_1 : partsS xs0 xs1 x2 = p_1 at s g
  obtain ⟨_, _, _, _, rfl, ⟨a_1_0, c_1_0, rfl, r_1_0⟩, ⟨a_1_1, c_1_1, rfl, r_1_1⟩, ⟨a_1_2, c_1_2, rfl, r_1_2⟩, ⟨rfl, i_1_3⟩⟩ := s
  refine gTup_intro rfl (uncons_intro (gSlice_intro rfl (uncons_intro (gSlice_intro rfl (uncons_intro (gSlice_intro rfl (uncons_intro (gInt_intro rfl (unnil_intro (?_))))))))))
  refine letK_out ?_
  refine hc_intro (nat_Shl.hv r_1_1.rd64 rfl (in_wrap _ _)) fun v h_2 ⟨k_2, s⟩ => ?_
  replace g := lift_let g
  generalize hp_2 : shlS p_1.2.1 ((IntKind.i64.wrap ((64 : Int) * x2))) = p_2 at s g
  obtain ⟨_, _, rfl, ⟨a_2_0, c_2_0, rfl, r_2_0⟩, ⟨rfl, i_2_1⟩⟩ := s
  refine gTup_intro rfl (uncons_intro (gSlice_intro rfl (uncons_intro (gInt_intro rfl (unnil_intro (?_))))))
  refine letK_out ?_
  refine hc_intro (nat_Shl.hv (r_1_2.keep (k_2)).rd64 rfl (in_wrap _ _)) fun v h_3 ⟨k_3, s⟩ => ?_
  replace g := lift_let g
  generalize hp_3 : shlS p_1.2.2.1 ((IntKind.i64.wrap ((128 : Int) * x2))) = p_3 at s g
  obtain ⟨_, _, rfl, ⟨a_3_0, c_3_0, rfl, r_3_0⟩, ⟨rfl, i_3_1⟩⟩ := s
  refine gTup_intro rfl (uncons_intro (gSlice_intro rfl (uncons_intro (gInt_intro rfl (unnil_intro (?_))))))
  refine hc_intro (nat_Add.hv (r_1_0.keep (k_2.trans k_3)).rd64 rfl (r_2_0.keep (k_3)).rd64 rfl) fun v h_4 ⟨k_4, s⟩ => ?_
  replace g := lift_let g
  generalize hp_4 : addS p_1.1 p_2.1 = p_4 at s g
  obtain ⟨_, _, rfl, ⟨a_4_0, c_4_0, rfl, r_4_0⟩, ⟨rfl, i_4_1⟩⟩ := s
  refine gTup_intro rfl (uncons_intro (gSlice_intro rfl (uncons_intro (gInt_intro rfl (unnil_intro (?_))))))
  refine hc_intro (nat_Add.hv r_4_0.rd64 rfl (r_3_0.keep (k_4)).rd64 rfl) fun v h_5 ⟨k_5, s⟩ => ?_
  replace g := lift_let g
  generalize hp_5 : addS p_4.1 p_3.1 = p_5 at s g
  obtain ⟨_, _, rfl, ⟨a_5_0, c_5_0, rfl, r_5_0⟩, ⟨rfl, i_5_1⟩⟩ := s
  refine gTup_intro rfl (uncons_intro (gSlice_intro rfl (uncons_intro (gInt_intro rfl (unnil_intro (?_))))))
  refine hc_intro (natmul_Mul.hv (r0.keep (k_1.trans (k_2.trans (k_3.trans (k_4.trans k_5))))) rfl (r1.keep (k_1.trans (k_2.trans (k_3.trans (k_4.trans k_5))))) rfl) fun v h_6 ⟨k_6, s⟩ => ?_
  replace g := lift_let g
  generalize hp_6 : mulS xs0 xs1 = p_6 at s g
  obtain ⟨_, _, rfl, ⟨a_6_0, c_6_0, rfl, r_6_0⟩, ⟨rfl, i_6_1⟩⟩ := s
  refine gTup_intro rfl (uncons_intro (gSlice_intro rfl (uncons_intro (gInt_intro rfl (unnil_intro (?_))))))
  refine lift_eq g (fun q_7 g => ?_) (fun q_7 g => ?_)
  · refine lift_eq g (fun q_8 g => ?_) (fun q_8 g => ?_)
    · refine lift_eq g (fun q_9 g => ?_) (fun q_9 g => ?_)
      · refine lift_eq g (fun q_10 g => ?_) (fun q_10 g => ?_)
        · refine lift_eq g (fun q_11 g => ?_) (fun q_11 g => ?_)
          · refine lift_eq g (fun q_12 g => ?_) (fun q_12 g => ?_)
            · refine hc_intro (gnomontop_same.hv (r_5_0.keep (k_6)).rd64 rfl r_6_0.rd64 rfl) fun v h_7 ⟨k_7, s⟩ => ?_
              obtain rfl := s
              refine gBool_intro rfl (?_)
              exact g _ _ (k0.trans (k_1.trans (k_2.trans (k_3.trans (k_4.trans (k_5.trans (k_6.trans k_7))))))) rfl
            · exact g _ _ (k0.trans (k_1.trans (k_2.trans (k_3.trans (k_4.trans (k_5.trans k_6)))))) rfl
          · exact g _ _ (k0.trans (k_1.trans (k_2.trans (k_3.trans (k_4.trans (k_5.trans k_6)))))) rfl
        · exact g _ _ (k0.trans (k_1.trans (k_2.trans (k_3.trans (k_4.trans (k_5.trans k_6)))))) rfl
      · exact g _ _ (k0.trans (k_1.trans (k_2.trans (k_3.trans (k_4.trans (k_5.trans k_6)))))) rfl
    · exact g _ _ (k0.trans (k_1.trans (k_2.trans (k_3.trans (k_4.trans (k_5.trans k_6)))))) rfl
  · exact g _ _ (k0.trans (k_1.trans (k_2.trans (k_3.trans (k_4.trans (k_5.trans k_6)))))) rfl
def v (xs0 : List Nat) (xs1 : List Nat) (x2 : Int) : Bool := D1.v xs0 xs1 x2
theorem hv {h : Hp} {a0 : Option Addr} {c0 l0 : Nat} {xs0 : List Nat} (r0 : Rd h a0 c0 xs0) (e0 : l0 = xs0.length) {a1 : Option Addr} {c1 l1 : Nat} {xs1 : List Nat} (r1 : Rd h a1 c1 xs1) (e1 : l1 = xs1.length) {x2 : Int} (i2 : In .i64 x2) : HC id #[.slice a0 l0 c0, .slice a1 l1 c1, .int .i64 x2] h fun v_ h_ => Keep h h_ ∧ sBool h h_ v_ (v xs0 xs1 x2) :=
  ok (D1.hv (Keep.refl _) r0 e0 r1 e1 i2 fun v h' k s => ⟨k, s⟩)
end gnomontop_ringParts

namespace gnomontop_ringWords
def D4.v (xs0 : List Nat) (x2 : Int) (xs18 : List Nat) (xs20 : List Nat) : Bool :=
  bif (decide (((((blen (val xs20) : Nat) : Int))) ≤ x2)) then
    (((((blen (val xs18) : Nat) : Int))) == ((if (0 : Int) > ((IntKind.i64.wrap (((((blen (val xs0) : Nat) : Int))) - x2))) then (0 : Int) else ((IntKind.i64.wrap (((((blen (val xs0) : Nat) : Int))) - x2))))))
  else
    false
theorem D4.hv {R : Rt} {h0 h : Hp} (k0 : Keep h0 h) {a0 : Option Addr} {c0 l0 : Nat} {xs0 : List Nat} (r0 : Rd h a0 c0 xs0) (e0 : l0 = xs0.length) {x2 : Int} (i2 : In .i64 x2) {a18 : Option Addr} {c18 l18 : Nat} {xs18 : List Nat} (r18 : GotE eU64 h0 h a18 c18 xs18) (e18 : l18 = xs18.length) {a20 : Option Addr} {c20 l20 : Nat} {xs20 : List Nat} (r20 : GotE eU64 h0 h a20 c20 xs20) (e20 : l20 = xs20.length) (g : Post sBool h0 R (D4.v xs0 x2 xs18 xs20)) : D4.t R a0 l0 c0 x2 a18 l18 c18 a20 l20 c20 h := by
  subst e0 e18 e20
  unfold D4.v at g
  unfold D4.t
  refine hc_intro (nat_Bits.hv r20.rd64 rfl) fun v h_1 ⟨k_1, s⟩ => ?_
  obtain ⟨rfl, i_34⟩ := s
  refine gInt_intro rfl (?_)
  refine lift_dec g (fun q_35 g => ?_) (fun q_35 g => ?_)
  · refine hc_intro (nat_Bits.hv (r18.keep (k_1)).rd64 rfl) fun v h_2 ⟨k_2, s⟩ => ?_
    obtain ⟨rfl, i_36⟩ := s
    refine gInt_intro rfl (?_)
    refine hc_intro (nat_Bits.hv (r0.keep (k_1.trans k_2)) rfl) fun v h_3 ⟨k_3, s⟩ => ?_
    obtain ⟨rfl, i_37⟩ := s
    refine gInt_intro rfl (?_)
    refine letK_out ?_
    exact g _ _ (k0.trans (k_1.trans (k_2.trans k_3))) rfl
  · exact g _ _ (k0.trans (k_1)) rfl
def D3.v (xs0 : List Nat) (x2 : Int) : Bool :=
  letV (shrS xs0 x2) fun p_24 =>
  letV (lowS xs0 x2) fun p_25 =>
  letV (shlS p_24.1 x2) fun p_26 =>
  letV (addS p_26.1 p_25.1) fun p_27 =>
  bif (p_24.2 != (0 : Int)) then
    false
  else
    bif (p_25.2 != (0 : Int)) then
      false
    else
      bif (p_26.2 != (0 : Int)) then
        false
      else
        bif (p_27.2 != (0 : Int)) then
          false
        else
          bif (!(decide (p_27.1 = xs0))) then
            false
          else
            D4.v xs0 x2 p_24.1 p_25.1
theorem D3.hv {R : Rt} {h0 h : Hp} (k0 : Keep h0 h) {a0 : Option Addr} {c0 l0 : Nat} {xs0 : List Nat} (r0 : Rd h a0 c0 xs0) (e0 : l0 = xs0.length) {x2 : Int} (i2 : In .i64 x2) (g : Post sBool h0 R (D3.v xs0 x2)) : D3.t R a0 l0 c0 x2 h := by
  subst e0
  unfold D3.v at g
  unfold D3.t
  refine hc_intro (nat_Shr.hv r0 rfl i2) fun v h_1 ⟨k_1, s⟩ => ?_
  replace g := lift_let g
  generalize hp_24 : shrS xs0 x2 = p_24 at s g
  obtain ⟨_, _, rfl, ⟨a_24_0, c_24_0, rfl, r_24_0⟩, ⟨rfl, i_24_1⟩⟩ := s
  refine gTup_intro rfl (uncons_intro (gSlice_intro rfl (uncons_intro (gInt_intro rfl (unnil_intro (?_))))))
  refine hc_intro (nat_Low.hv (r0.keep (k_1)) rfl i2) fun v h_2 ⟨k_2, s⟩ => ?_
  replace g := lift_let g
  generalize hp_25 : lowS xs0 x2 = p_25 at s g
  obtain ⟨_, _, rfl, ⟨a_25_0, c_25_0, rfl, r_25_0⟩, ⟨rfl, i_25_1⟩⟩ := s
  refine gTup_intro rfl (uncons_intro (gSlice_intro rfl (uncons_intro (gInt_intro rfl (unnil_intro (?_))))))
  refine hc_intro (nat_Shl.hv (r_24_0.keep (k_2)).rd64 rfl i2) fun v h_3 ⟨k_3, s⟩ => ?_
  replace g := lift_let g
  generalize hp_26 : shlS p_24.1 x2 = p_26 at s g
  obtain ⟨_, _, rfl, ⟨a_26_0, c_26_0, rfl, r_26_0⟩, ⟨rfl, i_26_1⟩⟩ := s
  refine gTup_intro rfl (uncons_intro (gSlice_intro rfl (uncons_intro (gInt_intro rfl (unnil_intro (?_))))))
  refine hc_intro (nat_Add.hv r_26_0.rd64 rfl (r_25_0.keep (k_3)).rd64 rfl) fun v h_4 ⟨k_4, s⟩ => ?_
  replace g := lift_let g
  generalize hp_27 : addS p_26.1 p_25.1 = p_27 at s g
  obtain ⟨_, _, rfl, ⟨a_27_0, c_27_0, rfl, r_27_0⟩, ⟨rfl, i_27_1⟩⟩ := s
  refine gTup_intro rfl (uncons_intro (gSlice_intro rfl (uncons_intro (gInt_intro rfl (unnil_intro (?_))))))
  refine lift_ne g (fun q_28 g => ?_) (fun q_28 g => ?_)
  · exact g _ _ (k0.trans (k_1.trans (k_2.trans (k_3.trans k_4)))) rfl
  · refine lift_ne g (fun q_29 g => ?_) (fun q_29 g => ?_)
    · exact g _ _ (k0.trans (k_1.trans (k_2.trans (k_3.trans k_4)))) rfl
    · refine lift_ne g (fun q_30 g => ?_) (fun q_30 g => ?_)
      · exact g _ _ (k0.trans (k_1.trans (k_2.trans (k_3.trans k_4)))) rfl
      · refine lift_ne g (fun q_31 g => ?_) (fun q_31 g => ?_)
        · exact g _ _ (k0.trans (k_1.trans (k_2.trans (k_3.trans k_4)))) rfl
        · refine hc_intro (gnomontop_same.hv r_27_0.rd64 rfl (r0.keep (k_1.trans (k_2.trans (k_3.trans k_4)))) rfl) fun v h_5 ⟨k_5, s⟩ => ?_
          obtain rfl := s
          refine gBool_intro rfl (?_)
          refine lift_not g (fun q_33 g => ?_) (fun q_33 g => ?_)
          · exact g _ _ (k0.trans (k_1.trans (k_2.trans (k_3.trans (k_4.trans k_5))))) rfl
          · exact D4.hv (k0.trans (k_1.trans (k_2.trans (k_3.trans (k_4.trans k_5))))) (r0.keep (k_1.trans (k_2.trans (k_3.trans (k_4.trans k_5))))) rfl i2 ((r_24_0.from (k0).le).keep (k_2.trans (k_3.trans (k_4.trans k_5)))) rfl ((r_25_0.from (k0.trans (k_1)).le).keep (k_3.trans (k_4.trans k_5))) rfl g
def D2.v (xs0 : List Nat) (x1 : Int) (x2 : Int) (xs7 : List Nat) : Bool :=
  bif (decide (x1 > (0 : Int))) then
    letV (divWS xs7 (Int.toNat x1)) fun p_9 =>
    bif (p_9.2.2 != (0 : Int)) then
      false
    else
      bif (p_9.2.1 != (0 : Int)) then
        false
      else
        bif (!(decide (p_9.1 = xs0))) then
          false
        else
          letV (divWS xs0 (Int.toNat x1)) fun p_14 =>
          letV (mulWS p_14.1 (Int.toNat x1)) fun p_15 =>
          letV (digs (Int.toNat p_14.2.1)) fun p_16 =>
          letV (addS p_15.1 p_16) fun p_17 =>
          bif (p_14.2.2 != (0 : Int)) then
            false
          else
            bif (p_15.2 != (0 : Int)) then
              false
            else
              bif (p_17.2 != (0 : Int)) then
                false
              else
                bif (decide (p_14.2.1 ≥ x1)) then
                  false
                else
                  bif (!(decide (p_17.1 = xs0))) then
                    false
                  else
                    D3.v xs0 x2
  else
    D3.v xs0 x2
theorem D2.hv {R : Rt} {h0 h : Hp} (k0 : Keep h0 h) {a0 : Option Addr} {c0 l0 : Nat} {xs0 : List Nat} (r0 : Rd h a0 c0 xs0) (e0 : l0 = xs0.length) {x1 : Int} (i1 : In .u64 x1) {x2 : Int} (i2 : In .i64 x2) {a7 : Option Addr} {c7 l7 : Nat} {xs7 : List Nat} (r7 : GotE eU64 h0 h a7 c7 xs7) (e7 : l7 = xs7.length) (g : Post sBool h0 R (D2.v xs0 x1 x2 xs7)) : D2.t R a0 l0 c0 x1 x2 a7 l7 c7 h := by
  subst e0 e7
  unfold D2.v at g
  unfold D2.t
  refine lift_dec g (fun q_8 g => ?_) (fun q_8 g => ?_)
  · refine hc_intro (nat_DivWord.hv r7.rd64 rfl i1) fun v h_1 ⟨k_1, s⟩ => ?_
    replace g := lift_let g
    generalize hp_9 : divWS xs7 (Int.toNat x1) = p_9 at s g
    obtain ⟨_, _, _, rfl, ⟨a_9_0, c_9_0, rfl, r_9_0⟩, ⟨rfl, i_9_1⟩, ⟨rfl, i_9_2⟩⟩ := s
    refine gTup_intro rfl (uncons_intro (gSlice_intro rfl (uncons_intro (gInt_intro rfl (uncons_intro (gInt_intro rfl (unnil_intro (?_))))))))
    refine lift_ne g (fun q_10 g => ?_) (fun q_10 g => ?_)
    · exact g _ _ (k0.trans (k_1)) rfl
    · refine lift_ne g (fun q_11 g => ?_) (fun q_11 g => ?_)
      · exact g _ _ (k0.trans (k_1)) rfl
      · refine hc_intro (gnomontop_same.hv r_9_0.rd64 rfl (r0.keep (k_1)) rfl) fun v h_2 ⟨k_2, s⟩ => ?_
        obtain rfl := s
        refine gBool_intro rfl (?_)
        refine lift_not g (fun q_13 g => ?_) (fun q_13 g => ?_)
        · exact g _ _ (k0.trans (k_1.trans k_2)) rfl
        · refine hc_intro (nat_DivWord.hv (r0.keep (k_1.trans k_2)) rfl i1) fun v h_3 ⟨k_3, s⟩ => ?_
          replace g := lift_let g
          generalize hp_14 : divWS xs0 (Int.toNat x1) = p_14 at s g
          obtain ⟨_, _, _, rfl, ⟨a_14_0, c_14_0, rfl, r_14_0⟩, ⟨rfl, i_14_1⟩, ⟨rfl, i_14_2⟩⟩ := s
          refine gTup_intro rfl (uncons_intro (gSlice_intro rfl (uncons_intro (gInt_intro rfl (uncons_intro (gInt_intro rfl (unnil_intro (?_))))))))
          refine hc_intro (nat_MulWord.hv r_14_0.rd64 rfl i1) fun v h_4 ⟨k_4, s⟩ => ?_
          replace g := lift_let g
          generalize hp_15 : mulWS p_14.1 (Int.toNat x1) = p_15 at s g
          obtain ⟨_, _, rfl, ⟨a_15_0, c_15_0, rfl, r_15_0⟩, ⟨rfl, i_15_1⟩⟩ := s
          refine gTup_intro rfl (uncons_intro (gSlice_intro rfl (uncons_intro (gInt_intro rfl (unnil_intro (?_))))))
          refine hc_intro (nat_Word.hv i_14_1) fun v h_5 ⟨k_5, s⟩ => ?_
          replace g := lift_let g
          generalize hp_16 : digs (Int.toNat p_14.2.1) = p_16 at s g
          obtain ⟨a_16, c_16, rfl, r_16⟩ := s
          refine gSlice_intro rfl (?_)
          refine hc_intro (nat_Add.hv (r_15_0.keep (k_5)).rd64 rfl r_16.rd64 rfl) fun v h_6 ⟨k_6, s⟩ => ?_
          replace g := lift_let g
          generalize hp_17 : addS p_15.1 p_16 = p_17 at s g
          obtain ⟨_, _, rfl, ⟨a_17_0, c_17_0, rfl, r_17_0⟩, ⟨rfl, i_17_1⟩⟩ := s
          refine gTup_intro rfl (uncons_intro (gSlice_intro rfl (uncons_intro (gInt_intro rfl (unnil_intro (?_))))))
          refine lift_ne g (fun q_18 g => ?_) (fun q_18 g => ?_)
          · exact g _ _ (k0.trans (k_1.trans (k_2.trans (k_3.trans (k_4.trans (k_5.trans k_6)))))) rfl
          · refine lift_ne g (fun q_19 g => ?_) (fun q_19 g => ?_)
            · exact g _ _ (k0.trans (k_1.trans (k_2.trans (k_3.trans (k_4.trans (k_5.trans k_6)))))) rfl
            · refine lift_ne g (fun q_20 g => ?_) (fun q_20 g => ?_)
              · exact g _ _ (k0.trans (k_1.trans (k_2.trans (k_3.trans (k_4.trans (k_5.trans k_6)))))) rfl
              · refine lift_dec g (fun q_21 g => ?_) (fun q_21 g => ?_)
                · exact g _ _ (k0.trans (k_1.trans (k_2.trans (k_3.trans (k_4.trans (k_5.trans k_6)))))) rfl
                · refine hc_intro (gnomontop_same.hv r_17_0.rd64 rfl (r0.keep (k_1.trans (k_2.trans (k_3.trans (k_4.trans (k_5.trans k_6)))))) rfl) fun v h_7 ⟨k_7, s⟩ => ?_
                  obtain rfl := s
                  refine gBool_intro rfl (?_)
                  refine lift_not g (fun q_23 g => ?_) (fun q_23 g => ?_)
                  · exact g _ _ (k0.trans (k_1.trans (k_2.trans (k_3.trans (k_4.trans (k_5.trans (k_6.trans k_7))))))) rfl
                  · exact D3.hv (k0.trans (k_1.trans (k_2.trans (k_3.trans (k_4.trans (k_5.trans (k_6.trans k_7))))))) (r0.keep (k_1.trans (k_2.trans (k_3.trans (k_4.trans (k_5.trans (k_6.trans k_7))))))) rfl i2 g
  · exact D3.hv (k0) r0 rfl i2 g
def D1.v (xs0 : List Nat) (x1 : Int) (x2 : Int) : Bool :=
  letV (mulWS xs0 (Int.toNat x1)) fun p_1 =>
  letV (digs (Int.toNat x1)) fun p_2 =>
  letV (mulS xs0 p_2) fun p_3 =>
  bif (p_1.2 != (0 : Int)) then
    false
  else
    bif (p_3.2 != (0 : Int)) then
      false
    else
      bif (!(decide (p_1.1 = p_3.1))) then
        false
      else
        D2.v xs0 x1 x2 p_1.1
theorem D1.hv {R : Rt} {h0 h : Hp} (k0 : Keep h0 h) {a0 : Option Addr} {c0 l0 : Nat} {xs0 : List Nat} (r0 : Rd h a0 c0 xs0) (e0 : l0 = xs0.length) {x1 : Int} (i1 : In .u64 x1) {x2 : Int} (i2 : In .i64 x2) (g : Post sBool h0 R (D1.v xs0 x1 x2)) : D1.t R a0 l0 c0 x1 x2 h := by
  subst e0
  unfold D1.v at g
  unfold D1.t
  refine hc_intro (nat_MulWord.hv r0 rfl i1) fun v h_1 ⟨k_1, s⟩ => ?_
  replace g := lift_let g
  generalize hp_1 : mulWS xs0 (Int.toNat x1) = p_1 at s g
  obtain ⟨_, _, rfl, ⟨a_1_0, c_1_0, rfl, r_1_0⟩, ⟨rfl, i_1_1⟩⟩ := s
  refine gTup_intro rfl (uncons_intro (gSlice_intro rfl (uncons_intro (gInt_intro rfl (unnil_intro (?_))))))
  refine hc_intro (nat_Word.hv i1) fun v h_2 ⟨k_2, s⟩ => ?_
  replace g := lift_let g
  generalize hp_2 : digs (Int.toNat x1) = p_2 at s g
  obtain ⟨a_2, c_2, rfl, r_2⟩ := s
  refine gSlice_intro rfl (?_)
  refine hc_intro (natmul_Mul.hv (r0.keep (k_1.trans k_2)) rfl r_2.rd64 rfl) fun v h_3 ⟨k_3, s⟩ => ?_
  replace g := lift_let g
  generalize hp_3 : mulS xs0 p_2 = p_3 at s g
  obtain ⟨_, _, rfl, ⟨a_3_0, c_3_0, rfl, r_3_0⟩, ⟨rfl, i_3_1⟩⟩ := s
  refine gTup_intro rfl (uncons_intro (gSlice_intro rfl (uncons_intro (gInt_intro rfl (unnil_intro (?_))))))
  refine lift_ne g (fun q_4 g => ?_) (fun q_4 g => ?_)
  · exact g _ _ (k0.trans (k_1.trans (k_2.trans k_3))) rfl
  · refine lift_ne g (fun q_5 g => ?_) (fun q_5 g => ?_)
    · exact g _ _ (k0.trans (k_1.trans (k_2.trans k_3))) rfl
    · refine hc_intro (gnomontop_same.hv (r_1_0.keep (k_2.trans k_3)).rd64 rfl r_3_0.rd64 rfl) fun v h_4 ⟨k_4, s⟩ => ?_
      obtain rfl := s
      refine gBool_intro rfl (?_)
      refine lift_not g (fun q_7 g => ?_) (fun q_7 g => ?_)
      · exact g _ _ (k0.trans (k_1.trans (k_2.trans (k_3.trans k_4)))) rfl
      · exact D2.hv (k0.trans (k_1.trans (k_2.trans (k_3.trans k_4)))) (r0.keep (k_1.trans (k_2.trans (k_3.trans k_4)))) rfl i1 i2 ((r_1_0.from (k0).le).keep (k_2.trans (k_3.trans k_4))) rfl g
def v (xs0 : List Nat) (x1 : Int) (x2 : Int) : Bool := D1.v xs0 x1 x2
theorem hv {h : Hp} {a0 : Option Addr} {c0 l0 : Nat} {xs0 : List Nat} (r0 : Rd h a0 c0 xs0) (e0 : l0 = xs0.length) {x1 : Int} (i1 : In .u64 x1) {x2 : Int} (i2 : In .i64 x2) : HC id #[.slice a0 l0 c0, .int .u64 x1, .int .i64 x2] h fun v_ h_ => Keep h h_ ∧ sBool h h_ v_ (v xs0 x1 x2) :=
  ok (D1.hv (Keep.refl _) r0 e0 i1 i2 fun v h' k s => ⟨k, s⟩)
end gnomontop_ringWords

namespace gnomontop_ringPowers
def D1.v (x0 : Int) (x1 : Int) (x2 : Int) : Bool :=
  letV (digs (Int.toNat x0)) fun p_1 =>
  letV (powS p_1 x1) fun p_2 =>
  letV (powS p_1 x2) fun p_3 =>
  letV (powS p_1 ((IntKind.i64.wrap (x1 + x2)))) fun p_4 =>
  letV (mulS p_2.1 p_3.1) fun p_5 =>
  bif (p_2.2 == (0 : Int)) then
    bif (p_3.2 == (0 : Int)) then
      bif (p_4.2 == (0 : Int)) then
        bif (p_5.2 == (0 : Int)) then
          (decide (p_4.1 = p_5.1))
        else
          false
      else
        false
    else
      false
  else
    false
theorem D1.hv {R : Rt} {h0 h : Hp} (k0 : Keep h0 h) {x0 : Int} (i0 : In .u64 x0) {x1 : Int} (i1 : In .i64 x1) {x2 : Int} (i2 : In .i64 x2) (g : Post sBool h0 R (D1.v x0 x1 x2)) : D1.t R x0 x1 x2 h := by
  unfold D1.v at g
  unfold D1.t
  refine hc_intro (nat_Word.hv i0) fun v h_1 ⟨k_1, s⟩ => ?_
  replace g := lift_let g
  generalize hp_1 : digs (Int.toNat x0) = p_1 at s g
  obtain ⟨a_1, c_1, rfl, r_1⟩ := s
  refine gSlice_intro rfl (?_)
  refine hc_intro (natmul_Pow.hv r_1.rd64 rfl i1) fun v h_2 ⟨k_2, s⟩ => ?_
  replace g := lift_let g
  generalize hp_2 : powS p_1 x1 = p_2 at s g
  obtain ⟨_, _, rfl, ⟨a_2_0, c_2_0, rfl, r_2_0⟩, ⟨rfl, i_2_1⟩⟩ := s
  refine gTup_intro rfl (uncons_intro (gSlice_intro rfl (uncons_intro (gInt_intro rfl (unnil_intro (?_))))))
  refine hc_intro (natmul_Pow.hv (r_1.keep (k_2)).rd64 rfl i2) fun v h_3 ⟨k_3, s⟩ => ?_
  replace g := lift_let g
  generalize hp_3 : powS p_1 x2 = p_3 at s g
  obtain ⟨_, _, rfl, ⟨a_3_0, c_3_0, rfl, r_3_0⟩, ⟨rfl, i_3_1⟩⟩ := s
  refine gTup_intro rfl (uncons_intro (gSlice_intro rfl (uncons_intro (gInt_intro rfl (unnil_intro (?_))))))
  refine letK_out ?_
  refine hc_intro (natmul_Pow.hv (r_1.keep (k_2.trans k_3)).rd64 rfl (in_wrap _ _)) fun v h_4 ⟨k_4, s⟩ => ?_
  replace g := lift_let g
  generalize hp_4 : powS p_1 ((IntKind.i64.wrap (x1 + x2))) = p_4 at s g
  obtain ⟨_, _, rfl, ⟨a_4_0, c_4_0, rfl, r_4_0⟩, ⟨rfl, i_4_1⟩⟩ := s
  refine gTup_intro rfl (uncons_intro (gSlice_intro rfl (uncons_intro (gInt_intro rfl (unnil_intro (?_))))))
  refine hc_intro (natmul_Mul.hv (r_2_0.keep (k_3.trans k_4)).rd64 rfl (r_3_0.keep (k_4)).rd64 rfl) fun v h_5 ⟨k_5, s⟩ => ?_
  replace g := lift_let g
  generalize hp_5 : mulS p_2.1 p_3.1 = p_5 at s g
  obtain ⟨_, _, rfl, ⟨a_5_0, c_5_0, rfl, r_5_0⟩, ⟨rfl, i_5_1⟩⟩ := s
  refine gTup_intro rfl (uncons_intro (gSlice_intro rfl (uncons_intro (gInt_intro rfl (unnil_intro (?_))))))
  refine lift_eq g (fun q_6 g => ?_) (fun q_6 g => ?_)
  · refine lift_eq g (fun q_7 g => ?_) (fun q_7 g => ?_)
    · refine lift_eq g (fun q_8 g => ?_) (fun q_8 g => ?_)
      · refine lift_eq g (fun q_9 g => ?_) (fun q_9 g => ?_)
        · refine hc_intro (gnomontop_same.hv (r_4_0.keep (k_5)).rd64 rfl r_5_0.rd64 rfl) fun v h_6 ⟨k_6, s⟩ => ?_
          obtain rfl := s
          refine gBool_intro rfl (?_)
          exact g _ _ (k0.trans (k_1.trans (k_2.trans (k_3.trans (k_4.trans (k_5.trans k_6)))))) rfl
        · exact g _ _ (k0.trans (k_1.trans (k_2.trans (k_3.trans (k_4.trans k_5))))) rfl
      · exact g _ _ (k0.trans (k_1.trans (k_2.trans (k_3.trans (k_4.trans k_5))))) rfl
    · exact g _ _ (k0.trans (k_1.trans (k_2.trans (k_3.trans (k_4.trans k_5))))) rfl
  · exact g _ _ (k0.trans (k_1.trans (k_2.trans (k_3.trans (k_4.trans k_5))))) rfl
def v (x0 : Int) (x1 : Int) (x2 : Int) : Bool := D1.v x0 x1 x2
theorem hv {h : Hp} {x0 : Int} (i0 : In .u64 x0) {x1 : Int} (i1 : In .i64 x1) {x2 : Int} (i2 : In .i64 x2) : HC id #[.int .u64 x0, .int .i64 x1, .int .i64 x2] h fun v_ h_ => Keep h h_ ∧ sBool h h_ v_ (v x0 x1 x2) :=
  ok (D1.hv (Keep.refl _) i0 i1 i2 fun v h' k s => ⟨k, s⟩)
end gnomontop_ringPowers

end Go.Proofs.Ytaglonbkdcmmpaa.G
