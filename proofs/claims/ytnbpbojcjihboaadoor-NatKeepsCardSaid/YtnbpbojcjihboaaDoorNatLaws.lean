/- Functions without loops as functions of values. Written by a program of this work. -/
import Derived.Test.YtnbpbojcjihboaaDoorNatAll
namespace Go.Proofs.YtnbpbojcjihboaaDoor.G
open Go.Gv
set_option linter.unusedVariables false
set_option maxRecDepth 100000
namespace gnomonlaw01_NatForms
def D1.v (xs0 : List Op1) : Bool :=
  letV (lim (val ([5, 0]))) fun p_2 =>
  letV (gnomonlaw01_told.v p_2.1 p_2.2 ([5]) (0 : Int)) fun p_4 =>
  bif (!p_4) then
    false
  else
    letV (digs (Int.toNat (7 : Int))) fun p_6 =>
    bif (!(decide (p_6 = ([7])))) then
      false
    else
      bif (!(decide (Frm ([0, 1])))) then
        false
      else
        (true)
theorem D1.hv {R : Rt} {h0 h : Hp} (k0 : Keep h0 h) {a0 : Option Addr} {c0 l0 : Nat} {xs0 : List Op1} (r0 : RdOps1 h a0 c0 xs0) (e0 : l0 = xs0.length) (tb : Tab h) (g : Post sBool h0 R (D1.v xs0)) : D1.t R a0 l0 c0 h := by
  subst e0
  unfold D1.v at g
  unfold D1.t
  refine boxE eU64 [5, 0] (by rfl) (by decide) fun h_1 o_1 k_1 => ?_
  have r_1 := o_1.got' (h0 := h) (c := 2) (Nat.le_refl _) (by decide) rfl
  refine hc_intro (nat_Norm.hv r_1.rd64 (by rfl)) fun v h_2 ⟨k_2, s⟩ => ?_
  replace g := lift_let g
  generalize hp_2 : lim (val ([5, 0])) = p_2 at s g
  obtain ⟨_, _, rfl, ⟨a_2_0, c_2_0, rfl, r_2_0⟩, ⟨rfl, i_2_1⟩⟩ := s
  refine gTup_intro rfl (uncons_intro (gSlice_intro rfl (uncons_intro (gInt_intro rfl (unnil_intro (?_))))))
  refine boxE eU64 [5] (by rfl) (by decide) fun h_3 o_3 k_3 => ?_
  have r_3 := o_3.got' (h0 := h_2) (c := 1) (Nat.le_refl _) (by decide) rfl
  refine hc_intro (gnomonlaw01_told.hv (r_2_0.keep (k_3)).rd64 rfl i_2_1 r_3.rd64 (by rfl) (by decide)) fun v h_4 ⟨k_4, s⟩ => ?_
  replace g := lift_let g
  generalize hp_4 : gnomonlaw01_told.v p_2.1 p_2.2 ([5]) (0 : Int) = p_4 at s g
  obtain rfl := s
  refine gBool_intro rfl (?_)
  refine lift_not g (fun q_5 g => ?_) (fun q_5 g => ?_)
  · exact g _ _ (k0.trans (k_1.trans (k_2.trans (k_3.trans k_4)))) rfl
  · refine hc_intro (nat_Word.hv (by decide)) fun v h_5 ⟨k_5, s⟩ => ?_
    replace g := lift_let g
    generalize hp_6 : digs (Int.toNat (7 : Int)) = p_6 at s g
    obtain ⟨a_6, c_6, rfl, r_6⟩ := s
    refine gSlice_intro rfl (?_)
    refine boxE eU64 [7] (by rfl) (by decide) fun h_6 o_7 k_6 => ?_
    have r_7 := o_7.got' (h0 := h_5) (c := 1) (Nat.le_refl _) (by decide) rfl
    refine hq_intro (gnomonref01_Same.hq (r_6.keep (k_6)).rd64 rfl r_7.rd64 (by rfl)) fun v s => ?_
    obtain rfl := s
    refine gBool_intro rfl (?_)
    refine lift_not g (fun q_9 g => ?_) (fun q_9 g => ?_)
    · exact g _ _ (k0.trans (k_1.trans (k_2.trans (k_3.trans (k_4.trans (k_5.trans k_6)))))) rfl
    · refine boxE eU64 [0, 1] (by rfl) (by decide) fun h_7 o_10 k_7 => ?_
      have r_10 := o_10.got' (h0 := h_6) (c := 2) (Nat.le_refl _) (by decide) rfl
      refine hc_intro (nat_Form.hv r_10.rd64 (by rfl)) fun v h_8 ⟨k_8, s⟩ => ?_
      obtain rfl := s
      refine gBool_intro rfl (?_)
      refine lift_not g (fun q_12 g => ?_) (fun q_12 g => ?_)
      · exact g _ _ (k0.trans (k_1.trans (k_2.trans (k_3.trans (k_4.trans (k_5.trans (k_6.trans (k_7.trans k_8)))))))) rfl
      · refine hc_intro (gnomonlaw01_all.hv (r0.keep (k_1.trans (k_2.trans (k_3.trans (k_4.trans (k_5.trans (k_6.trans (k_7.trans k_8)))))))) rfl (by decide) (by decide) (tb.keep (k_1.trans (k_2.trans (k_3.trans (k_4.trans (k_5.trans (k_6.trans (k_7.trans k_8))))))))) fun v h_9 ⟨k_9, s⟩ => ?_
        obtain rfl := s
        refine gBool_intro rfl (?_)
        exact g _ _ (k0.trans (k_1.trans (k_2.trans (k_3.trans (k_4.trans (k_5.trans (k_6.trans (k_7.trans (k_8.trans k_9))))))))) rfl
def v (xs0 : List Op1) : Bool := D1.v xs0
theorem hv {h : Hp} {a0 : Option Addr} {c0 l0 : Nat} {xs0 : List Op1} (r0 : RdOps1 h a0 c0 xs0) (e0 : l0 = xs0.length) (tb : Tab h) : HC id #[.slice a0 l0 c0] h fun v_ h_ => Keep h h_ ∧ sBool h h_ v_ (v xs0) :=
  ok (D1.hv (Keep.refl _) r0 e0 tb fun v h' k s => ⟨k, s⟩)
end gnomonlaw01_NatForms

namespace gnomonlaw01_NatAsks
def D1.v (xs0 : List Op1) : Bool :=
  bif (((((blen (val ([0, 6])) : Nat) : Int))) != (67 : Int)) then
    false
  else
    bif (((((ctz (val ([0, 6])) : Nat) : Int))) != (65 : Int)) then
      false
    else
      bif (!(bitS (val ([0, 6])) (66 : Int) == 1)) then
        false
      else
        bif (((cmpI (val ([0, 6])) (val ([9])))) != (1 : Int)) then
          false
        else
          (true)
theorem D1.hv {R : Rt} {h0 h : Hp} (k0 : Keep h0 h) {a0 : Option Addr} {c0 l0 : Nat} {xs0 : List Op1} (r0 : RdOps1 h a0 c0 xs0) (e0 : l0 = xs0.length) (tb : Tab h) (g : Post sBool h0 R (D1.v xs0)) : D1.t R a0 l0 c0 h := by
  subst e0
  unfold D1.v at g
  unfold D1.t
  refine boxE eU64 [0, 6] (by rfl) (by decide) fun h_1 o_1 k_1 => ?_
  have r_1 := o_1.got' (h0 := h) (c := 2) (Nat.le_refl _) (by decide) rfl
  refine hc_intro (nat_Bits.hv r_1.rd64 (by rfl)) fun v h_2 ⟨k_2, s⟩ => ?_
  obtain ⟨rfl, i_2⟩ := s
  refine gInt_intro rfl (?_)
  refine lift_ne g (fun q_3 g => ?_) (fun q_3 g => ?_)
  · exact g _ _ (k0.trans (k_1.trans k_2)) rfl
  · refine hc_intro (nat_Trail.hv (r_1.keep (k_2)).rd64 (by rfl) (tb.keep (k_1.trans k_2))) fun v h_3 ⟨k_3, s⟩ => ?_
    obtain ⟨rfl, i_4⟩ := s
    refine gInt_intro rfl (?_)
    refine lift_ne g (fun q_5 g => ?_) (fun q_5 g => ?_)
    · exact g _ _ (k0.trans (k_1.trans (k_2.trans k_3))) rfl
    · refine hc_intro (nat_Bit.hv (r_1.keep (k_2.trans k_3)).rd64 (by rfl) (by decide)) fun v h_4 ⟨k_4, s⟩ => ?_
      obtain rfl := s
      refine gBool_intro rfl (?_)
      refine lift_not g (fun q_7 g => ?_) (fun q_7 g => ?_)
      · exact g _ _ (k0.trans (k_1.trans (k_2.trans (k_3.trans k_4)))) rfl
      · refine boxE eU64 [9] (by rfl) (by decide) fun h_5 o_8 k_5 => ?_
        have r_8 := o_8.got' (h0 := h_4) (c := 1) (Nat.le_refl _) (by decide) rfl
        refine hc_intro (nat_Cmp.hv (r_1.keep (k_2.trans (k_3.trans (k_4.trans k_5)))).rd64 (by rfl) r_8.rd64 (by rfl)) fun v h_6 ⟨k_6, s⟩ => ?_
        obtain ⟨rfl, i_9⟩ := s
        refine gInt_intro rfl (?_)
        refine lift_ne g (fun q_10 g => ?_) (fun q_10 g => ?_)
        · exact g _ _ (k0.trans (k_1.trans (k_2.trans (k_3.trans (k_4.trans (k_5.trans k_6)))))) rfl
        · refine hc_intro (gnomonlaw01_all.hv (r0.keep (k_1.trans (k_2.trans (k_3.trans (k_4.trans (k_5.trans k_6)))))) rfl (by decide) (by decide) (tb.keep (k_1.trans (k_2.trans (k_3.trans (k_4.trans (k_5.trans k_6))))))) fun v h_7 ⟨k_7, s⟩ => ?_
          obtain rfl := s
          refine gBool_intro rfl (?_)
          exact g _ _ (k0.trans (k_1.trans (k_2.trans (k_3.trans (k_4.trans (k_5.trans (k_6.trans k_7))))))) rfl
def v (xs0 : List Op1) : Bool := D1.v xs0
theorem hv {h : Hp} {a0 : Option Addr} {c0 l0 : Nat} {xs0 : List Op1} (r0 : RdOps1 h a0 c0 xs0) (e0 : l0 = xs0.length) (tb : Tab h) : HC id #[.slice a0 l0 c0] h fun v_ h_ => Keep h h_ ∧ sBool h h_ v_ (v xs0) :=
  ok (D1.hv (Keep.refl _) r0 e0 tb fun v h' k s => ⟨k, s⟩)
end gnomonlaw01_NatAsks

namespace gnomonlaw01_NatSums
def D1.v (xs0 : List Op1) : Bool :=
  letV (gnomonlaw01_awake.v) fun p_1 =>
  bif p_1 then
    (true)
  else
    false
theorem D1.hv {R : Rt} {h0 h : Hp} (k0 : Keep h0 h) {a0 : Option Addr} {c0 l0 : Nat} {xs0 : List Op1} (r0 : RdOps1 h a0 c0 xs0) (e0 : l0 = xs0.length) (tb : Tab h) (g : Post sBool h0 R (D1.v xs0)) : D1.t R a0 l0 c0 h := by
  subst e0
  unfold D1.v at g
  unfold D1.t
  refine hc_intro (gnomonlaw01_awake.hv) fun v h_1 ⟨k_1, s⟩ => ?_
  replace g := lift_let g
  generalize hp_1 : gnomonlaw01_awake.v = p_1 at s g
  obtain rfl := s
  refine gBool_intro rfl (?_)
  refine lift_bool g (fun q_2 g => ?_) (fun q_2 g => ?_)
  · refine hc_intro (gnomonlaw01_all.hv (r0.keep (k_1)) rfl (by decide) (by decide) (tb.keep (k_1))) fun v h_2 ⟨k_2, s⟩ => ?_
    obtain rfl := s
    refine gBool_intro rfl (?_)
    exact g _ _ (k0.trans (k_1.trans k_2)) rfl
  · exact g _ _ (k0.trans (k_1)) rfl
def v (xs0 : List Op1) : Bool := D1.v xs0
theorem hv {h : Hp} {a0 : Option Addr} {c0 l0 : Nat} {xs0 : List Op1} (r0 : RdOps1 h a0 c0 xs0) (e0 : l0 = xs0.length) (tb : Tab h) : HC id #[.slice a0 l0 c0] h fun v_ h_ => Keep h h_ ∧ sBool h h_ v_ (v xs0) :=
  ok (D1.hv (Keep.refl _) r0 e0 tb fun v h' k s => ⟨k, s⟩)
end gnomonlaw01_NatSums

namespace gnomonlaw01_NatShifts
def D1.v (xs0 : List Op1) : Bool :=
  letV (shlS ([1]) (65 : Int)) fun p_2 =>
  letV (shrS ([0, 6]) (65 : Int)) fun p_4 =>
  letV (lowS ([13]) (3 : Int)) fun p_6 =>
  letV (gnomonlaw01_told.v p_2.1 p_2.2 ([0, 2]) (0 : Int)) fun p_8 =>
  bif (!p_8) then
    false
  else
    letV (gnomonlaw01_told.v p_4.1 p_4.2 ([3]) (0 : Int)) fun p_11 =>
    bif (!p_11) then
      false
    else
      letV (gnomonlaw01_told.v p_6.1 p_6.2 ([5]) (0 : Int)) fun p_14 =>
      bif (!p_14) then
        false
      else
        (true)
theorem D1.hv {R : Rt} {h0 h : Hp} (k0 : Keep h0 h) {a0 : Option Addr} {c0 l0 : Nat} {xs0 : List Op1} (r0 : RdOps1 h a0 c0 xs0) (e0 : l0 = xs0.length) (tb : Tab h) (g : Post sBool h0 R (D1.v xs0)) : D1.t R a0 l0 c0 h := by
  subst e0
  unfold D1.v at g
  unfold D1.t
  refine boxE eU64 [1] (by rfl) (by decide) fun h_1 o_1 k_1 => ?_
  have r_1 := o_1.got' (h0 := h) (c := 1) (Nat.le_refl _) (by decide) rfl
  refine hc_intro (nat_Shl.hv r_1.rd64 (by rfl) (by decide)) fun v h_2 ⟨k_2, s⟩ => ?_
  replace g := lift_let g
  generalize hp_2 : shlS ([1]) (65 : Int) = p_2 at s g
  obtain ⟨_, _, rfl, ⟨a_2_0, c_2_0, rfl, r_2_0⟩, ⟨rfl, i_2_1⟩⟩ := s
  refine gTup_intro rfl (uncons_intro (gSlice_intro rfl (uncons_intro (gInt_intro rfl (unnil_intro (?_))))))
  refine boxE eU64 [0, 6] (by rfl) (by decide) fun h_3 o_3 k_3 => ?_
  have r_3 := o_3.got' (h0 := h_2) (c := 2) (Nat.le_refl _) (by decide) rfl
  refine hc_intro (nat_Shr.hv r_3.rd64 (by rfl) (by decide)) fun v h_4 ⟨k_4, s⟩ => ?_
  replace g := lift_let g
  generalize hp_4 : shrS ([0, 6]) (65 : Int) = p_4 at s g
  obtain ⟨_, _, rfl, ⟨a_4_0, c_4_0, rfl, r_4_0⟩, ⟨rfl, i_4_1⟩⟩ := s
  refine gTup_intro rfl (uncons_intro (gSlice_intro rfl (uncons_intro (gInt_intro rfl (unnil_intro (?_))))))
  refine boxE eU64 [13] (by rfl) (by decide) fun h_5 o_5 k_5 => ?_
  have r_5 := o_5.got' (h0 := h_4) (c := 1) (Nat.le_refl _) (by decide) rfl
  refine hc_intro (nat_Low.hv r_5.rd64 (by rfl) (by decide)) fun v h_6 ⟨k_6, s⟩ => ?_
  replace g := lift_let g
  generalize hp_6 : lowS ([13]) (3 : Int) = p_6 at s g
  obtain ⟨_, _, rfl, ⟨a_6_0, c_6_0, rfl, r_6_0⟩, ⟨rfl, i_6_1⟩⟩ := s
  refine gTup_intro rfl (uncons_intro (gSlice_intro rfl (uncons_intro (gInt_intro rfl (unnil_intro (?_))))))
  refine boxE eU64 [0, 2] (by rfl) (by decide) fun h_7 o_7 k_7 => ?_
  have r_7 := o_7.got' (h0 := h_6) (c := 2) (Nat.le_refl _) (by decide) rfl
  refine hc_intro (gnomonlaw01_told.hv (r_2_0.keep (k_3.trans (k_4.trans (k_5.trans (k_6.trans k_7))))).rd64 rfl i_2_1 r_7.rd64 (by rfl) (by decide)) fun v h_8 ⟨k_8, s⟩ => ?_
  replace g := lift_let g
  generalize hp_8 : gnomonlaw01_told.v p_2.1 p_2.2 ([0, 2]) (0 : Int) = p_8 at s g
  obtain rfl := s
  refine gBool_intro rfl (?_)
  refine lift_not g (fun q_9 g => ?_) (fun q_9 g => ?_)
  · exact g _ _ (k0.trans (k_1.trans (k_2.trans (k_3.trans (k_4.trans (k_5.trans (k_6.trans (k_7.trans k_8)))))))) rfl
  · refine boxE eU64 [3] (by rfl) (by decide) fun h_9 o_10 k_9 => ?_
    have r_10 := o_10.got' (h0 := h_8) (c := 1) (Nat.le_refl _) (by decide) rfl
    refine hc_intro (gnomonlaw01_told.hv (r_4_0.keep (k_5.trans (k_6.trans (k_7.trans (k_8.trans k_9))))).rd64 rfl i_4_1 r_10.rd64 (by rfl) (by decide)) fun v h_10 ⟨k_10, s⟩ => ?_
    replace g := lift_let g
    generalize hp_11 : gnomonlaw01_told.v p_4.1 p_4.2 ([3]) (0 : Int) = p_11 at s g
    obtain rfl := s
    refine gBool_intro rfl (?_)
    refine lift_not g (fun q_12 g => ?_) (fun q_12 g => ?_)
    · exact g _ _ (k0.trans (k_1.trans (k_2.trans (k_3.trans (k_4.trans (k_5.trans (k_6.trans (k_7.trans (k_8.trans (k_9.trans k_10)))))))))) rfl
    · refine boxE eU64 [5] (by rfl) (by decide) fun h_11 o_13 k_11 => ?_
      have r_13 := o_13.got' (h0 := h_10) (c := 1) (Nat.le_refl _) (by decide) rfl
      refine hc_intro (gnomonlaw01_told.hv (r_6_0.keep (k_7.trans (k_8.trans (k_9.trans (k_10.trans k_11))))).rd64 rfl i_6_1 r_13.rd64 (by rfl) (by decide)) fun v h_12 ⟨k_12, s⟩ => ?_
      replace g := lift_let g
      generalize hp_14 : gnomonlaw01_told.v p_6.1 p_6.2 ([5]) (0 : Int) = p_14 at s g
      obtain rfl := s
      refine gBool_intro rfl (?_)
      refine lift_not g (fun q_15 g => ?_) (fun q_15 g => ?_)
      · exact g _ _ (k0.trans (k_1.trans (k_2.trans (k_3.trans (k_4.trans (k_5.trans (k_6.trans (k_7.trans (k_8.trans (k_9.trans (k_10.trans (k_11.trans k_12)))))))))))) rfl
      · refine hc_intro (gnomonlaw01_all.hv (r0.keep (k_1.trans (k_2.trans (k_3.trans (k_4.trans (k_5.trans (k_6.trans (k_7.trans (k_8.trans (k_9.trans (k_10.trans (k_11.trans k_12)))))))))))) rfl (by decide) (by decide) (tb.keep (k_1.trans (k_2.trans (k_3.trans (k_4.trans (k_5.trans (k_6.trans (k_7.trans (k_8.trans (k_9.trans (k_10.trans (k_11.trans k_12))))))))))))) fun v h_13 ⟨k_13, s⟩ => ?_
        obtain rfl := s
        refine gBool_intro rfl (?_)
        exact g _ _ (k0.trans (k_1.trans (k_2.trans (k_3.trans (k_4.trans (k_5.trans (k_6.trans (k_7.trans (k_8.trans (k_9.trans (k_10.trans (k_11.trans (k_12.trans k_13))))))))))))) rfl
def v (xs0 : List Op1) : Bool := D1.v xs0
theorem hv {h : Hp} {a0 : Option Addr} {c0 l0 : Nat} {xs0 : List Op1} (r0 : RdOps1 h a0 c0 xs0) (e0 : l0 = xs0.length) (tb : Tab h) : HC id #[.slice a0 l0 c0] h fun v_ h_ => Keep h h_ ∧ sBool h h_ v_ (v xs0) :=
  ok (D1.hv (Keep.refl _) r0 e0 tb fun v h' k s => ⟨k, s⟩)
end gnomonlaw01_NatShifts

namespace gnomonlaw01_NatWords
def D1.v (xs0 : List Op1) : Bool :=
  letV (mulWS ([18446744073709551615]) (Int.toNat (18446744073709551615 : Int))) fun p_2 =>
  letV (divWS ([0, 1]) (Int.toNat (10 : Int))) fun p_4 =>
  letV (gnomonlaw01_told.v p_2.1 p_2.2 ([1, 18446744073709551614]) (0 : Int)) fun p_6 =>
  bif (!p_6) then
    false
  else
    letV (gnomonlaw01_told.v p_4.1 p_4.2.2 ([1844674407370955161]) (0 : Int)) fun p_9 =>
    bif (!p_9) then
      false
    else
      bif (p_4.2.1 != (6 : Int)) then
        false
      else
        (true)
theorem D1.hv {R : Rt} {h0 h : Hp} (k0 : Keep h0 h) {a0 : Option Addr} {c0 l0 : Nat} {xs0 : List Op1} (r0 : RdOps1 h a0 c0 xs0) (e0 : l0 = xs0.length) (tb : Tab h) (g : Post sBool h0 R (D1.v xs0)) : D1.t R a0 l0 c0 h := by
  subst e0
  unfold D1.v at g
  unfold D1.t
  refine boxE eU64 [18446744073709551615] (by rfl) (by decide) fun h_1 o_1 k_1 => ?_
  have r_1 := o_1.got' (h0 := h) (c := 1) (Nat.le_refl _) (by decide) rfl
  refine hc_intro (nat_MulWord.hv r_1.rd64 (by rfl) (by decide)) fun v h_2 ⟨k_2, s⟩ => ?_
  replace g := lift_let g
  generalize hp_2 : mulWS ([18446744073709551615]) (Int.toNat (18446744073709551615 : Int)) = p_2 at s g
  obtain ⟨_, _, rfl, ⟨a_2_0, c_2_0, rfl, r_2_0⟩, ⟨rfl, i_2_1⟩⟩ := s
  refine gTup_intro rfl (uncons_intro (gSlice_intro rfl (uncons_intro (gInt_intro rfl (unnil_intro (?_))))))
  refine boxE eU64 [0, 1] (by rfl) (by decide) fun h_3 o_3 k_3 => ?_
  have r_3 := o_3.got' (h0 := h_2) (c := 2) (Nat.le_refl _) (by decide) rfl
  refine hc_intro (nat_DivWord.hv r_3.rd64 (by rfl) (by decide)) fun v h_4 ⟨k_4, s⟩ => ?_
  replace g := lift_let g
  generalize hp_4 : divWS ([0, 1]) (Int.toNat (10 : Int)) = p_4 at s g
  obtain ⟨_, _, _, rfl, ⟨a_4_0, c_4_0, rfl, r_4_0⟩, ⟨rfl, i_4_1⟩, ⟨rfl, i_4_2⟩⟩ := s
  refine gTup_intro rfl (uncons_intro (gSlice_intro rfl (uncons_intro (gInt_intro rfl (uncons_intro (gInt_intro rfl (unnil_intro (?_))))))))
  refine boxE eU64 [1, 18446744073709551614] (by rfl) (by decide) fun h_5 o_5 k_5 => ?_
  have r_5 := o_5.got' (h0 := h_4) (c := 2) (Nat.le_refl _) (by decide) rfl
  refine hc_intro (gnomonlaw01_told.hv (r_2_0.keep (k_3.trans (k_4.trans k_5))).rd64 rfl i_2_1 r_5.rd64 (by rfl) (by decide)) fun v h_6 ⟨k_6, s⟩ => ?_
  replace g := lift_let g
  generalize hp_6 : gnomonlaw01_told.v p_2.1 p_2.2 ([1, 18446744073709551614]) (0 : Int) = p_6 at s g
  obtain rfl := s
  refine gBool_intro rfl (?_)
  refine lift_not g (fun q_7 g => ?_) (fun q_7 g => ?_)
  · exact g _ _ (k0.trans (k_1.trans (k_2.trans (k_3.trans (k_4.trans (k_5.trans k_6)))))) rfl
  · refine boxE eU64 [1844674407370955161] (by rfl) (by decide) fun h_7 o_8 k_7 => ?_
    have r_8 := o_8.got' (h0 := h_6) (c := 1) (Nat.le_refl _) (by decide) rfl
    refine hc_intro (gnomonlaw01_told.hv (r_4_0.keep (k_5.trans (k_6.trans k_7))).rd64 rfl i_4_2 r_8.rd64 (by rfl) (by decide)) fun v h_8 ⟨k_8, s⟩ => ?_
    replace g := lift_let g
    generalize hp_9 : gnomonlaw01_told.v p_4.1 p_4.2.2 ([1844674407370955161]) (0 : Int) = p_9 at s g
    obtain rfl := s
    refine gBool_intro rfl (?_)
    refine lift_not g (fun q_10 g => ?_) (fun q_10 g => ?_)
    · exact g _ _ (k0.trans (k_1.trans (k_2.trans (k_3.trans (k_4.trans (k_5.trans (k_6.trans (k_7.trans k_8)))))))) rfl
    · refine lift_ne g (fun q_11 g => ?_) (fun q_11 g => ?_)
      · exact g _ _ (k0.trans (k_1.trans (k_2.trans (k_3.trans (k_4.trans (k_5.trans (k_6.trans (k_7.trans k_8)))))))) rfl
      · refine hc_intro (gnomonlaw01_all.hv (r0.keep (k_1.trans (k_2.trans (k_3.trans (k_4.trans (k_5.trans (k_6.trans (k_7.trans k_8)))))))) rfl (by decide) (by decide) (tb.keep (k_1.trans (k_2.trans (k_3.trans (k_4.trans (k_5.trans (k_6.trans (k_7.trans k_8))))))))) fun v h_9 ⟨k_9, s⟩ => ?_
        obtain rfl := s
        refine gBool_intro rfl (?_)
        exact g _ _ (k0.trans (k_1.trans (k_2.trans (k_3.trans (k_4.trans (k_5.trans (k_6.trans (k_7.trans (k_8.trans k_9))))))))) rfl
def v (xs0 : List Op1) : Bool := D1.v xs0
theorem hv {h : Hp} {a0 : Option Addr} {c0 l0 : Nat} {xs0 : List Op1} (r0 : RdOps1 h a0 c0 xs0) (e0 : l0 = xs0.length) (tb : Tab h) : HC id #[.slice a0 l0 c0] h fun v_ h_ => Keep h h_ ∧ sBool h h_ v_ (v xs0) :=
  ok (D1.hv (Keep.refl _) r0 e0 tb fun v h' k s => ⟨k, s⟩)
end gnomonlaw01_NatWords

end Go.Proofs.YtnbpbojcjihboaaDoor.G
