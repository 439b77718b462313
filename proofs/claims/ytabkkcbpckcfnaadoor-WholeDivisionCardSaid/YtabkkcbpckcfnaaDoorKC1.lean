/- Texts of this work, joined: ZNum, ZNum2, ZNum3, ZNum4, MulRing, MulJoins, MulPartsS, MulPow, MulList, TopA, BldW, RootN, NatD, DivRoot, DivLaws, StrRead, StrBld, StrText, StrDig, StrBack, TopD0, TopD1, TopD2. -/
import Derived.Test.YtabkkcbpckcfnaaDoorProg
import Derived.Shelf.Strings.Builder1
import Derived.Test.YtabkkcbpckcfnaaDoorKB
import Derived.Test.YtabkkcbpckcfnaaDoorKC0
/- Functions without loops as functions of values. Written by a program of this work. -/
namespace Go.Proofs.YtabkkcbpckcfnaaDoor.G
open Go.Gv
set_option linter.unusedVariables false
set_option maxRecDepth 100000
namespace num_Of
def D1.v (x0 : Int) : (Bool × List Nat) :=
  bif (decide (x0 < (0 : Int))) then
    letV (digs (Int.toNat ((IntKind.u64.wrap (0 - (IntKind.u64.wrap x0)))))) fun p_3 =>
    ((true && decide (0 < p_3.length)), p_3)
  else
    letV (digs (Int.toNat (IntKind.u64.wrap x0))) fun p_4 =>
    ((false && decide (0 < p_4.length)), p_4)
theorem D1.hv {R : Rt} {h0 h : Hp} (k0 : Keep h0 h) {x0 : Int} (i0 : In .i64 x0) (g : Post sZW h0 R (D1.v x0)) : D1.t R x0 h := by
  have kh := Keep.refl h
  unfold D1.v at g
  unfold D1.t
  refine boxV fun h_1 bx_1 k_1 => ?_
  have o_1 : h0.size ≤ h.size := k0.le
  have oh_1 : h.size ≤ h.size := kh.le
  have lt_1 := bx_1.lt
  have m_1 := k_1.tame
  have k0 := k0.trans k_1
  have kh := kh.trans k_1
  refine lift_dec g (fun q_2 g => ?_) (fun q_2 g => ?_)
  · refine letK_out ?_
    refine letK_out ?_
    refine hc_intro (nat_Word.hv (in_wrap _ _)) fun v h_2 ⟨k_2, s⟩ => ?_
    obtain ⟨p_3, hp_3⟩ : ∃ p, p = digs (Int.toNat ((IntKind.u64.wrap (0 - (IntKind.u64.wrap x0))))) := ⟨_, rfl⟩
    rw [← hp_3] at s
    replace g := lift_let2 hp_3 g
    obtain ⟨a_3, c_3, rfl, r_3⟩ := s
    refine gSlice_intro rfl (?_)
    have r_3 := r_3.from k0.le
    have m_2 := k_2.tame
    have bx_1 := bx_1.keep k_2
    have k0 := k0.trans k_2
    have kh := kh.trans k_2
    refine hc_intro (num_whole.hv _ _ _ _ _) fun v h_3 ⟨k_3, s⟩ => ?_
    subst s
    refine gAgg_intro rfl (uncons_intro (gBool_intro rfl (uncons_intro (gSlice_intro rfl (unnil_intro (?_))))))
    have m_3 := k_3.tame
    have bx_1 := bx_1.keep k_3
    have k0 := k0.trans k_3
    have kh := kh.trans k_3
    refine stA bx_1 (base_add _ _) rfl fun h_4 bx_1 k_4 m_4 => ?_
    have k0 := KeepB.keep k0 k_4 o_1
    have kh := KeepB.keep kh k_4 oh_1
    refine stA bx_1 (base_add _ _) rfl fun h_5 bx_1 k_5 m_5 => ?_
    have k0 := KeepB.keep k0 k_5 o_1
    have kh := KeepB.keep kh k_5 oh_1
    refine ldA bx_1 (base_add _ _) rfl ?_
    refine gBool_intro rfl ?_
    refine ldA bx_1 (base_add _ _) rfl ?_
    refine gSlice_intro rfl ?_
    exact g _ _ k0 ⟨_, _, rfl, (r_3.tame (m_3.trans (m_4.trans m_5)))⟩
  · refine letK_out ?_
    refine hc_intro (nat_Word.hv (in_wrap _ _)) fun v h_2 ⟨k_2, s⟩ => ?_
    obtain ⟨p_4, hp_4⟩ : ∃ p, p = digs (Int.toNat (IntKind.u64.wrap x0)) := ⟨_, rfl⟩
    rw [← hp_4] at s
    replace g := lift_let2 hp_4 g
    obtain ⟨a_4, c_4, rfl, r_4⟩ := s
    refine gSlice_intro rfl (?_)
    have r_4 := r_4.from k0.le
    have m_2 := k_2.tame
    have bx_1 := bx_1.keep k_2
    have k0 := k0.trans k_2
    have kh := kh.trans k_2
    refine hc_intro (num_whole.hv _ _ _ _ _) fun v h_3 ⟨k_3, s⟩ => ?_
    subst s
    refine gAgg_intro rfl (uncons_intro (gBool_intro rfl (uncons_intro (gSlice_intro rfl (unnil_intro (?_))))))
    have m_3 := k_3.tame
    have bx_1 := bx_1.keep k_3
    have k0 := k0.trans k_3
    have kh := kh.trans k_3
    refine stA bx_1 (base_add _ _) rfl fun h_4 bx_1 k_4 m_4 => ?_
    have k0 := KeepB.keep k0 k_4 o_1
    have kh := KeepB.keep kh k_4 oh_1
    refine stA bx_1 (base_add _ _) rfl fun h_5 bx_1 k_5 m_5 => ?_
    have k0 := KeepB.keep k0 k_5 o_1
    have kh := KeepB.keep kh k_5 oh_1
    refine ldA bx_1 (base_add _ _) rfl ?_
    refine gBool_intro rfl ?_
    refine ldA bx_1 (base_add _ _) rfl ?_
    refine gSlice_intro rfl ?_
    exact g _ _ k0 ⟨_, _, rfl, (r_4.tame (m_3.trans (m_4.trans m_5)))⟩
def v (x0 : Int) : (Bool × List Nat) := D1.v x0
theorem hv {h : Hp} {x0 : Int} (i0 : In .i64 x0) : HC id #[.int .i64 x0] h fun v_ h_ => Keep h h_ ∧ sZW h h_ v_ (v x0) :=
  ok (D1.hv (Keep.refl _) i0 fun v h' k s => ⟨k, s⟩)
end num_Of

namespace num_Form
def D1.v (b0_0 : Bool) (xs0_1 : List Nat) : Bool :=
  bif (decide (Frm xs0_1)) then
    bif b0_0 then
      (!((((xs0_1.length : Nat) : Int)) == (0 : Int)))
    else
      (!false)
  else
    false
theorem D1.hv {R : Rt} {h0 h : Hp} (k0 : Keep h0 h) {b0_0 : Bool} {a0_1 : Option Addr} {c0_1 l0_1 : Nat} {xs0_1 : List Nat} (r0_1 : Rd h a0_1 c0_1 xs0_1) (e0_1 : l0_1 = xs0_1.length) (g : Post sBool h0 R (D1.v b0_0 xs0_1)) : D1.t R b0_0 a0_1 l0_1 c0_1 h := by
  subst e0_1
  have kh := Keep.refl h
  unfold D1.v at g
  unfold D1.t
  refine boxV fun h_1 bx_1 k_1 => ?_
  have o_1 : h0.size ≤ h.size := k0.le
  have oh_1 : h.size ≤ h.size := kh.le
  have lt_1 := bx_1.lt
  have m_1 := k_1.tame
  have k0 := k0.trans k_1
  have kh := kh.trans k_1
  refine ldA bx_1 (base_add _ _) rfl ?_
  refine gSlice_intro rfl ?_
  refine hc_intro (nat_Form.hv (r0_1.tame (m_1)) rfl) fun v h_2 ⟨k_2, s⟩ => ?_
  obtain rfl := s
  refine gBool_intro rfl (?_)
  have m_2 := k_2.tame
  have bx_1 := bx_1.keep k_2
  have k0 := k0.trans k_2
  have kh := kh.trans k_2
  refine lift_dec g (fun q_3 g => ?_) (fun q_3 g => ?_)
  · refine ldA bx_1 (base_add _ _) rfl ?_
    refine gBool_intro rfl ?_
    refine lift_bool g (fun q_4 g => ?_) (fun q_4 g => ?_)
    · refine ldA bx_1 (base_add _ _) rfl ?_
      refine gSlice_intro rfl ?_
      exact g _ _ k0 rfl
    · exact g _ _ k0 rfl
  · exact g _ _ k0 rfl
def v (b0_0 : Bool) (xs0_1 : List Nat) : Bool := D1.v b0_0 xs0_1
theorem hv {h : Hp} {b0_0 : Bool} {a0_1 : Option Addr} {c0_1 l0_1 : Nat} {xs0_1 : List Nat} (r0_1 : Rd h a0_1 c0_1 xs0_1) (e0_1 : l0_1 = xs0_1.length) : HC id #[.agg #[.bool b0_0, .slice a0_1 l0_1 c0_1]] h fun v_ h_ => Keep h h_ ∧ sBool h h_ v_ (v b0_0 xs0_1) :=
  ok (D1.hv (Keep.refl _) r0_1 e0_1 fun v h' k s => ⟨k, s⟩)
end num_Form

namespace num_Add
def D3.v (b2_0 : Bool) (xs2_1 : List Nat) (b3_0 : Bool) (xs3_1 : List Nat) (b4_0 : Bool) (xs4_1 : List Nat) : ((Bool × List Nat) × Int) :=
  letV (subS xs2_1 xs3_1) fun p_13 =>
  letV (tellZ b2_0 (p_13.1, p_13.2)) fun p_14 =>
  ((p_14.1.1, p_14.1.2), p_14.2)
theorem D3.hv {R : Rt} {h0 h : Hp} (k0 : Keep h0 h) {b2_0 : Bool} {a2_1 : Option Addr} {c2_1 : Nat} {xs2_1 : List Nat} (r2_1 : Rd h a2_1 c2_1 xs2_1) {B2 : Nat} (bx2 : BlkV h B2 [.bool b2_0, .slice a2_1 xs2_1.length c2_1]) (o2 : h0.size ≤ B2) {b3_0 : Bool} {a3_1 : Option Addr} {c3_1 : Nat} {xs3_1 : List Nat} (r3_1 : Rd h a3_1 c3_1 xs3_1) {B3 : Nat} (bx3 : BlkV h B3 [.bool b3_0, .slice a3_1 xs3_1.length c3_1]) (o3 : h0.size ≤ B3) {b4_0 : Bool} {a4_1 : Option Addr} {c4_1 : Nat} {xs4_1 : List Nat} (r4_1 : GotE eU64 h0 h a4_1 c4_1 xs4_1) {B4 : Nat} (bx4 : BlkV h B4 [.bool b4_0, .slice a4_1 xs4_1.length c4_1]) (o4 : h0.size ≤ B4) (d2q3 : B2 ≠ B3) (d2q4 : B2 ≠ B4) (d3q4 : B3 ≠ B4) (g : Post (s2 sZW (sI .i64)) h0 R (D3.v b2_0 xs2_1 b3_0 xs3_1 b4_0 xs4_1)) : D3.t R (⟨B2, 0, none⟩ : Addr) (⟨B3, 0, none⟩ : Addr) (⟨B4, 0, none⟩ : Addr) h := by
  have kh := Keep.refl h
  have lt2 := bx2.lt
  have lt3 := bx3.lt
  have lt4 := bx4.lt
  unfold D3.v at g
  unfold D3.t
  refine ldA bx2 (base_add _ _) rfl ?_
  refine gSlice_intro rfl ?_
  refine ldA bx3 (base_add _ _) rfl ?_
  refine gSlice_intro rfl ?_
  refine hc_intro (nat_Sub.hv r2_1 rfl r3_1 rfl) fun v h_1 ⟨k_1, s⟩ => ?_
  obtain ⟨p_13, hp_13⟩ : ∃ p, p = subS xs2_1 xs3_1 := ⟨_, rfl⟩
  rw [← hp_13] at s
  replace g := lift_let2 hp_13 g
  obtain ⟨_, _, rfl, ⟨a_13_0, c_13_0, rfl, r_13_0⟩, ⟨rfl, i_13_1⟩⟩ := s
  refine gTup_intro rfl (uncons_intro (gSlice_intro rfl (uncons_intro (gInt_intro rfl (unnil_intro (?_))))))
  have r_13_0 := r_13_0.from k0.le
  have m_1 := k_1.tame
  have bx2 := bx2.keep k_1
  have bx3 := bx3.keep k_1
  have bx4 := bx4.keep k_1
  have k0 := k0.trans k_1
  have kh := kh.trans k_1
  refine ldA bx2 (base_add _ _) rfl ?_
  refine gBool_intro rfl ?_
  refine hc_intro (num_told.hf r_13_0 rfl i_13_1) fun v h_2 ⟨k_2, s⟩ => ?_
  obtain ⟨p_14, hp_14⟩ : ∃ p, p = tellZ b2_0 (p_13.1, p_13.2) := ⟨_, rfl⟩
  rw [← hp_14] at s
  replace g := lift_let2 hp_14 g
  obtain ⟨_, _, rfl, ⟨a_14_0, c_14_0, rfl, r_14_0⟩, ⟨rfl, i_14_1⟩⟩ := s
  refine gTup_intro rfl (uncons_intro (gAgg_intro rfl (uncons_intro (gBool_intro rfl (uncons_intro (gSlice_intro rfl (unnil_intro (uncons_intro (gInt_intro rfl (unnil_intro (?_)))))))))))
  have m_2 := k_2.tame
  have bx2 := bx2.keep k_2
  have bx3 := bx3.keep k_2
  have bx4 := bx4.keep k_2
  have k0 := k0.trans k_2
  have kh := kh.trans k_2
  refine stA bx4 (base_add _ _) rfl fun h_3 bx4 k_3 m_3 => ?_
  have bx2 := bx2.keepB d2q4 k_3
  have bx3 := bx3.keepB d3q4 k_3
  have k0 := KeepB.keep k0 k_3 o4
  refine stA bx4 (base_add _ _) rfl fun h_4 bx4 k_4 m_4 => ?_
  have bx2 := bx2.keepB d2q4 k_4
  have bx3 := bx3.keepB d3q4 k_4
  have k0 := KeepB.keep k0 k_4 o4
  refine ldA bx4 (base_add _ _) rfl ?_
  refine gBool_intro rfl ?_
  refine ldA bx4 (base_add _ _) rfl ?_
  refine gSlice_intro rfl ?_
  exact g _ _ k0 ⟨_, _, rfl, ⟨_, _, rfl, (r_14_0.tame (m_3.trans m_4))⟩, ⟨rfl, i_14_1⟩⟩
def D2.v (b2_0 : Bool) (xs2_1 : List Nat) (b3_0 : Bool) (xs3_1 : List Nat) (b4_0 : Bool) (xs4_1 : List Nat) : ((Bool × List Nat) × Int) :=
  bif (b2_0 == b3_0) then
    letV (addS xs2_1 xs3_1) fun p_9 =>
    letV (tellZ b2_0 (p_9.1, p_9.2)) fun p_10 =>
    ((p_10.1.1, p_10.1.2), p_10.2)
  else
    bif (decide (((cmpI (val xs2_1) (val xs3_1))) < (0 : Int))) then
      D3.v b3_0 xs3_1 b2_0 xs2_1 b4_0 xs4_1
    else
      D3.v b2_0 xs2_1 b3_0 xs3_1 b4_0 xs4_1
theorem D2.hv {R : Rt} {h0 h : Hp} (k0 : Keep h0 h) {b2_0 : Bool} {a2_1 : Option Addr} {c2_1 : Nat} {xs2_1 : List Nat} (r2_1 : Rd h a2_1 c2_1 xs2_1) {B2 : Nat} (bx2 : BlkV h B2 [.bool b2_0, .slice a2_1 xs2_1.length c2_1]) (o2 : h0.size ≤ B2) {b3_0 : Bool} {a3_1 : Option Addr} {c3_1 : Nat} {xs3_1 : List Nat} (r3_1 : Rd h a3_1 c3_1 xs3_1) {B3 : Nat} (bx3 : BlkV h B3 [.bool b3_0, .slice a3_1 xs3_1.length c3_1]) (o3 : h0.size ≤ B3) {b4_0 : Bool} {a4_1 : Option Addr} {c4_1 : Nat} {xs4_1 : List Nat} (r4_1 : GotE eU64 h0 h a4_1 c4_1 xs4_1) {B4 : Nat} (bx4 : BlkV h B4 [.bool b4_0, .slice a4_1 xs4_1.length c4_1]) (o4 : h0.size ≤ B4) (d2q3 : B2 ≠ B3) (d2q4 : B2 ≠ B4) (d3q4 : B3 ≠ B4) (g : Post (s2 sZW (sI .i64)) h0 R (D2.v b2_0 xs2_1 b3_0 xs3_1 b4_0 xs4_1)) : D2.t R (⟨B2, 0, none⟩ : Addr) (⟨B3, 0, none⟩ : Addr) (⟨B4, 0, none⟩ : Addr) h := by
  have kh := Keep.refl h
  have lt2 := bx2.lt
  have lt3 := bx3.lt
  have lt4 := bx4.lt
  unfold D2.v at g
  unfold D2.t
  refine ldA bx2 (base_add _ _) rfl ?_
  refine gBool_intro rfl ?_
  refine ldA bx3 (base_add _ _) rfl ?_
  refine gBool_intro rfl ?_
  refine lift_bool g (fun q_8 g => ?_) (fun q_8 g => ?_)
  · refine ldA bx2 (base_add _ _) rfl ?_
    refine gSlice_intro rfl ?_
    refine ldA bx3 (base_add _ _) rfl ?_
    refine gSlice_intro rfl ?_
    refine hc_intro (nat_Add.hv r2_1 rfl r3_1 rfl) fun v h_1 ⟨k_1, s⟩ => ?_
    obtain ⟨p_9, hp_9⟩ : ∃ p, p = addS xs2_1 xs3_1 := ⟨_, rfl⟩
    rw [← hp_9] at s
    replace g := lift_let2 hp_9 g
    obtain ⟨_, _, rfl, ⟨a_9_0, c_9_0, rfl, r_9_0⟩, ⟨rfl, i_9_1⟩⟩ := s
    refine gTup_intro rfl (uncons_intro (gSlice_intro rfl (uncons_intro (gInt_intro rfl (unnil_intro (?_))))))
    have r_9_0 := r_9_0.from k0.le
    have m_1 := k_1.tame
    have bx2 := bx2.keep k_1
    have bx3 := bx3.keep k_1
    have bx4 := bx4.keep k_1
    have k0 := k0.trans k_1
    have kh := kh.trans k_1
    refine ldA bx2 (base_add _ _) rfl ?_
    refine gBool_intro rfl ?_
    refine hc_intro (num_told.hf r_9_0 rfl i_9_1) fun v h_2 ⟨k_2, s⟩ => ?_
    obtain ⟨p_10, hp_10⟩ : ∃ p, p = tellZ b2_0 (p_9.1, p_9.2) := ⟨_, rfl⟩
    rw [← hp_10] at s
    replace g := lift_let2 hp_10 g
    obtain ⟨_, _, rfl, ⟨a_10_0, c_10_0, rfl, r_10_0⟩, ⟨rfl, i_10_1⟩⟩ := s
    refine gTup_intro rfl (uncons_intro (gAgg_intro rfl (uncons_intro (gBool_intro rfl (uncons_intro (gSlice_intro rfl (unnil_intro (uncons_intro (gInt_intro rfl (unnil_intro (?_)))))))))))
    have m_2 := k_2.tame
    have bx2 := bx2.keep k_2
    have bx3 := bx3.keep k_2
    have bx4 := bx4.keep k_2
    have k0 := k0.trans k_2
    have kh := kh.trans k_2
    refine stA bx4 (base_add _ _) rfl fun h_3 bx4 k_3 m_3 => ?_
    have bx2 := bx2.keepB d2q4 k_3
    have bx3 := bx3.keepB d3q4 k_3
    have k0 := KeepB.keep k0 k_3 o4
    refine stA bx4 (base_add _ _) rfl fun h_4 bx4 k_4 m_4 => ?_
    have bx2 := bx2.keepB d2q4 k_4
    have bx3 := bx3.keepB d3q4 k_4
    have k0 := KeepB.keep k0 k_4 o4
    refine ldA bx4 (base_add _ _) rfl ?_
    refine gBool_intro rfl ?_
    refine ldA bx4 (base_add _ _) rfl ?_
    refine gSlice_intro rfl ?_
    exact g _ _ k0 ⟨_, _, rfl, ⟨_, _, rfl, (r_10_0.tame (m_3.trans m_4))⟩, ⟨rfl, i_10_1⟩⟩
  · refine ldA bx2 (base_add _ _) rfl ?_
    refine gSlice_intro rfl ?_
    refine ldA bx3 (base_add _ _) rfl ?_
    refine gSlice_intro rfl ?_
    refine hc_intro (nat_Cmp.hv r2_1 rfl r3_1 rfl) fun v h_1 ⟨k_1, s⟩ => ?_
    obtain ⟨rfl, i_11⟩ := s
    refine gInt_intro rfl (?_)
    have m_1 := k_1.tame
    have bx2 := bx2.keep k_1
    have bx3 := bx3.keep k_1
    have bx4 := bx4.keep k_1
    have k0 := k0.trans k_1
    have kh := kh.trans k_1
    refine lift_dec g (fun q_12 g => ?_) (fun q_12 g => ?_)
    · refine ldA bx3 (base_add _ _) rfl ?_
      refine gBool_intro rfl ?_
      refine ldA bx3 (base_add _ _) rfl ?_
      refine gSlice_intro rfl ?_
      refine ldA bx2 (base_add _ _) rfl ?_
      refine gBool_intro rfl ?_
      refine ldA bx2 (base_add _ _) rfl ?_
      refine gSlice_intro rfl ?_
      refine stA bx2 (base_add _ _) rfl fun h_2 bx2 k_2 m_2 => ?_
      have bx3 := bx3.keepB (Ne.symm d2q3) k_2
      have bx4 := bx4.keepB (Ne.symm d2q4) k_2
      have k0 := KeepB.keep k0 k_2 o2
      refine stA bx2 (base_add _ _) rfl fun h_3 bx2 k_3 m_3 => ?_
      have bx3 := bx3.keepB (Ne.symm d2q3) k_3
      have bx4 := bx4.keepB (Ne.symm d2q4) k_3
      have k0 := KeepB.keep k0 k_3 o2
      refine stA bx3 (base_add _ _) rfl fun h_4 bx3 k_4 m_4 => ?_
      have bx2 := bx2.keepB d2q3 k_4
      have bx4 := bx4.keepB (Ne.symm d3q4) k_4
      have k0 := KeepB.keep k0 k_4 o3
      refine stA bx3 (base_add _ _) rfl fun h_5 bx3 k_5 m_5 => ?_
      have bx2 := bx2.keepB d2q3 k_5
      have bx4 := bx4.keepB (Ne.symm d3q4) k_5
      have k0 := KeepB.keep k0 k_5 o3
      exact D3.hv k0 (r3_1.tame (m_1.trans (m_2.trans (m_3.trans (m_4.trans m_5))))) bx2 o2 (r2_1.tame (m_1.trans (m_2.trans (m_3.trans (m_4.trans m_5))))) bx3 o3 (r4_1.tame (m_1.trans (m_2.trans (m_3.trans (m_4.trans m_5))))) bx4 o4 d2q3 d2q4 d3q4 g
    · exact D3.hv k0 (r2_1.tame (m_1)) bx2 o2 (r3_1.tame (m_1)) bx3 o3 (r4_1.tame (m_1)) bx4 o4 d2q3 d2q4 d3q4 g
def D1.v (b0_0 : Bool) (xs0_1 : List Nat) (b1_0 : Bool) (xs1_1 : List Nat) : ((Bool × List Nat) × Int) :=
  letV (num_Form.v b0_0 xs0_1) fun p_4 =>
  bif (!p_4) then
    ((false, ([] : List Nat)), (2 : Int))
  else
    letV (num_Form.v b1_0 xs1_1) fun p_6 =>
    bif (!p_6) then
      ((false, ([] : List Nat)), (2 : Int))
    else
      D2.v b0_0 xs0_1 b1_0 xs1_1 false ([] : List Nat)
theorem D1.hv {R : Rt} {h0 h : Hp} (k0 : Keep h0 h) {b0_0 : Bool} {a0_1 : Option Addr} {c0_1 l0_1 : Nat} {xs0_1 : List Nat} (r0_1 : Rd h a0_1 c0_1 xs0_1) (e0_1 : l0_1 = xs0_1.length) {b1_0 : Bool} {a1_1 : Option Addr} {c1_1 l1_1 : Nat} {xs1_1 : List Nat} (r1_1 : Rd h a1_1 c1_1 xs1_1) (e1_1 : l1_1 = xs1_1.length) (g : Post (s2 sZW (sI .i64)) h0 R (D1.v b0_0 xs0_1 b1_0 xs1_1)) : D1.t R b0_0 a0_1 l0_1 c0_1 b1_0 a1_1 l1_1 c1_1 h := by
  subst e0_1 e1_1
  have kh := Keep.refl h
  unfold D1.v at g
  unfold D1.t
  refine boxV fun h_1 bx_1 k_1 => ?_
  have o_1 : h0.size ≤ h.size := k0.le
  have oh_1 : h.size ≤ h.size := kh.le
  have lt_1 := bx_1.lt
  have m_1 := k_1.tame
  have k0 := k0.trans k_1
  have kh := kh.trans k_1
  refine boxV fun h_2 bx_2 k_2 => ?_
  have d_1q_2 : h.size ≠ h_1.size := Nat.ne_of_lt bx_1.lt
  have o_2 : h0.size ≤ h_1.size := k0.le
  have oh_2 : h.size ≤ h_1.size := kh.le
  have lt_2 := bx_2.lt
  have m_2 := k_2.tame
  have bx_1 := bx_1.keep k_2
  have k0 := k0.trans k_2
  have kh := kh.trans k_2
  refine boxV fun h_3 bx_3 k_3 => ?_
  have d_1q_3 : h.size ≠ h_2.size := Nat.ne_of_lt bx_1.lt
  have d_2q_3 : h_1.size ≠ h_2.size := Nat.ne_of_lt bx_2.lt
  have o_3 : h0.size ≤ h_2.size := k0.le
  have oh_3 : h.size ≤ h_2.size := kh.le
  have lt_3 := bx_3.lt
  have m_3 := k_3.tame
  have bx_1 := bx_1.keep k_3
  have bx_2 := bx_2.keep k_3
  have k0 := k0.trans k_3
  have kh := kh.trans k_3
  refine ldA bx_1 (base_add _ _) rfl ?_
  refine gBool_intro rfl ?_
  refine ldA bx_1 (base_add _ _) rfl ?_
  refine gSlice_intro rfl ?_
  refine hc_intro (num_Form.hv (r0_1.tame (m_1.trans (m_2.trans m_3))) rfl) fun v h_4 ⟨k_4, s⟩ => ?_
  obtain ⟨p_4, hp_4⟩ : ∃ p, p = num_Form.v b0_0 xs0_1 := ⟨_, rfl⟩
  rw [← hp_4] at s
  replace g := lift_let2 hp_4 g
  obtain rfl := s
  refine gBool_intro rfl (?_)
  have m_4 := k_4.tame
  have bx_1 := bx_1.keep k_4
  have bx_2 := bx_2.keep k_4
  have bx_3 := bx_3.keep k_4
  have k0 := k0.trans k_4
  have kh := kh.trans k_4
  refine lift_not g (fun q_5 g => ?_) (fun q_5 g => ?_)
  · refine stA bx_3 (base_add _ _) rfl fun h_5 bx_3 k_5 m_5 => ?_
    have bx_1 := bx_1.keepB d_1q_3 k_5
    have bx_2 := bx_2.keepB d_2q_3 k_5
    have k0 := KeepB.keep k0 k_5 o_3
    have kh := KeepB.keep kh k_5 oh_3
    refine stA bx_3 (base_add _ _) rfl fun h_6 bx_3 k_6 m_6 => ?_
    have bx_1 := bx_1.keepB d_1q_3 k_6
    have bx_2 := bx_2.keepB d_2q_3 k_6
    have k0 := KeepB.keep k0 k_6 o_3
    have kh := KeepB.keep kh k_6 oh_3
    refine ldA bx_3 (base_add _ _) rfl ?_
    refine gBool_intro rfl ?_
    refine ldA bx_3 (base_add _ _) rfl ?_
    refine gSlice_intro rfl ?_
    exact g _ _ k0 ⟨_, _, rfl, ⟨_, _, rfl, (GotE.nil _ _)⟩, ⟨rfl, (show In .i64 (2 : Int) by decide)⟩⟩
  · refine ldA bx_2 (base_add _ _) rfl ?_
    refine gBool_intro rfl ?_
    refine ldA bx_2 (base_add _ _) rfl ?_
    refine gSlice_intro rfl ?_
    refine hc_intro (num_Form.hv (r1_1.tame (m_1.trans (m_2.trans (m_3.trans m_4)))) rfl) fun v h_5 ⟨k_5, s⟩ => ?_
    obtain ⟨p_6, hp_6⟩ : ∃ p, p = num_Form.v b1_0 xs1_1 := ⟨_, rfl⟩
    rw [← hp_6] at s
    replace g := lift_let2 hp_6 g
    obtain rfl := s
    refine gBool_intro rfl (?_)
    have m_5 := k_5.tame
    have bx_1 := bx_1.keep k_5
    have bx_2 := bx_2.keep k_5
    have bx_3 := bx_3.keep k_5
    have k0 := k0.trans k_5
    have kh := kh.trans k_5
    refine lift_not g (fun q_7 g => ?_) (fun q_7 g => ?_)
    · refine stA bx_3 (base_add _ _) rfl fun h_6 bx_3 k_6 m_6 => ?_
      have bx_1 := bx_1.keepB d_1q_3 k_6
      have bx_2 := bx_2.keepB d_2q_3 k_6
      have k0 := KeepB.keep k0 k_6 o_3
      have kh := KeepB.keep kh k_6 oh_3
      refine stA bx_3 (base_add _ _) rfl fun h_7 bx_3 k_7 m_7 => ?_
      have bx_1 := bx_1.keepB d_1q_3 k_7
      have bx_2 := bx_2.keepB d_2q_3 k_7
      have k0 := KeepB.keep k0 k_7 o_3
      have kh := KeepB.keep kh k_7 oh_3
      refine ldA bx_3 (base_add _ _) rfl ?_
      refine gBool_intro rfl ?_
      refine ldA bx_3 (base_add _ _) rfl ?_
      refine gSlice_intro rfl ?_
      exact g _ _ k0 ⟨_, _, rfl, ⟨_, _, rfl, (GotE.nil _ _)⟩, ⟨rfl, (show In .i64 (2 : Int) by decide)⟩⟩
    · exact D2.hv k0 (r0_1.tame (m_1.trans (m_2.trans (m_3.trans (m_4.trans m_5))))) bx_1 o_1 (r1_1.tame (m_1.trans (m_2.trans (m_3.trans (m_4.trans m_5))))) bx_2 o_2 (GotE.nil _ _) bx_3 o_3 d_1q_2 d_1q_3 d_2q_3 g
def v (b0_0 : Bool) (xs0_1 : List Nat) (b1_0 : Bool) (xs1_1 : List Nat) : ((Bool × List Nat) × Int) := D1.v b0_0 xs0_1 b1_0 xs1_1
theorem hv {h : Hp} {b0_0 : Bool} {a0_1 : Option Addr} {c0_1 l0_1 : Nat} {xs0_1 : List Nat} (r0_1 : Rd h a0_1 c0_1 xs0_1) (e0_1 : l0_1 = xs0_1.length) {b1_0 : Bool} {a1_1 : Option Addr} {c1_1 l1_1 : Nat} {xs1_1 : List Nat} (r1_1 : Rd h a1_1 c1_1 xs1_1) (e1_1 : l1_1 = xs1_1.length) : HC id #[.agg #[.bool b0_0, .slice a0_1 l0_1 c0_1], .agg #[.bool b1_0, .slice a1_1 l1_1 c1_1]] h fun v_ h_ => Keep h h_ ∧ (s2 sZW (sI .i64)) h h_ v_ (v b0_0 xs0_1 b1_0 xs1_1) :=
  ok (D1.hv (Keep.refl _) r0_1 e0_1 r1_1 e1_1 fun v h' k s => ⟨k, s⟩)
end num_Add

namespace num_Mul
def D2.v (b2_0 : Bool) (xs2_1 : List Nat) (b3_0 : Bool) (xs3_1 : List Nat) (b4_0 : Bool) (xs4_1 : List Nat) : ((Bool × List Nat) × Int) :=
  letV (mulS xs2_1 xs3_1) fun p_8 =>
  letV (tellZ ((!(b2_0 == b3_0))) (p_8.1, p_8.2)) fun p_9 =>
  ((p_9.1.1, p_9.1.2), p_9.2)
theorem D2.hv {R : Rt} {h0 h : Hp} (k0 : Keep h0 h) {b2_0 : Bool} {a2_1 : Option Addr} {c2_1 : Nat} {xs2_1 : List Nat} (r2_1 : Rd h a2_1 c2_1 xs2_1) {B2 : Nat} (bx2 : BlkV h B2 [.bool b2_0, .slice a2_1 xs2_1.length c2_1]) (o2 : h0.size ≤ B2) {b3_0 : Bool} {a3_1 : Option Addr} {c3_1 : Nat} {xs3_1 : List Nat} (r3_1 : Rd h a3_1 c3_1 xs3_1) {B3 : Nat} (bx3 : BlkV h B3 [.bool b3_0, .slice a3_1 xs3_1.length c3_1]) (o3 : h0.size ≤ B3) {b4_0 : Bool} {a4_1 : Option Addr} {c4_1 : Nat} {xs4_1 : List Nat} (r4_1 : GotE eU64 h0 h a4_1 c4_1 xs4_1) {B4 : Nat} (bx4 : BlkV h B4 [.bool b4_0, .slice a4_1 xs4_1.length c4_1]) (o4 : h0.size ≤ B4) (d2q3 : B2 ≠ B3) (d2q4 : B2 ≠ B4) (d3q4 : B3 ≠ B4) (g : Post (s2 sZW (sI .i64)) h0 R (D2.v b2_0 xs2_1 b3_0 xs3_1 b4_0 xs4_1)) : D2.t R (⟨B2, 0, none⟩ : Addr) (⟨B3, 0, none⟩ : Addr) (⟨B4, 0, none⟩ : Addr) h := by
  have kh := Keep.refl h
  have lt2 := bx2.lt
  have lt3 := bx3.lt
  have lt4 := bx4.lt
  unfold D2.v at g
  unfold D2.t
  refine ldA bx2 (base_add _ _) rfl ?_
  refine gSlice_intro rfl ?_
  refine ldA bx3 (base_add _ _) rfl ?_
  refine gSlice_intro rfl ?_
  refine hc_intro (natmul_Mul.hv r2_1 rfl r3_1 rfl) fun v h_1 ⟨k_1, s⟩ => ?_
  obtain ⟨p_8, hp_8⟩ : ∃ p, p = mulS xs2_1 xs3_1 := ⟨_, rfl⟩
  rw [← hp_8] at s
  replace g := lift_let2 hp_8 g
  obtain ⟨_, _, rfl, ⟨a_8_0, c_8_0, rfl, r_8_0⟩, ⟨rfl, i_8_1⟩⟩ := s
  refine gTup_intro rfl (uncons_intro (gSlice_intro rfl (uncons_intro (gInt_intro rfl (unnil_intro (?_))))))
  have r_8_0 := r_8_0.from k0.le
  have m_1 := k_1.tame
  have bx2 := bx2.keep k_1
  have bx3 := bx3.keep k_1
  have bx4 := bx4.keep k_1
  have k0 := k0.trans k_1
  have kh := kh.trans k_1
  refine ldA bx2 (base_add _ _) rfl ?_
  refine gBool_intro rfl ?_
  refine ldA bx3 (base_add _ _) rfl ?_
  refine gBool_intro rfl ?_
  refine hc_intro (num_told.hf r_8_0 rfl i_8_1) fun v h_2 ⟨k_2, s⟩ => ?_
  obtain ⟨p_9, hp_9⟩ : ∃ p, p = tellZ ((!(b2_0 == b3_0))) (p_8.1, p_8.2) := ⟨_, rfl⟩
  rw [← hp_9] at s
  replace g := lift_let2 hp_9 g
  obtain ⟨_, _, rfl, ⟨a_9_0, c_9_0, rfl, r_9_0⟩, ⟨rfl, i_9_1⟩⟩ := s
  refine gTup_intro rfl (uncons_intro (gAgg_intro rfl (uncons_intro (gBool_intro rfl (uncons_intro (gSlice_intro rfl (unnil_intro (uncons_intro (gInt_intro rfl (unnil_intro (?_)))))))))))
  have m_2 := k_2.tame
  have bx2 := bx2.keep k_2
  have bx3 := bx3.keep k_2
  have bx4 := bx4.keep k_2
  have k0 := k0.trans k_2
  have kh := kh.trans k_2
  refine stA bx4 (base_add _ _) rfl fun h_3 bx4 k_3 m_3 => ?_
  have bx2 := bx2.keepB d2q4 k_3
  have bx3 := bx3.keepB d3q4 k_3
  have k0 := KeepB.keep k0 k_3 o4
  refine stA bx4 (base_add _ _) rfl fun h_4 bx4 k_4 m_4 => ?_
  have bx2 := bx2.keepB d2q4 k_4
  have bx3 := bx3.keepB d3q4 k_4
  have k0 := KeepB.keep k0 k_4 o4
  refine ldA bx4 (base_add _ _) rfl ?_
  refine gBool_intro rfl ?_
  refine ldA bx4 (base_add _ _) rfl ?_
  refine gSlice_intro rfl ?_
  exact g _ _ k0 ⟨_, _, rfl, ⟨_, _, rfl, (r_9_0.tame (m_3.trans m_4))⟩, ⟨rfl, i_9_1⟩⟩
def D1.v (b0_0 : Bool) (xs0_1 : List Nat) (b1_0 : Bool) (xs1_1 : List Nat) : ((Bool × List Nat) × Int) :=
  letV (num_Form.v b0_0 xs0_1) fun p_4 =>
  bif (!p_4) then
    ((false, ([] : List Nat)), (2 : Int))
  else
    letV (num_Form.v b1_0 xs1_1) fun p_6 =>
    bif (!p_6) then
      ((false, ([] : List Nat)), (2 : Int))
    else
      D2.v b0_0 xs0_1 b1_0 xs1_1 false ([] : List Nat)
theorem D1.hv {R : Rt} {h0 h : Hp} (k0 : Keep h0 h) {b0_0 : Bool} {a0_1 : Option Addr} {c0_1 l0_1 : Nat} {xs0_1 : List Nat} (r0_1 : Rd h a0_1 c0_1 xs0_1) (e0_1 : l0_1 = xs0_1.length) {b1_0 : Bool} {a1_1 : Option Addr} {c1_1 l1_1 : Nat} {xs1_1 : List Nat} (r1_1 : Rd h a1_1 c1_1 xs1_1) (e1_1 : l1_1 = xs1_1.length) (g : Post (s2 sZW (sI .i64)) h0 R (D1.v b0_0 xs0_1 b1_0 xs1_1)) : D1.t R b0_0 a0_1 l0_1 c0_1 b1_0 a1_1 l1_1 c1_1 h := by
  subst e0_1 e1_1
  have kh := Keep.refl h
  unfold D1.v at g
  unfold D1.t
  refine boxV fun h_1 bx_1 k_1 => ?_
  have o_1 : h0.size ≤ h.size := k0.le
  have oh_1 : h.size ≤ h.size := kh.le
  have lt_1 := bx_1.lt
  have m_1 := k_1.tame
  have k0 := k0.trans k_1
  have kh := kh.trans k_1
  refine boxV fun h_2 bx_2 k_2 => ?_
  have d_1q_2 : h.size ≠ h_1.size := Nat.ne_of_lt bx_1.lt
  have o_2 : h0.size ≤ h_1.size := k0.le
  have oh_2 : h.size ≤ h_1.size := kh.le
  have lt_2 := bx_2.lt
  have m_2 := k_2.tame
  have bx_1 := bx_1.keep k_2
  have k0 := k0.trans k_2
  have kh := kh.trans k_2
  refine boxV fun h_3 bx_3 k_3 => ?_
  have d_1q_3 : h.size ≠ h_2.size := Nat.ne_of_lt bx_1.lt
  have d_2q_3 : h_1.size ≠ h_2.size := Nat.ne_of_lt bx_2.lt
  have o_3 : h0.size ≤ h_2.size := k0.le
  have oh_3 : h.size ≤ h_2.size := kh.le
  have lt_3 := bx_3.lt
  have m_3 := k_3.tame
  have bx_1 := bx_1.keep k_3
  have bx_2 := bx_2.keep k_3
  have k0 := k0.trans k_3
  have kh := kh.trans k_3
  refine ldA bx_1 (base_add _ _) rfl ?_
  refine gBool_intro rfl ?_
  refine ldA bx_1 (base_add _ _) rfl ?_
  refine gSlice_intro rfl ?_
  refine hc_intro (num_Form.hv (r0_1.tame (m_1.trans (m_2.trans m_3))) rfl) fun v h_4 ⟨k_4, s⟩ => ?_
  obtain ⟨p_4, hp_4⟩ : ∃ p, p = num_Form.v b0_0 xs0_1 := ⟨_, rfl⟩
  rw [← hp_4] at s
  replace g := lift_let2 hp_4 g
  obtain rfl := s
  refine gBool_intro rfl (?_)
  have m_4 := k_4.tame
  have bx_1 := bx_1.keep k_4
  have bx_2 := bx_2.keep k_4
  have bx_3 := bx_3.keep k_4
  have k0 := k0.trans k_4
  have kh := kh.trans k_4
  refine lift_not g (fun q_5 g => ?_) (fun q_5 g => ?_)
  · refine stA bx_3 (base_add _ _) rfl fun h_5 bx_3 k_5 m_5 => ?_
    have bx_1 := bx_1.keepB d_1q_3 k_5
    have bx_2 := bx_2.keepB d_2q_3 k_5
    have k0 := KeepB.keep k0 k_5 o_3
    have kh := KeepB.keep kh k_5 oh_3
    refine stA bx_3 (base_add _ _) rfl fun h_6 bx_3 k_6 m_6 => ?_
    have bx_1 := bx_1.keepB d_1q_3 k_6
    have bx_2 := bx_2.keepB d_2q_3 k_6
    have k0 := KeepB.keep k0 k_6 o_3
    have kh := KeepB.keep kh k_6 oh_3
    refine ldA bx_3 (base_add _ _) rfl ?_
    refine gBool_intro rfl ?_
    refine ldA bx_3 (base_add _ _) rfl ?_
    refine gSlice_intro rfl ?_
    exact g _ _ k0 ⟨_, _, rfl, ⟨_, _, rfl, (GotE.nil _ _)⟩, ⟨rfl, (show In .i64 (2 : Int) by decide)⟩⟩
  · refine ldA bx_2 (base_add _ _) rfl ?_
    refine gBool_intro rfl ?_
    refine ldA bx_2 (base_add _ _) rfl ?_
    refine gSlice_intro rfl ?_
    refine hc_intro (num_Form.hv (r1_1.tame (m_1.trans (m_2.trans (m_3.trans m_4)))) rfl) fun v h_5 ⟨k_5, s⟩ => ?_
    obtain ⟨p_6, hp_6⟩ : ∃ p, p = num_Form.v b1_0 xs1_1 := ⟨_, rfl⟩
    rw [← hp_6] at s
    replace g := lift_let2 hp_6 g
    obtain rfl := s
    refine gBool_intro rfl (?_)
    have m_5 := k_5.tame
    have bx_1 := bx_1.keep k_5
    have bx_2 := bx_2.keep k_5
    have bx_3 := bx_3.keep k_5
    have k0 := k0.trans k_5
    have kh := kh.trans k_5
    refine lift_not g (fun q_7 g => ?_) (fun q_7 g => ?_)
    · refine stA bx_3 (base_add _ _) rfl fun h_6 bx_3 k_6 m_6 => ?_
      have bx_1 := bx_1.keepB d_1q_3 k_6
      have bx_2 := bx_2.keepB d_2q_3 k_6
      have k0 := KeepB.keep k0 k_6 o_3
      have kh := KeepB.keep kh k_6 oh_3
      refine stA bx_3 (base_add _ _) rfl fun h_7 bx_3 k_7 m_7 => ?_
      have bx_1 := bx_1.keepB d_1q_3 k_7
      have bx_2 := bx_2.keepB d_2q_3 k_7
      have k0 := KeepB.keep k0 k_7 o_3
      have kh := KeepB.keep kh k_7 oh_3
      refine ldA bx_3 (base_add _ _) rfl ?_
      refine gBool_intro rfl ?_
      refine ldA bx_3 (base_add _ _) rfl ?_
      refine gSlice_intro rfl ?_
      exact g _ _ k0 ⟨_, _, rfl, ⟨_, _, rfl, (GotE.nil _ _)⟩, ⟨rfl, (show In .i64 (2 : Int) by decide)⟩⟩
    · exact D2.hv k0 (r0_1.tame (m_1.trans (m_2.trans (m_3.trans (m_4.trans m_5))))) bx_1 o_1 (r1_1.tame (m_1.trans (m_2.trans (m_3.trans (m_4.trans m_5))))) bx_2 o_2 (GotE.nil _ _) bx_3 o_3 d_1q_2 d_1q_3 d_2q_3 g
def v (b0_0 : Bool) (xs0_1 : List Nat) (b1_0 : Bool) (xs1_1 : List Nat) : ((Bool × List Nat) × Int) := D1.v b0_0 xs0_1 b1_0 xs1_1
theorem hv {h : Hp} {b0_0 : Bool} {a0_1 : Option Addr} {c0_1 l0_1 : Nat} {xs0_1 : List Nat} (r0_1 : Rd h a0_1 c0_1 xs0_1) (e0_1 : l0_1 = xs0_1.length) {b1_0 : Bool} {a1_1 : Option Addr} {c1_1 l1_1 : Nat} {xs1_1 : List Nat} (r1_1 : Rd h a1_1 c1_1 xs1_1) (e1_1 : l1_1 = xs1_1.length) : HC id #[.agg #[.bool b0_0, .slice a0_1 l0_1 c0_1], .agg #[.bool b1_0, .slice a1_1 l1_1 c1_1]] h fun v_ h_ => Keep h h_ ∧ (s2 sZW (sI .i64)) h h_ v_ (v b0_0 xs0_1 b1_0 xs1_1) :=
  ok (D1.hv (Keep.refl _) r0_1 e0_1 r1_1 e1_1 fun v h' k s => ⟨k, s⟩)
end num_Mul

namespace num_Shl
def D1.v (b0_0 : Bool) (xs0_1 : List Nat) (x1 : Int) : ((Bool × List Nat) × Int) :=
  bif (decide (x1 < (0 : Int))) then
    ((false, ([] : List Nat)), (1 : Int))
  else
    letV (num_Form.v b0_0 xs0_1) fun p_4 =>
    bif (!p_4) then
      ((false, ([] : List Nat)), (2 : Int))
    else
      letV (shlS xs0_1 x1) fun p_6 =>
      letV (tellZ b0_0 (p_6.1, p_6.2)) fun p_7 =>
      ((p_7.1.1, p_7.1.2), p_7.2)
theorem D1.hv {R : Rt} {h0 h : Hp} (k0 : Keep h0 h) {b0_0 : Bool} {a0_1 : Option Addr} {c0_1 l0_1 : Nat} {xs0_1 : List Nat} (r0_1 : Rd h a0_1 c0_1 xs0_1) (e0_1 : l0_1 = xs0_1.length) {x1 : Int} (i1 : In .i64 x1) (g : Post (s2 sZW (sI .i64)) h0 R (D1.v b0_0 xs0_1 x1)) : D1.t R b0_0 a0_1 l0_1 c0_1 x1 h := by
  subst e0_1
  have kh := Keep.refl h
  unfold D1.v at g
  unfold D1.t
  refine boxV fun h_1 bx_1 k_1 => ?_
  have o_1 : h0.size ≤ h.size := k0.le
  have oh_1 : h.size ≤ h.size := kh.le
  have lt_1 := bx_1.lt
  have m_1 := k_1.tame
  have k0 := k0.trans k_1
  have kh := kh.trans k_1
  refine boxV fun h_2 bx_2 k_2 => ?_
  have d_1q_2 : h.size ≠ h_1.size := Nat.ne_of_lt bx_1.lt
  have o_2 : h0.size ≤ h_1.size := k0.le
  have oh_2 : h.size ≤ h_1.size := kh.le
  have lt_2 := bx_2.lt
  have m_2 := k_2.tame
  have bx_1 := bx_1.keep k_2
  have k0 := k0.trans k_2
  have kh := kh.trans k_2
  refine lift_dec g (fun q_3 g => ?_) (fun q_3 g => ?_)
  · refine stA bx_2 (base_add _ _) rfl fun h_3 bx_2 k_3 m_3 => ?_
    have bx_1 := bx_1.keepB d_1q_2 k_3
    have k0 := KeepB.keep k0 k_3 o_2
    have kh := KeepB.keep kh k_3 oh_2
    refine stA bx_2 (base_add _ _) rfl fun h_4 bx_2 k_4 m_4 => ?_
    have bx_1 := bx_1.keepB d_1q_2 k_4
    have k0 := KeepB.keep k0 k_4 o_2
    have kh := KeepB.keep kh k_4 oh_2
    refine ldA bx_2 (base_add _ _) rfl ?_
    refine gBool_intro rfl ?_
    refine ldA bx_2 (base_add _ _) rfl ?_
    refine gSlice_intro rfl ?_
    exact g _ _ k0 ⟨_, _, rfl, ⟨_, _, rfl, (GotE.nil _ _)⟩, ⟨rfl, (show In .i64 (1 : Int) by decide)⟩⟩
  · refine ldA bx_1 (base_add _ _) rfl ?_
    refine gBool_intro rfl ?_
    refine ldA bx_1 (base_add _ _) rfl ?_
    refine gSlice_intro rfl ?_
    refine hc_intro (num_Form.hv (r0_1.tame (m_1.trans m_2)) rfl) fun v h_3 ⟨k_3, s⟩ => ?_
    obtain ⟨p_4, hp_4⟩ : ∃ p, p = num_Form.v b0_0 xs0_1 := ⟨_, rfl⟩
    rw [← hp_4] at s
    replace g := lift_let2 hp_4 g
    obtain rfl := s
    refine gBool_intro rfl (?_)
    have m_3 := k_3.tame
    have bx_1 := bx_1.keep k_3
    have bx_2 := bx_2.keep k_3
    have k0 := k0.trans k_3
    have kh := kh.trans k_3
    refine lift_not g (fun q_5 g => ?_) (fun q_5 g => ?_)
    · refine stA bx_2 (base_add _ _) rfl fun h_4 bx_2 k_4 m_4 => ?_
      have bx_1 := bx_1.keepB d_1q_2 k_4
      have k0 := KeepB.keep k0 k_4 o_2
      have kh := KeepB.keep kh k_4 oh_2
      refine stA bx_2 (base_add _ _) rfl fun h_5 bx_2 k_5 m_5 => ?_
      have bx_1 := bx_1.keepB d_1q_2 k_5
      have k0 := KeepB.keep k0 k_5 o_2
      have kh := KeepB.keep kh k_5 oh_2
      refine ldA bx_2 (base_add _ _) rfl ?_
      refine gBool_intro rfl ?_
      refine ldA bx_2 (base_add _ _) rfl ?_
      refine gSlice_intro rfl ?_
      exact g _ _ k0 ⟨_, _, rfl, ⟨_, _, rfl, (GotE.nil _ _)⟩, ⟨rfl, (show In .i64 (2 : Int) by decide)⟩⟩
    · refine ldA bx_1 (base_add _ _) rfl ?_
      refine gSlice_intro rfl ?_
      refine hc_intro (nat_Shl.hv (r0_1.tame (m_1.trans (m_2.trans m_3))) rfl i1) fun v h_4 ⟨k_4, s⟩ => ?_
      obtain ⟨p_6, hp_6⟩ : ∃ p, p = shlS xs0_1 x1 := ⟨_, rfl⟩
      rw [← hp_6] at s
      replace g := lift_let2 hp_6 g
      obtain ⟨_, _, rfl, ⟨a_6_0, c_6_0, rfl, r_6_0⟩, ⟨rfl, i_6_1⟩⟩ := s
      refine gTup_intro rfl (uncons_intro (gSlice_intro rfl (uncons_intro (gInt_intro rfl (unnil_intro (?_))))))
      have r_6_0 := r_6_0.from k0.le
      have m_4 := k_4.tame
      have bx_1 := bx_1.keep k_4
      have bx_2 := bx_2.keep k_4
      have k0 := k0.trans k_4
      have kh := kh.trans k_4
      refine ldA bx_1 (base_add _ _) rfl ?_
      refine gBool_intro rfl ?_
      refine hc_intro (num_told.hf r_6_0 rfl i_6_1) fun v h_5 ⟨k_5, s⟩ => ?_
      obtain ⟨p_7, hp_7⟩ : ∃ p, p = tellZ b0_0 (p_6.1, p_6.2) := ⟨_, rfl⟩
      rw [← hp_7] at s
      replace g := lift_let2 hp_7 g
      obtain ⟨_, _, rfl, ⟨a_7_0, c_7_0, rfl, r_7_0⟩, ⟨rfl, i_7_1⟩⟩ := s
      refine gTup_intro rfl (uncons_intro (gAgg_intro rfl (uncons_intro (gBool_intro rfl (uncons_intro (gSlice_intro rfl (unnil_intro (uncons_intro (gInt_intro rfl (unnil_intro (?_)))))))))))
      have m_5 := k_5.tame
      have bx_1 := bx_1.keep k_5
      have bx_2 := bx_2.keep k_5
      have k0 := k0.trans k_5
      have kh := kh.trans k_5
      refine stA bx_2 (base_add _ _) rfl fun h_6 bx_2 k_6 m_6 => ?_
      have bx_1 := bx_1.keepB d_1q_2 k_6
      have k0 := KeepB.keep k0 k_6 o_2
      have kh := KeepB.keep kh k_6 oh_2
      refine stA bx_2 (base_add _ _) rfl fun h_7 bx_2 k_7 m_7 => ?_
      have bx_1 := bx_1.keepB d_1q_2 k_7
      have k0 := KeepB.keep k0 k_7 o_2
      have kh := KeepB.keep kh k_7 oh_2
      refine ldA bx_2 (base_add _ _) rfl ?_
      refine gBool_intro rfl ?_
      refine ldA bx_2 (base_add _ _) rfl ?_
      refine gSlice_intro rfl ?_
      exact g _ _ k0 ⟨_, _, rfl, ⟨_, _, rfl, (r_7_0.tame (m_6.trans m_7))⟩, ⟨rfl, i_7_1⟩⟩
def v (b0_0 : Bool) (xs0_1 : List Nat) (x1 : Int) : ((Bool × List Nat) × Int) := D1.v b0_0 xs0_1 x1
theorem hv {h : Hp} {b0_0 : Bool} {a0_1 : Option Addr} {c0_1 l0_1 : Nat} {xs0_1 : List Nat} (r0_1 : Rd h a0_1 c0_1 xs0_1) (e0_1 : l0_1 = xs0_1.length) {x1 : Int} (i1 : In .i64 x1) : HC id #[.agg #[.bool b0_0, .slice a0_1 l0_1 c0_1], .int .i64 x1] h fun v_ h_ => Keep h h_ ∧ (s2 sZW (sI .i64)) h h_ v_ (v b0_0 xs0_1 x1) :=
  ok (D1.hv (Keep.refl _) r0_1 e0_1 i1 fun v h' k s => ⟨k, s⟩)
end num_Shl

namespace num_way_shr
def D3.v (x0 : Int) (b4_0 : Bool) (xs4_1 : List Nat) (b6_0 : Bool) (xs6_1 : List Nat) (xs8 : List Nat) (b10 : Bool) (x11 : Int) : ((Bool × List Nat) × Int) :=
  letV (madeZ x0 b4_0 xs8 b10 x11) fun p_14 =>
  ((p_14.1.1, p_14.1.2), p_14.2)
theorem D3.hv {R : Rt} {h0 h : Hp} (k0 : Keep h0 h) {x0 : Int} (i0 : In .i64 x0) {b4_0 : Bool} {a4_1 : Option Addr} {c4_1 : Nat} {xs4_1 : List Nat} (r4_1 : Rd h a4_1 c4_1 xs4_1) {B4 : Nat} (bx4 : BlkV h B4 [.bool b4_0, .slice a4_1 xs4_1.length c4_1]) (o4 : h0.size ≤ B4) {b6_0 : Bool} {a6_1 : Option Addr} {c6_1 : Nat} {xs6_1 : List Nat} (r6_1 : GotE eU64 h0 h a6_1 c6_1 xs6_1) {B6 : Nat} (bx6 : BlkV h B6 [.bool b6_0, .slice a6_1 xs6_1.length c6_1]) (o6 : h0.size ≤ B6) {a8 : Option Addr} {c8 l8 : Nat} {xs8 : List Nat} (r8 : GotE eU64 h0 h a8 c8 xs8) (e8 : l8 = xs8.length) {b10 : Bool} {x11 : Int} (i11 : In .i64 x11) (d4q6 : B4 ≠ B6) (tb : Tab h) (g : Post (s2 sZW (sI .i64)) h0 R (D3.v x0 b4_0 xs4_1 b6_0 xs6_1 xs8 b10 x11)) : D3.t R x0 (⟨B4, 0, none⟩ : Addr) (⟨B6, 0, none⟩ : Addr) a8 l8 c8 b10 x11 h := by
  subst e8
  have kh := Keep.refl h
  have lt4 := bx4.lt
  have lt6 := bx6.lt
  unfold D3.v at g
  unfold D3.t
  refine ldA bx4 (base_add _ _) rfl ?_
  refine gBool_intro rfl ?_
  refine hc_intro (num_way_made.hf k0.le i0 r8 rfl i11) fun v h_1 ⟨k_1, s⟩ => ?_
  obtain ⟨p_14, hp_14⟩ : ∃ p, p = madeZ x0 b4_0 xs8 b10 x11 := ⟨_, rfl⟩
  rw [← hp_14] at s
  replace g := lift_let2 hp_14 g
  obtain ⟨_, _, rfl, ⟨a_14_0, c_14_0, rfl, r_14_0⟩, ⟨rfl, i_14_1⟩⟩ := s
  refine gTup_intro rfl (uncons_intro (gAgg_intro rfl (uncons_intro (gBool_intro rfl (uncons_intro (gSlice_intro rfl (unnil_intro (uncons_intro (gInt_intro rfl (unnil_intro (?_)))))))))))
  have m_1 := k_1.tame
  have bx4 := bx4.keep k_1
  have bx6 := bx6.keep k_1
  have k0 := k0.trans k_1
  have kh := kh.trans k_1
  refine stA bx6 (base_add _ _) rfl fun h_2 bx6 k_2 m_2 => ?_
  have bx4 := bx4.keepB d4q6 k_2
  have k0 := KeepB.keep k0 k_2 o6
  refine stA bx6 (base_add _ _) rfl fun h_3 bx6 k_3 m_3 => ?_
  have bx4 := bx4.keepB d4q6 k_3
  have k0 := KeepB.keep k0 k_3 o6
  refine ldA bx6 (base_add _ _) rfl ?_
  refine gBool_intro rfl ?_
  refine ldA bx6 (base_add _ _) rfl ?_
  refine gSlice_intro rfl ?_
  exact g _ _ k0 ⟨_, _, rfl, ⟨_, _, rfl, (r_14_0.tame (m_2.trans m_3))⟩, ⟨rfl, i_14_1⟩⟩
def D2.v (x0 : Int) (x2 : Int) (b4_0 : Bool) (xs4_1 : List Nat) (b6_0 : Bool) (xs6_1 : List Nat) (xs8 : List Nat) (b10 : Bool) : ((Bool × List Nat) × Int) :=
  bif (bitS (val xs4_1) ((IntKind.i64.wrap (x2 - (1 : Int)))) == 1) then
    bif (((((ctz (val xs4_1) : Nat) : Int))) == ((IntKind.i64.wrap (x2 - (1 : Int))))) then
      D3.v x0 b4_0 xs4_1 b6_0 xs6_1 xs8 b10 (0 : Int)
    else
      D3.v x0 b4_0 xs4_1 b6_0 xs6_1 xs8 b10 (1 : Int)
  else
    D3.v x0 b4_0 xs4_1 b6_0 xs6_1 xs8 b10 (-1 : Int)
theorem D2.hv {R : Rt} {h0 h : Hp} (k0 : Keep h0 h) {x0 : Int} (i0 : In .i64 x0) {x2 : Int} (i2 : In .i64 x2) {b4_0 : Bool} {a4_1 : Option Addr} {c4_1 : Nat} {xs4_1 : List Nat} (r4_1 : Rd h a4_1 c4_1 xs4_1) {B4 : Nat} (bx4 : BlkV h B4 [.bool b4_0, .slice a4_1 xs4_1.length c4_1]) (o4 : h0.size ≤ B4) {b6_0 : Bool} {a6_1 : Option Addr} {c6_1 : Nat} {xs6_1 : List Nat} (r6_1 : GotE eU64 h0 h a6_1 c6_1 xs6_1) {B6 : Nat} (bx6 : BlkV h B6 [.bool b6_0, .slice a6_1 xs6_1.length c6_1]) (o6 : h0.size ≤ B6) {a8 : Option Addr} {c8 l8 : Nat} {xs8 : List Nat} (r8 : GotE eU64 h0 h a8 c8 xs8) (e8 : l8 = xs8.length) {b10 : Bool} (d4q6 : B4 ≠ B6) (tb : Tab h) (g : Post (s2 sZW (sI .i64)) h0 R (D2.v x0 x2 b4_0 xs4_1 b6_0 xs6_1 xs8 b10)) : D2.t R x0 x2 (⟨B4, 0, none⟩ : Addr) (⟨B6, 0, none⟩ : Addr) a8 l8 c8 b10 h := by
  subst e8
  have kh := Keep.refl h
  have lt4 := bx4.lt
  have lt6 := bx6.lt
  unfold D2.v at g
  unfold D2.t
  refine ldA bx4 (base_add _ _) rfl ?_
  refine gSlice_intro rfl ?_
  refine letK_out ?_
  refine hc_intro (nat_Bit.hv r4_1 rfl (in_wrap _ _)) fun v h_1 ⟨k_1, s⟩ => ?_
  obtain rfl := s
  refine gBool_intro rfl (?_)
  have m_1 := k_1.tame
  have bx4 := bx4.keep k_1
  have bx6 := bx6.keep k_1
  have k0 := k0.trans k_1
  have kh := kh.trans k_1
  refine lift_bool g (fun q_11 g => ?_) (fun q_11 g => ?_)
  · refine ldA bx4 (base_add _ _) rfl ?_
    refine gSlice_intro rfl ?_
    refine hc_intro (nat_Trail.hv (r4_1.tame (m_1)) rfl (tb.tame (m_1))) fun v h_2 ⟨k_2, s⟩ => ?_
    obtain ⟨rfl, i_12⟩ := s
    refine gInt_intro rfl (?_)
    have m_2 := k_2.tame
    have bx4 := bx4.keep k_2
    have bx6 := bx6.keep k_2
    have k0 := k0.trans k_2
    have kh := kh.trans k_2
    refine letK_out ?_
    refine lift_eq g (fun q_13 g => ?_) (fun q_13 g => ?_)
    · exact D3.hv k0 i0 (r4_1.tame (m_1.trans m_2)) bx4 o4 (r6_1.tame (m_1.trans m_2)) bx6 o6 (r8.tame (m_1.trans m_2)) rfl (show In .i64 (0 : Int) by decide) d4q6 (tb.tame (m_1.trans m_2)) g
    · exact D3.hv k0 i0 (r4_1.tame (m_1.trans m_2)) bx4 o4 (r6_1.tame (m_1.trans m_2)) bx6 o6 (r8.tame (m_1.trans m_2)) rfl (show In .i64 (1 : Int) by decide) d4q6 (tb.tame (m_1.trans m_2)) g
  · exact D3.hv k0 i0 (r4_1.tame (m_1)) bx4 o4 (r6_1.tame (m_1)) bx6 o6 (r8.tame (m_1)) rfl (show In .i64 (-1 : Int) by decide) d4q6 (tb.tame (m_1)) g
def D1.v (x0 : Int) (b1_0 : Bool) (xs1_1 : List Nat) (x2 : Int) : ((Bool × List Nat) × Int) :=
  bif (decide (x2 < (0 : Int))) then
    ((false, ([] : List Nat)), (1 : Int))
  else
    letV (num_Form.v b1_0 xs1_1) fun p_4 =>
    bif (!p_4) then
      ((false, ([] : List Nat)), (2 : Int))
    else
      letV (shrS xs1_1 x2) fun p_6 =>
      bif (p_6.2 != (0 : Int)) then
        ((false, ([] : List Nat)), p_6.2)
      else
        bif (decide ((((xs1_1.length : Nat) : Int)) > (0 : Int))) then
          D2.v x0 x2 b1_0 xs1_1 false ([] : List Nat) p_6.1 ((decide (((((ctz (val xs1_1) : Nat) : Int))) < x2)))
        else
          D2.v x0 x2 b1_0 xs1_1 false ([] : List Nat) p_6.1 false
theorem D1.hv {R : Rt} {h0 h : Hp} (k0 : Keep h0 h) {x0 : Int} (i0 : In .i64 x0) {b1_0 : Bool} {a1_1 : Option Addr} {c1_1 l1_1 : Nat} {xs1_1 : List Nat} (r1_1 : Rd h a1_1 c1_1 xs1_1) (e1_1 : l1_1 = xs1_1.length) {x2 : Int} (i2 : In .i64 x2) (tb : Tab h) (g : Post (s2 sZW (sI .i64)) h0 R (D1.v x0 b1_0 xs1_1 x2)) : D1.t R x0 b1_0 a1_1 l1_1 c1_1 x2 h := by
  subst e1_1
  have kh := Keep.refl h
  unfold D1.v at g
  unfold D1.t
  refine boxV fun h_1 bx_1 k_1 => ?_
  have o_1 : h0.size ≤ h.size := k0.le
  have oh_1 : h.size ≤ h.size := kh.le
  have lt_1 := bx_1.lt
  have m_1 := k_1.tame
  have k0 := k0.trans k_1
  have kh := kh.trans k_1
  refine boxV fun h_2 bx_2 k_2 => ?_
  have d_1q_2 : h.size ≠ h_1.size := Nat.ne_of_lt bx_1.lt
  have o_2 : h0.size ≤ h_1.size := k0.le
  have oh_2 : h.size ≤ h_1.size := kh.le
  have lt_2 := bx_2.lt
  have m_2 := k_2.tame
  have bx_1 := bx_1.keep k_2
  have k0 := k0.trans k_2
  have kh := kh.trans k_2
  refine lift_dec g (fun q_3 g => ?_) (fun q_3 g => ?_)
  · refine stA bx_2 (base_add _ _) rfl fun h_3 bx_2 k_3 m_3 => ?_
    have bx_1 := bx_1.keepB d_1q_2 k_3
    have k0 := KeepB.keep k0 k_3 o_2
    have kh := KeepB.keep kh k_3 oh_2
    refine stA bx_2 (base_add _ _) rfl fun h_4 bx_2 k_4 m_4 => ?_
    have bx_1 := bx_1.keepB d_1q_2 k_4
    have k0 := KeepB.keep k0 k_4 o_2
    have kh := KeepB.keep kh k_4 oh_2
    refine ldA bx_2 (base_add _ _) rfl ?_
    refine gBool_intro rfl ?_
    refine ldA bx_2 (base_add _ _) rfl ?_
    refine gSlice_intro rfl ?_
    exact g _ _ k0 ⟨_, _, rfl, ⟨_, _, rfl, (GotE.nil _ _)⟩, ⟨rfl, (show In .i64 (1 : Int) by decide)⟩⟩
  · refine ldA bx_1 (base_add _ _) rfl ?_
    refine gBool_intro rfl ?_
    refine ldA bx_1 (base_add _ _) rfl ?_
    refine gSlice_intro rfl ?_
    refine hc_intro (num_Form.hv (r1_1.tame (m_1.trans m_2)) rfl) fun v h_3 ⟨k_3, s⟩ => ?_
    obtain ⟨p_4, hp_4⟩ : ∃ p, p = num_Form.v b1_0 xs1_1 := ⟨_, rfl⟩
    rw [← hp_4] at s
    replace g := lift_let2 hp_4 g
    obtain rfl := s
    refine gBool_intro rfl (?_)
    have m_3 := k_3.tame
    have bx_1 := bx_1.keep k_3
    have bx_2 := bx_2.keep k_3
    have k0 := k0.trans k_3
    have kh := kh.trans k_3
    refine lift_not g (fun q_5 g => ?_) (fun q_5 g => ?_)
    · refine stA bx_2 (base_add _ _) rfl fun h_4 bx_2 k_4 m_4 => ?_
      have bx_1 := bx_1.keepB d_1q_2 k_4
      have k0 := KeepB.keep k0 k_4 o_2
      have kh := KeepB.keep kh k_4 oh_2
      refine stA bx_2 (base_add _ _) rfl fun h_5 bx_2 k_5 m_5 => ?_
      have bx_1 := bx_1.keepB d_1q_2 k_5
      have k0 := KeepB.keep k0 k_5 o_2
      have kh := KeepB.keep kh k_5 oh_2
      refine ldA bx_2 (base_add _ _) rfl ?_
      refine gBool_intro rfl ?_
      refine ldA bx_2 (base_add _ _) rfl ?_
      refine gSlice_intro rfl ?_
      exact g _ _ k0 ⟨_, _, rfl, ⟨_, _, rfl, (GotE.nil _ _)⟩, ⟨rfl, (show In .i64 (2 : Int) by decide)⟩⟩
    · refine ldA bx_1 (base_add _ _) rfl ?_
      refine gSlice_intro rfl ?_
      refine hc_intro (nat_Shr.hv (r1_1.tame (m_1.trans (m_2.trans m_3))) rfl i2) fun v h_4 ⟨k_4, s⟩ => ?_
      obtain ⟨p_6, hp_6⟩ : ∃ p, p = shrS xs1_1 x2 := ⟨_, rfl⟩
      rw [← hp_6] at s
      replace g := lift_let2 hp_6 g
      obtain ⟨_, _, rfl, ⟨a_6_0, c_6_0, rfl, r_6_0⟩, ⟨rfl, i_6_1⟩⟩ := s
      refine gTup_intro rfl (uncons_intro (gSlice_intro rfl (uncons_intro (gInt_intro rfl (unnil_intro (?_))))))
      have r_6_0 := r_6_0.from k0.le
      have m_4 := k_4.tame
      have bx_1 := bx_1.keep k_4
      have bx_2 := bx_2.keep k_4
      have k0 := k0.trans k_4
      have kh := kh.trans k_4
      refine lift_ne g (fun q_7 g => ?_) (fun q_7 g => ?_)
      · refine stA bx_2 (base_add _ _) rfl fun h_5 bx_2 k_5 m_5 => ?_
        have bx_1 := bx_1.keepB d_1q_2 k_5
        have k0 := KeepB.keep k0 k_5 o_2
        have kh := KeepB.keep kh k_5 oh_2
        refine stA bx_2 (base_add _ _) rfl fun h_6 bx_2 k_6 m_6 => ?_
        have bx_1 := bx_1.keepB d_1q_2 k_6
        have k0 := KeepB.keep k0 k_6 o_2
        have kh := KeepB.keep kh k_6 oh_2
        refine ldA bx_2 (base_add _ _) rfl ?_
        refine gBool_intro rfl ?_
        refine ldA bx_2 (base_add _ _) rfl ?_
        refine gSlice_intro rfl ?_
        exact g _ _ k0 ⟨_, _, rfl, ⟨_, _, rfl, (GotE.nil _ _)⟩, ⟨rfl, i_6_1⟩⟩
      · refine ldA bx_1 (base_add _ _) rfl ?_
        refine gSlice_intro rfl ?_
        refine lift_dec g (fun q_8 g => ?_) (fun q_8 g => ?_)
        · refine ldA bx_1 (base_add _ _) rfl ?_
          refine gSlice_intro rfl ?_
          refine hc_intro (nat_Trail.hv (r1_1.tame (m_1.trans (m_2.trans (m_3.trans m_4)))) rfl (tb.tame (m_1.trans (m_2.trans (m_3.trans m_4))))) fun v h_5 ⟨k_5, s⟩ => ?_
          obtain ⟨rfl, i_9⟩ := s
          refine gInt_intro rfl (?_)
          have m_5 := k_5.tame
          have bx_1 := bx_1.keep k_5
          have bx_2 := bx_2.keep k_5
          have k0 := k0.trans k_5
          have kh := kh.trans k_5
          exact D2.hv k0 i0 i2 (r1_1.tame (m_1.trans (m_2.trans (m_3.trans (m_4.trans m_5))))) bx_1 o_1 (GotE.nil _ _) bx_2 o_2 (r_6_0.tame (m_5)) rfl d_1q_2 (tb.tame (m_1.trans (m_2.trans (m_3.trans (m_4.trans m_5))))) g
        · exact D2.hv k0 i0 i2 (r1_1.tame (m_1.trans (m_2.trans (m_3.trans m_4)))) bx_1 o_1 (GotE.nil _ _) bx_2 o_2 r_6_0 rfl d_1q_2 (tb.tame (m_1.trans (m_2.trans (m_3.trans m_4)))) g
def v (x0 : Int) (b1_0 : Bool) (xs1_1 : List Nat) (x2 : Int) : ((Bool × List Nat) × Int) := D1.v x0 b1_0 xs1_1 x2
theorem hv {h : Hp} {x0 : Int} (i0 : In .i64 x0) {b1_0 : Bool} {a1_1 : Option Addr} {c1_1 l1_1 : Nat} {xs1_1 : List Nat} (r1_1 : Rd h a1_1 c1_1 xs1_1) (e1_1 : l1_1 = xs1_1.length) {x2 : Int} (i2 : In .i64 x2) (tb : Tab h) : HC id #[.int .i64 x0, .agg #[.bool b1_0, .slice a1_1 l1_1 c1_1], .int .i64 x2] h fun v_ h_ => Keep h h_ ∧ (s2 sZW (sI .i64)) h h_ v_ (v x0 b1_0 xs1_1 x2) :=
  ok (D1.hv (Keep.refl _) i0 r1_1 e1_1 i2 tb fun v h' k s => ⟨k, s⟩)
end num_way_shr

namespace num_way_div
def D2.v (x0 : Int) (b4_0 : Bool) (xs4_1 : List Nat) (b5_0 : Bool) (xs5_1 : List Nat) (b6_0 : Bool) (xs6_1 : List Nat) : ((Bool × List Nat) × Int) :=
  bif ((((xs5_1.length : Nat) : Int)) == (0 : Int)) then
    ((false, ([] : List Nat)), (4 : Int))
  else
    letV (quoS xs4_1 xs5_1) fun p_9 =>
    bif (p_9.2.2 != (0 : Int)) then
      ((false, ([] : List Nat)), p_9.2.2)
    else
      letV (subS xs5_1 p_9.2.1) fun p_11 =>
      bif (p_11.2 != (0 : Int)) then
        ((false, ([] : List Nat)), p_11.2)
      else
        letV (madeZ x0 ((!(b4_0 == b5_0))) p_9.1 ((decide ((((p_9.2.1.length : Nat) : Int)) > (0 : Int)))) ((cmpI (val p_9.2.1) (val p_11.1)))) fun p_14 =>
        ((p_14.1.1, p_14.1.2), p_14.2)
theorem D2.hv {R : Rt} {h0 h : Hp} (k0 : Keep h0 h) {x0 : Int} (i0 : In .i64 x0) {b4_0 : Bool} {a4_1 : Option Addr} {c4_1 : Nat} {xs4_1 : List Nat} (r4_1 : Rd h a4_1 c4_1 xs4_1) {B4 : Nat} (bx4 : BlkV h B4 [.bool b4_0, .slice a4_1 xs4_1.length c4_1]) (o4 : h0.size ≤ B4) {b5_0 : Bool} {a5_1 : Option Addr} {c5_1 : Nat} {xs5_1 : List Nat} (r5_1 : Rd h a5_1 c5_1 xs5_1) {B5 : Nat} (bx5 : BlkV h B5 [.bool b5_0, .slice a5_1 xs5_1.length c5_1]) (o5 : h0.size ≤ B5) {b6_0 : Bool} {a6_1 : Option Addr} {c6_1 : Nat} {xs6_1 : List Nat} (r6_1 : GotE eU64 h0 h a6_1 c6_1 xs6_1) {B6 : Nat} (bx6 : BlkV h B6 [.bool b6_0, .slice a6_1 xs6_1.length c6_1]) (o6 : h0.size ≤ B6) (d4q5 : B4 ≠ B5) (d4q6 : B4 ≠ B6) (d5q6 : B5 ≠ B6) (g : Post (s2 sZW (sI .i64)) h0 R (D2.v x0 b4_0 xs4_1 b5_0 xs5_1 b6_0 xs6_1)) : D2.t R x0 (⟨B4, 0, none⟩ : Addr) (⟨B5, 0, none⟩ : Addr) (⟨B6, 0, none⟩ : Addr) h := by
  have kh := Keep.refl h
  have lt4 := bx4.lt
  have lt5 := bx5.lt
  have lt6 := bx6.lt
  unfold D2.v at g
  unfold D2.t
  refine ldA bx5 (base_add _ _) rfl ?_
  refine gSlice_intro rfl ?_
  refine lift_eq g (fun q_8 g => ?_) (fun q_8 g => ?_)
  · refine stA bx6 (base_add _ _) rfl fun h_1 bx6 k_1 m_1 => ?_
    have bx4 := bx4.keepB d4q6 k_1
    have bx5 := bx5.keepB d5q6 k_1
    have k0 := KeepB.keep k0 k_1 o6
    refine stA bx6 (base_add _ _) rfl fun h_2 bx6 k_2 m_2 => ?_
    have bx4 := bx4.keepB d4q6 k_2
    have bx5 := bx5.keepB d5q6 k_2
    have k0 := KeepB.keep k0 k_2 o6
    refine ldA bx6 (base_add _ _) rfl ?_
    refine gBool_intro rfl ?_
    refine ldA bx6 (base_add _ _) rfl ?_
    refine gSlice_intro rfl ?_
    exact g _ _ k0 ⟨_, _, rfl, ⟨_, _, rfl, (GotE.nil _ _)⟩, ⟨rfl, (show In .i64 (4 : Int) by decide)⟩⟩
  · refine ldA bx4 (base_add _ _) rfl ?_
    refine gSlice_intro rfl ?_
    refine ldA bx5 (base_add _ _) rfl ?_
    refine gSlice_intro rfl ?_
    refine hc_intro (natdiv_QuoRem.hv r4_1 rfl r5_1 rfl) fun v h_1 ⟨k_1, s⟩ => ?_
    obtain ⟨p_9, hp_9⟩ : ∃ p, p = quoS xs4_1 xs5_1 := ⟨_, rfl⟩
    rw [← hp_9] at s
    replace g := lift_let2 hp_9 g
    obtain ⟨_, _, _, rfl, ⟨a_9_0, c_9_0, rfl, r_9_0⟩, ⟨a_9_1, c_9_1, rfl, r_9_1⟩, ⟨rfl, i_9_2⟩⟩ := s
    refine gTup_intro rfl (uncons_intro (gSlice_intro rfl (uncons_intro (gSlice_intro rfl (uncons_intro (gInt_intro rfl (unnil_intro (?_))))))))
    have r_9_0 := r_9_0.from k0.le
    have r_9_1 := r_9_1.from k0.le
    have m_1 := k_1.tame
    have bx4 := bx4.keep k_1
    have bx5 := bx5.keep k_1
    have bx6 := bx6.keep k_1
    have k0 := k0.trans k_1
    have kh := kh.trans k_1
    refine lift_ne g (fun q_10 g => ?_) (fun q_10 g => ?_)
    · refine stA bx6 (base_add _ _) rfl fun h_2 bx6 k_2 m_2 => ?_
      have bx4 := bx4.keepB d4q6 k_2
      have bx5 := bx5.keepB d5q6 k_2
      have k0 := KeepB.keep k0 k_2 o6
      refine stA bx6 (base_add _ _) rfl fun h_3 bx6 k_3 m_3 => ?_
      have bx4 := bx4.keepB d4q6 k_3
      have bx5 := bx5.keepB d5q6 k_3
      have k0 := KeepB.keep k0 k_3 o6
      refine ldA bx6 (base_add _ _) rfl ?_
      refine gBool_intro rfl ?_
      refine ldA bx6 (base_add _ _) rfl ?_
      refine gSlice_intro rfl ?_
      exact g _ _ k0 ⟨_, _, rfl, ⟨_, _, rfl, (GotE.nil _ _)⟩, ⟨rfl, i_9_2⟩⟩
    · refine ldA bx5 (base_add _ _) rfl ?_
      refine gSlice_intro rfl ?_
      refine hc_intro (nat_Sub.hv (r5_1.tame (m_1)) rfl r_9_1.rd64 rfl) fun v h_2 ⟨k_2, s⟩ => ?_
      obtain ⟨p_11, hp_11⟩ : ∃ p, p = subS xs5_1 p_9.2.1 := ⟨_, rfl⟩
      rw [← hp_11] at s
      replace g := lift_let2 hp_11 g
      obtain ⟨_, _, rfl, ⟨a_11_0, c_11_0, rfl, r_11_0⟩, ⟨rfl, i_11_1⟩⟩ := s
      refine gTup_intro rfl (uncons_intro (gSlice_intro rfl (uncons_intro (gInt_intro rfl (unnil_intro (?_))))))
      have r_11_0 := r_11_0.from k0.le
      have m_2 := k_2.tame
      have bx4 := bx4.keep k_2
      have bx5 := bx5.keep k_2
      have bx6 := bx6.keep k_2
      have k0 := k0.trans k_2
      have kh := kh.trans k_2
      refine lift_ne g (fun q_12 g => ?_) (fun q_12 g => ?_)
      · refine stA bx6 (base_add _ _) rfl fun h_3 bx6 k_3 m_3 => ?_
        have bx4 := bx4.keepB d4q6 k_3
        have bx5 := bx5.keepB d5q6 k_3
        have k0 := KeepB.keep k0 k_3 o6
        refine stA bx6 (base_add _ _) rfl fun h_4 bx6 k_4 m_4 => ?_
        have bx4 := bx4.keepB d4q6 k_4
        have bx5 := bx5.keepB d5q6 k_4
        have k0 := KeepB.keep k0 k_4 o6
        refine ldA bx6 (base_add _ _) rfl ?_
        refine gBool_intro rfl ?_
        refine ldA bx6 (base_add _ _) rfl ?_
        refine gSlice_intro rfl ?_
        exact g _ _ k0 ⟨_, _, rfl, ⟨_, _, rfl, (GotE.nil _ _)⟩, ⟨rfl, i_11_1⟩⟩
      · refine ⟨blkLt (base_add _ _) ((m_1.trans m_2).lt lt4), ?_⟩
        refine ldA bx4 (base_add _ _) rfl ?_
        refine gBool_intro rfl ?_
        refine ⟨blkLt (base_add _ _) ((m_1.trans m_2).lt lt5), ?_⟩
        refine ldA bx5 (base_add _ _) rfl ?_
        refine gBool_intro rfl ?_
        refine hc_intro (nat_Cmp.hv (r_9_1.tame (m_2)).rd64 rfl r_11_0.rd64 rfl) fun v h_3 ⟨k_3, s⟩ => ?_
        obtain ⟨rfl, i_13⟩ := s
        refine gInt_intro rfl (?_)
        have m_3 := k_3.tame
        have bx4 := bx4.keep k_3
        have bx5 := bx5.keep k_3
        have bx6 := bx6.keep k_3
        have k0 := k0.trans k_3
        have kh := kh.trans k_3
        refine ⟨k_3.preLe (Nat.le_refl _), ?_⟩
        refine hc_intro (num_way_made.hf k0.le i0 (r_9_0.tame (m_2.trans m_3)) rfl i_13) fun v h_4 ⟨k_4, s⟩ => ?_
        obtain ⟨p_14, hp_14⟩ : ∃ p, p = madeZ x0 ((!(b4_0 == b5_0))) p_9.1 ((decide ((((p_9.2.1.length : Nat) : Int)) > (0 : Int)))) ((cmpI (val p_9.2.1) (val p_11.1))) := ⟨_, rfl⟩
        rw [← hp_14] at s
        replace g := lift_let2 hp_14 g
        obtain ⟨_, _, rfl, ⟨a_14_0, c_14_0, rfl, r_14_0⟩, ⟨rfl, i_14_1⟩⟩ := s
        refine gTup_intro rfl (uncons_intro (gAgg_intro rfl (uncons_intro (gBool_intro rfl (uncons_intro (gSlice_intro rfl (unnil_intro (uncons_intro (gInt_intro rfl (unnil_intro (?_)))))))))))
        have m_4 := k_4.tame
        have bx4 := bx4.keep k_4
        have bx5 := bx5.keep k_4
        have bx6 := bx6.keep k_4
        have k0 := k0.trans k_4
        have kh := kh.trans k_4
        refine ⟨k_4.preLe (m_3).le, ?_⟩
        refine stA bx6 (base_add _ _) rfl fun h_5 bx6 k_5 m_5 => ?_
        have bx4 := bx4.keepB d4q6 k_5
        have bx5 := bx5.keepB d5q6 k_5
        have k0 := KeepB.keep k0 k_5 o6
        refine stA bx6 (base_add _ _) rfl fun h_6 bx6 k_6 m_6 => ?_
        have bx4 := bx4.keepB d4q6 k_6
        have bx5 := bx5.keepB d5q6 k_6
        have k0 := KeepB.keep k0 k_6 o6
        refine ldA bx6 (base_add _ _) rfl ?_
        refine gBool_intro rfl ?_
        refine ldA bx6 (base_add _ _) rfl ?_
        refine gSlice_intro rfl ?_
        exact g _ _ k0 ⟨_, _, rfl, ⟨_, _, rfl, (r_14_0.tame (m_5.trans m_6))⟩, ⟨rfl, i_14_1⟩⟩
def D1.v (x0 : Int) (b1_0 : Bool) (xs1_1 : List Nat) (b2_0 : Bool) (xs2_1 : List Nat) : ((Bool × List Nat) × Int) :=
  letV (num_Form.v b1_0 xs1_1) fun p_4 =>
  bif (!p_4) then
    ((false, ([] : List Nat)), (2 : Int))
  else
    letV (num_Form.v b2_0 xs2_1) fun p_6 =>
    bif (!p_6) then
      ((false, ([] : List Nat)), (2 : Int))
    else
      D2.v x0 b1_0 xs1_1 b2_0 xs2_1 false ([] : List Nat)
theorem D1.hv {R : Rt} {h0 h : Hp} (k0 : Keep h0 h) {x0 : Int} (i0 : In .i64 x0) {b1_0 : Bool} {a1_1 : Option Addr} {c1_1 l1_1 : Nat} {xs1_1 : List Nat} (r1_1 : Rd h a1_1 c1_1 xs1_1) (e1_1 : l1_1 = xs1_1.length) {b2_0 : Bool} {a2_1 : Option Addr} {c2_1 l2_1 : Nat} {xs2_1 : List Nat} (r2_1 : Rd h a2_1 c2_1 xs2_1) (e2_1 : l2_1 = xs2_1.length) (g : Post (s2 sZW (sI .i64)) h0 R (D1.v x0 b1_0 xs1_1 b2_0 xs2_1)) : D1.t R x0 b1_0 a1_1 l1_1 c1_1 b2_0 a2_1 l2_1 c2_1 h := by
  subst e1_1 e2_1
  have kh := Keep.refl h
  unfold D1.v at g
  unfold D1.t
  refine boxV fun h_1 bx_1 k_1 => ?_
  have o_1 : h0.size ≤ h.size := k0.le
  have oh_1 : h.size ≤ h.size := kh.le
  have lt_1 := bx_1.lt
  have m_1 := k_1.tame
  have k0 := k0.trans k_1
  have kh := kh.trans k_1
  refine boxV fun h_2 bx_2 k_2 => ?_
  have d_1q_2 : h.size ≠ h_1.size := Nat.ne_of_lt bx_1.lt
  have o_2 : h0.size ≤ h_1.size := k0.le
  have oh_2 : h.size ≤ h_1.size := kh.le
  have lt_2 := bx_2.lt
  have m_2 := k_2.tame
  have bx_1 := bx_1.keep k_2
  have k0 := k0.trans k_2
  have kh := kh.trans k_2
  refine boxV fun h_3 bx_3 k_3 => ?_
  have d_1q_3 : h.size ≠ h_2.size := Nat.ne_of_lt bx_1.lt
  have d_2q_3 : h_1.size ≠ h_2.size := Nat.ne_of_lt bx_2.lt
  have o_3 : h0.size ≤ h_2.size := k0.le
  have oh_3 : h.size ≤ h_2.size := kh.le
  have lt_3 := bx_3.lt
  have m_3 := k_3.tame
  have bx_1 := bx_1.keep k_3
  have bx_2 := bx_2.keep k_3
  have k0 := k0.trans k_3
  have kh := kh.trans k_3
  refine ldA bx_1 (base_add _ _) rfl ?_
  refine gBool_intro rfl ?_
  refine ldA bx_1 (base_add _ _) rfl ?_
  refine gSlice_intro rfl ?_
  refine hc_intro (num_Form.hv (r1_1.tame (m_1.trans (m_2.trans m_3))) rfl) fun v h_4 ⟨k_4, s⟩ => ?_
  obtain ⟨p_4, hp_4⟩ : ∃ p, p = num_Form.v b1_0 xs1_1 := ⟨_, rfl⟩
  rw [← hp_4] at s
  replace g := lift_let2 hp_4 g
  obtain rfl := s
  refine gBool_intro rfl (?_)
  have m_4 := k_4.tame
  have bx_1 := bx_1.keep k_4
  have bx_2 := bx_2.keep k_4
  have bx_3 := bx_3.keep k_4
  have k0 := k0.trans k_4
  have kh := kh.trans k_4
  refine lift_not g (fun q_5 g => ?_) (fun q_5 g => ?_)
  · refine stA bx_3 (base_add _ _) rfl fun h_5 bx_3 k_5 m_5 => ?_
    have bx_1 := bx_1.keepB d_1q_3 k_5
    have bx_2 := bx_2.keepB d_2q_3 k_5
    have k0 := KeepB.keep k0 k_5 o_3
    have kh := KeepB.keep kh k_5 oh_3
    refine stA bx_3 (base_add _ _) rfl fun h_6 bx_3 k_6 m_6 => ?_
    have bx_1 := bx_1.keepB d_1q_3 k_6
    have bx_2 := bx_2.keepB d_2q_3 k_6
    have k0 := KeepB.keep k0 k_6 o_3
    have kh := KeepB.keep kh k_6 oh_3
    refine ldA bx_3 (base_add _ _) rfl ?_
    refine gBool_intro rfl ?_
    refine ldA bx_3 (base_add _ _) rfl ?_
    refine gSlice_intro rfl ?_
    exact g _ _ k0 ⟨_, _, rfl, ⟨_, _, rfl, (GotE.nil _ _)⟩, ⟨rfl, (show In .i64 (2 : Int) by decide)⟩⟩
  · refine ldA bx_2 (base_add _ _) rfl ?_
    refine gBool_intro rfl ?_
    refine ldA bx_2 (base_add _ _) rfl ?_
    refine gSlice_intro rfl ?_
    refine hc_intro (num_Form.hv (r2_1.tame (m_1.trans (m_2.trans (m_3.trans m_4)))) rfl) fun v h_5 ⟨k_5, s⟩ => ?_
    obtain ⟨p_6, hp_6⟩ : ∃ p, p = num_Form.v b2_0 xs2_1 := ⟨_, rfl⟩
    rw [← hp_6] at s
    replace g := lift_let2 hp_6 g
    obtain rfl := s
    refine gBool_intro rfl (?_)
    have m_5 := k_5.tame
    have bx_1 := bx_1.keep k_5
    have bx_2 := bx_2.keep k_5
    have bx_3 := bx_3.keep k_5
    have k0 := k0.trans k_5
    have kh := kh.trans k_5
    refine lift_not g (fun q_7 g => ?_) (fun q_7 g => ?_)
    · refine stA bx_3 (base_add _ _) rfl fun h_6 bx_3 k_6 m_6 => ?_
      have bx_1 := bx_1.keepB d_1q_3 k_6
      have bx_2 := bx_2.keepB d_2q_3 k_6
      have k0 := KeepB.keep k0 k_6 o_3
      have kh := KeepB.keep kh k_6 oh_3
      refine stA bx_3 (base_add _ _) rfl fun h_7 bx_3 k_7 m_7 => ?_
      have bx_1 := bx_1.keepB d_1q_3 k_7
      have bx_2 := bx_2.keepB d_2q_3 k_7
      have k0 := KeepB.keep k0 k_7 o_3
      have kh := KeepB.keep kh k_7 oh_3
      refine ldA bx_3 (base_add _ _) rfl ?_
      refine gBool_intro rfl ?_
      refine ldA bx_3 (base_add _ _) rfl ?_
      refine gSlice_intro rfl ?_
      exact g _ _ k0 ⟨_, _, rfl, ⟨_, _, rfl, (GotE.nil _ _)⟩, ⟨rfl, (show In .i64 (2 : Int) by decide)⟩⟩
    · exact D2.hv k0 i0 (r1_1.tame (m_1.trans (m_2.trans (m_3.trans (m_4.trans m_5))))) bx_1 o_1 (r2_1.tame (m_1.trans (m_2.trans (m_3.trans (m_4.trans m_5))))) bx_2 o_2 (GotE.nil _ _) bx_3 o_3 d_1q_2 d_1q_3 d_2q_3 g
def v (x0 : Int) (b1_0 : Bool) (xs1_1 : List Nat) (b2_0 : Bool) (xs2_1 : List Nat) : ((Bool × List Nat) × Int) := D1.v x0 b1_0 xs1_1 b2_0 xs2_1
theorem hv {h : Hp} {x0 : Int} (i0 : In .i64 x0) {b1_0 : Bool} {a1_1 : Option Addr} {c1_1 l1_1 : Nat} {xs1_1 : List Nat} (r1_1 : Rd h a1_1 c1_1 xs1_1) (e1_1 : l1_1 = xs1_1.length) {b2_0 : Bool} {a2_1 : Option Addr} {c2_1 l2_1 : Nat} {xs2_1 : List Nat} (r2_1 : Rd h a2_1 c2_1 xs2_1) (e2_1 : l2_1 = xs2_1.length) : HC id #[.int .i64 x0, .agg #[.bool b1_0, .slice a1_1 l1_1 c1_1], .agg #[.bool b2_0, .slice a2_1 l2_1 c2_1]] h fun v_ h_ => Keep h h_ ∧ (s2 sZW (sI .i64)) h h_ v_ (v x0 b1_0 xs1_1 b2_0 xs2_1) :=
  ok (D1.hv (Keep.refl _) i0 r1_1 e1_1 r2_1 e2_1 fun v h' k s => ⟨k, s⟩)
end num_way_div

end Go.Proofs.YtabkkcbpckcfnaaDoor.G

/- The calls of layer 4 over values: what they answer. -/
namespace Go.Proofs.YtabkkcbpckcfnaaDoor.G
open Go.Gv
set_option linter.unusedVariables false
set_option maxRecDepth 100000
theorem Form_v (b : Bool) (xs : List Nat) : num_Form.v b xs = decide (FrmZ (b, xs)) := by
  unfold num_Form.v num_Form.D1.v FrmZ
  by_cases f : Frm xs
  · cases b
    · simp [f]
    · cases xs with
      | nil => simp [f]
      | cons x xs => simp [f]; omega
  · simp [f]
theorem Of_v {n : Int} (i : In .i64 n) : num_Of.v n = zz n := by
  rw [in_i64] at i
  unfold num_Of.v num_Of.D1.v zz
  by_cases h : n < 0
  · have e1 : IntKind.u64.wrap (0 - IntKind.u64.wrap n) = ((n.natAbs : Nat) : Int) := by
      rw [wrap_u64, wrap_u64]; omega
    simp only [h, decide_true, cond_true, letV, Bool.true_and]
    rw [e1, Int.toNat_natCast, len_pos_digs]
    have : n.natAbs ≠ 0 := by omega
    simp [this]
  · have e1 : IntKind.u64.wrap n = ((n.natAbs : Nat) : Int) := by rw [wrap_u64]; omega
    simp only [h, decide_false, cond_false, letV, Bool.false_and]
    rw [e1, Int.toNat_natCast]
theorem cmpI_lt {m n : Nat} : decide (cmpI m n < 0) = decide (m < n) := by
  unfold cmpI
  by_cases h : m < n
  · simp [h]
  · rw [if_neg h]; split <;> simp [h]
theorem Add_D2 {b c : Bool} {xs ys : List Nat} (fx : Frm xs) (fy : Frm ys) (p : Bool) (zs : List Nat) : num_Add.D2.v b xs c ys p zs = zlim (sg b (val xs) + sg c (val ys)) := by
  unfold num_Add.D2.v num_Add.D3.v
  by_cases h : b = c
  · subst h
    simp only [beq_self_eq_true, cond_true, letV]
    show tellZ b (addS xs ys) = _
    rw [addS_form fx fy, tell_lim, add_sg_same]
  · have e : (b == c) = false := by simp [h]
    simp only [e, cond_false, letV, cmpI_lt]
    by_cases hl : val xs < val ys
    · simp only [hl, decide_true, cond_true]
      show tellZ c (subS ys xs) = _
      rw [subS_form fy fx (Nat.le_of_lt hl), tell_lim, Int.add_comm, add_sg_diff (fun e => h e.symm) (Nat.le_of_lt hl)]
    · simp only [hl, decide_false, cond_false]
      show tellZ b (subS xs ys) = _
      rw [subS_form fx fy (by omega), tell_lim, add_sg_diff h (by omega)]
theorem Add_v (b c : Bool) (xs ys : List Nat) : num_Add.v b xs c ys = twoZ addI (b, xs) (c, ys) := by
  unfold num_Add.v num_Add.D1.v twoZ
  rw [Form_v, Form_v]
  by_cases f : FrmZ (b, xs)
  · by_cases f2 : FrmZ (c, ys)
    · simp only [f, f2, decide_true, letV, Bool.not_true, cond_false, and_self, if_true]
      exact Add_D2 f.1 f2.1 _ _
    · simp only [f, f2, decide_true, decide_false, letV, Bool.not_true, Bool.not_false, cond_false, cond_true, and_false, if_false]; rfl
  · simp only [f, decide_false, letV, Bool.not_false, cond_true, false_and, if_false]; rfl
theorem Mul_v (b c : Bool) (xs ys : List Nat) : num_Mul.v b xs c ys = twoZ mulI (b, xs) (c, ys) := by
  unfold num_Mul.v num_Mul.D1.v num_Mul.D2.v twoZ
  rw [Form_v, Form_v]
  by_cases f : FrmZ (b, xs)
  · by_cases f2 : FrmZ (c, ys)
    · simp only [f, f2, decide_true, letV, Bool.not_true, cond_false, and_self, if_true]
      show tellZ (!(b == c)) (mulS xs ys) = zlim (sg b (val xs) * sg c (val ys))
      unfold mulS
      rw [if_pos ⟨f.1, f2.1⟩, tell_lim, mul_sg]
      have : (!(b == c)) = xor b c := by cases b <;> cases c <;> rfl
      rw [this]
    · simp only [f, f2, decide_true, decide_false, letV, Bool.not_true, Bool.not_false, cond_false, cond_true, and_false, if_false]; rfl
  · simp only [f, decide_false, letV, Bool.not_false, cond_true, false_and, if_false]; rfl
theorem Shl_v (b : Bool) (xs : List Nat) (n : Int) : num_Shl.v b xs n = shlZ (b, xs) n := by
  unfold num_Shl.v num_Shl.D1.v shlZ
  rw [Form_v]
  by_cases hn : n < 0
  · simp only [hn, decide_true, cond_true, if_true]; rfl
  · by_cases f : FrmZ (b, xs)
    · simp only [hn, f, decide_true, decide_false, letV, Bool.not_true, cond_false, if_true, if_false]
      show tellZ b (shlS xs n) = zlim (sg b (val xs) * 2 ^ n.toNat)
      unfold shlS
      rw [if_neg hn, if_pos f.1, tell_lim, shl_sg]
    · simp only [hn, f, decide_false, letV, Bool.not_false, cond_true, cond_false, if_false]; rfl
theorem frmZ_ne {b : Bool} {xs : List Nat} (f : FrmZ (b, xs)) : b = true → val xs ≠ 0 := fun h h0 => f.2 ⟨h, (val_nil_iff f.1).mp h0⟩
/-! ### quotients -/
theorem made_lim (w : Int) (neg : Bool) {Q : Nat} (some : Bool) (half : Int) (h : (digs Q).length ≤ 8192) : madeZ w neg (digs Q) some half = zlim (sg neg (if moreB w neg (Q % 2 == 1) some half = true then Q + 1 else Q)) := by
  unfold madeZ
  have e : (bitS (val (digs Q)) 0 == 1) = (Q % 2 == 1) := by
    rw [val_digs]; unfold bitS
    rw [if_neg (by decide)]
    simp only [Int.toNat_zero, Nat.pow_zero, Nat.div_one]
    rcases Nat.mod_two_eq_zero_or_one Q with h | h <;> rw [h] <;> rfl
  rw [e]
  have l1 : (digs 1).length ≤ 8192 := by rw [digs_pos (by decide)]; simp [digs_zero]
  have f1 : Frm (digs Q) := ⟨h, trimL_digs Q⟩
  have f2 : Frm (digs 1) := ⟨l1, trimL_digs 1⟩
  have e2 : (digs Q, (0 : Int)) = lim Q := by unfold lim; rw [if_pos h]
  rw [addS_form f1 f2, val_digs, val_digs, e2, ← apply_ite lim, tell_lim]
/-- Rounding, by the way: down, up, to the nearest. -/
def wayF (w : Int) : Int → Int → Int := if w = 0 then flo else if w = 1 then cei else nea
theorem way_sg (w : Int) {p q : Bool} {A B : Nat} (hB : B ≠ 0) (hp : p = true → A ≠ 0) : wayF w (sg p A) (sg q B) = sg (xor p q) (if moreB w (xor p q) (A / B % 2 == 1) (decide (A % B ≠ 0)) (cmpI (A % B) (B - A % B)) = true then A / B + 1 else A / B) := by
  unfold wayF moreB
  by_cases h0 : w = 0
  · rw [if_pos h0, if_pos h0, flo_sg hB hp]
    simp only [Bool.and_eq_true, decide_eq_true_eq]
  · rw [if_neg h0, if_neg h0]
    by_cases h1 : w = 1
    · rw [if_pos h1, if_pos h1, cei_sg hB hp]
      simp only [Bool.and_eq_true, decide_eq_true_eq, Bool.not_eq_true']
    · rw [if_neg h1, if_neg h1, nea_sg hB hp]
      unfold nearN
      have hm := Nat.mod_lt A (show 0 < B by omega)
      generalize A % B = r at *
      generalize A / B = Q
      congr 1
      have e : ((decide (0 < cmpI r (B - r)) || (decide (cmpI r (B - r) = 0) && (Q % 2 == 1))) = true) ↔ (B < 2 * r ∨ (2 * r = B ∧ Q % 2 = 1)) := by
        unfold cmpI
        rcases Nat.lt_trichotomy r (B - r) with h | h | h
        · rw [if_pos h]; simp; omega
        · rw [if_neg (by omega), if_pos h]; simp; omega
        · rw [if_neg (by omega), if_neg (by omega)]; simp; omega
      by_cases c : B < 2 * r ∨ (2 * r = B ∧ Q % 2 = 1)
      · rw [if_pos c, if_pos (e.mpr c)]
      · rw [if_neg c, if_neg (fun h => c (e.mp h))]
theorem shr_D3 (w : Int) (b : Bool) (xs : List Nat) (p : Bool) (zs qs : List Nat) (s : Bool) (y : Int) : num_way_shr.D3.v w b xs p zs qs s y = madeZ w b qs s y := rfl
theorem shr_half {A n : Nat} (hn : n < 9223372036854775808) (K : Int → Zw × Int) : (bif (bitS A (IntKind.i64.wrap ((n : Int) - 1)) == 1) then (bif (((ctz A : Nat) : Int) == IntKind.i64.wrap ((n : Int) - 1)) then K 0 else K 1) else K (-1)) = K (cmpI (A % 2 ^ n) (2 ^ n - A % 2 ^ n)) := by
  have hw : IntKind.i64.wrap ((n : Int) - 1) = (n : Int) - 1 := wrap_i64 (by omega) (by omega)
  rw [hw]
  by_cases hA : A = 0
  · subst hA
    have : bitS 0 ((n : Int) - 1) = 0 := by unfold bitS; split <;> simp
    rw [this, Nat.zero_mod]
    have : cmpI 0 (2 ^ n - 0) = -1 := by unfold cmpI; rw [if_pos (by have := Nat.two_pow_pos n; omega)]
    rw [this]; rfl
  rcases Nat.eq_zero_or_pos n with h0 | h0
  · subst h0
    have : bitS A (((0 : Nat) : Int) - 1) = 0 := by unfold bitS; rw [if_pos (by decide)]
    rw [this, Nat.pow_zero, Nat.mod_one]
    rfl
  · obtain ⟨m, rfl⟩ : ∃ m, n = m + 1 := ⟨n - 1, by omega⟩
    have e1 : ((m + 1 : Nat) : Int) - 1 = (m : Int) := by omega
    rw [e1]
    have hbit : bitS A (m : Int) = ((A / 2 ^ m % 2 : Nat) : Int) := by unfold bitS; rw [if_neg (by omega), Int.toNat_natCast]
    rw [hbit]
    have hh := bit_half (A := A) (n := m)
    have hm := Nat.mod_lt A (Nat.two_pow_pos (m + 1))
    rcases Nat.mod_two_eq_zero_or_one (A / 2 ^ m) with e | e
    · rw [e] at hh ⊢
      have : cmpI (A % 2 ^ (m + 1)) (2 ^ (m + 1) - A % 2 ^ (m + 1)) = -1 := by
        unfold cmpI
        rw [if_pos]
        have : ¬ 2 ^ (m + 1) ≤ 2 * (A % 2 ^ (m + 1)) := fun h => absurd (hh.mpr h) (by decide)
        omega
      rw [this]; rfl
    · have h2 := hh.mp e
      have h3 := ctz_half hA e
      rw [e]
      by_cases hc : ctz A = m
      · have h4 := h3.mp hc
        have : cmpI (A % 2 ^ (m + 1)) (2 ^ (m + 1) - A % 2 ^ (m + 1)) = 0 := by
          unfold cmpI
          rw [if_neg (by omega), if_pos (by omega)]
        rw [this, hc]; simp
      · have h4 : ¬ 2 * (A % 2 ^ (m + 1)) = 2 ^ (m + 1) := fun h => hc (h3.mpr h)
        have : cmpI (A % 2 ^ (m + 1)) (2 ^ (m + 1) - A % 2 ^ (m + 1)) = 1 := by
          unfold cmpI
          rw [if_neg (by omega), if_neg (by omega)]
        have hne : (((ctz A : Nat) : Int) == ((m : Nat) : Int)) = false := by simp; omega
        rw [this, hne]; simp
theorem digs_frm {b : Bool} {xs : List Nat} (f : FrmZ (b, xs)) (hw : Words xs) : digs (val xs) = xs := f.1.digs hw
theorem way_shr_v (w : Int) {b : Bool} {xs : List Nat} (hw : Words xs) {n : Int} (i : In .i64 n) : num_way_shr.v w b xs n = shrZ (wayF w) (b, xs) n := by
  rw [in_i64] at i
  unfold num_way_shr.v num_way_shr.D1.v shrZ
  rw [Form_v]
  by_cases hn : n < 0
  · simp only [hn, decide_true, cond_true, if_true]; rfl
  · obtain ⟨k, rfl⟩ := Int.eq_ofNat_of_zero_le (Int.not_lt.mp hn)
    by_cases f : FrmZ (b, xs)
    · have hd : (digs (val xs / 2 ^ k)).length ≤ 8192 := by
        have h1 := digs_len_mono (Nat.div_le_self (val xs) (2 ^ k))
        rw [digs_frm f hw] at h1
        exact Nat.le_trans h1 f.1.1
      have es : shrS xs (k : Int) = (digs (val xs / 2 ^ k), 0) := by
        unfold shrS
        rw [if_neg hn, if_pos f.1, Int.toNat_natCast]
        unfold lim; rw [if_pos hd]
      simp only [hn, f, decide_true, decide_false, letV, Bool.not_true, cond_false, if_true, if_false, Int.toNat_natCast]
      rw [es]
      have D : ∀ s : Bool, num_way_shr.D2.v w (k : Int) b xs false [] (digs (val xs / 2 ^ k)) s = zlim (sg b (if moreB w b (val xs / 2 ^ k % 2 == 1) s (cmpI (val xs % 2 ^ k) (2 ^ k - val xs % 2 ^ k)) = true then val xs / 2 ^ k + 1 else val xs / 2 ^ k)) := by
        intro s
        unfold num_way_shr.D2.v
        simp only [shr_D3]
        rw [shr_half (A := val xs) (n := k) (by omega) fun y => madeZ w b (digs (val xs / 2 ^ k)) s y, made_lim _ _ _ _ hd]
      simp only [D]
      have e0 : ((0 : Int) != 0) = false := rfl
      rw [e0, cond_false, zi_sg]
      show _ = zlim (wayF w (sg b (val xs)) (2 ^ k))
      rw [pow2_sg, way_sg w (pow2_ne k) (frmZ_ne f), Bool.xor_false]
      by_cases hx : xs = []
      · subst hx
        have e1 : decide (((([] : List Nat).length : Nat) : Int) > 0) = false := rfl
        have e2 : decide (val [] % 2 ^ k ≠ 0) = false := by simp [val]
        rw [e1, e2]; rfl
      · have hA : val xs ≠ 0 := fun h => hx ((val_nil_iff f.1).mp h)
        have hl : 0 < xs.length := List.length_pos_iff.mpr hx
        have e1 : decide (((xs.length : Nat) : Int) > 0) = true := by simp; omega
        have e2 : decide (((ctz (val xs) : Nat) : Int) < (k : Int)) = decide (val xs % 2 ^ k ≠ 0) := by
          rw [decide_eq_decide, ← ctz_some hA]; omega
        rw [e1, e2]; rfl
    · simp only [hn, f, decide_false, letV, Bool.not_false, cond_true, cond_false, if_false]; rfl
theorem way_div_v (w : Int) {b c : Bool} {xs ys : List Nat} (hw : Words xs) (hy : Words ys) : num_way_div.v w b xs c ys = quoZ (wayF w) (b, xs) (c, ys) := by
  unfold num_way_div.v num_way_div.D1.v num_way_div.D2.v quoZ
  rw [Form_v, Form_v]
  by_cases f : FrmZ (b, xs)
  · by_cases f2 : FrmZ (c, ys)
    · simp only [f, f2, decide_true, letV, Bool.not_true, cond_false, and_self, if_true]
      have hz : zi (c, ys) = 0 ↔ ys = [] := by rw [zi_sg, sg_eq_zero]; exact val_nil_iff f2.1
      by_cases h0 : ys = []
      · rw [if_pos (hz.mpr h0)]; subst h0; rfl
      · have hB : val ys ≠ 0 := fun h => h0 ((val_nil_iff f2.1).mp h)
        have e0 : (((ys.length : Nat) : Int) == 0) = false := by simp; exact h0
        rw [if_neg (fun h => h0 (hz.mp h)), e0, cond_false]
        have lx : (digs (val xs)).length ≤ 8192 := by rw [digs_frm f hw]; exact f.1.1
        have ly : (digs (val ys)).length ≤ 8192 := by rw [digs_frm f2 hy]; exact f2.1.1
        have eq : quoS xs ys = (digs (val xs / val ys), digs (val xs % val ys), 0) := by
          unfold quoS
          rw [if_pos ⟨f.1, f2.1⟩, if_neg hB]
        have hm := Nat.mod_lt (val xs) (show 0 < val ys by omega)
        have lr : (digs (val xs % val ys)).length ≤ 8192 := Nat.le_trans (digs_len_mono (Nat.le_of_lt hm)) ly
        have es : subS ys (digs (val xs % val ys)) = (digs (val ys - val xs % val ys), 0) := by
          rw [subS_form f2.1 ⟨lr, trimL_digs _⟩ (by rw [val_digs]; exact Nat.le_of_lt hm), val_digs]
          unfold lim; rw [if_pos (Nat.le_trans (digs_len_mono (Nat.sub_le _ _)) ly)]
        rw [eq]
        simp only [es]
        have e1 : ((0 : Int) != 0) = false := rfl
        rw [e1, cond_false, val_digs, val_digs]
        show madeZ w _ _ _ _ = zlim (wayF w (sg b (val xs)) (sg c (val ys)))
        rw [made_lim _ _ _ _ (Nat.le_trans (digs_len_mono (Nat.div_le_self _ _)) lx), way_sg w hB (frmZ_ne f)]
        have ex : (!(b == c)) = xor b c := by cases b <;> cases c <;> rfl
        have el : decide (((digs (val xs % val ys)).length : Int) > 0) = decide (val xs % val ys ≠ 0) := by
          rw [← len_pos_digs, decide_eq_decide]; omega
        rw [ex, el]
    · simp only [f, f2, decide_true, decide_false, letV, Bool.not_true, Bool.not_false, cond_false, cond_true, and_false, if_false]; rfl
  · simp only [f, decide_false, letV, Bool.not_false, cond_true, false_and, if_false]; rfl
/-! ### the contracts -/
section
variable {a b : Option Addr} {c d l m : Nat} {xs ys : List Nat} {h : Hp} {x y : Int} {p q : Bool}
theorem num_Of.hs (i : In .i64 x) : HC num_Of.id #[.int .i64 x] h fun v h' => Keep h h' ∧ sZW h h' v (zz x) := by rw [← Of_v i]; exact num_Of.hv i
theorem num_Form.hs (r : Rd h a c xs) (e : l = xs.length) : HC num_Form.id #[.agg #[.bool p, .slice a l c]] h fun v h' => Keep h h' ∧ sBool h h' v (decide (FrmZ (p, xs))) := by rw [← Form_v]; exact num_Form.hv r e
theorem num_Add.hs (r : Rd h a c xs) (e : l = xs.length) (s : Rd h b d ys) (f : m = ys.length) : HC num_Add.id #[.agg #[.bool p, .slice a l c], .agg #[.bool q, .slice b m d]] h fun v h' => Keep h h' ∧ s2 sZW (sI .i64) h h' v (twoZ addI (p, xs) (q, ys)) := by rw [← Add_v]; exact num_Add.hv r e s f
theorem num_Mul.hs (r : Rd h a c xs) (e : l = xs.length) (s : Rd h b d ys) (f : m = ys.length) : HC num_Mul.id #[.agg #[.bool p, .slice a l c], .agg #[.bool q, .slice b m d]] h fun v h' => Keep h h' ∧ s2 sZW (sI .i64) h h' v (twoZ mulI (p, xs) (q, ys)) := by rw [← Mul_v]; exact num_Mul.hv r e s f
theorem num_Shl.hs (r : Rd h a c xs) (e : l = xs.length) (i : In .i64 x) : HC num_Shl.id #[.agg #[.bool p, .slice a l c], .int .i64 x] h fun v h' => Keep h h' ∧ s2 sZW (sI .i64) h h' v (shlZ (p, xs) x) := by rw [← Shl_v]; exact num_Shl.hv r e i
theorem num_way_shr.hs (j : In .i64 y) (r : Rd h a c xs) (e : l = xs.length) (i : In .i64 x) (tb : Tab h) : HC num_way_shr.id #[.int .i64 y, .agg #[.bool p, .slice a l c], .int .i64 x] h fun v h' => Keep h h' ∧ s2 sZW (sI .i64) h h' v (shrZ (wayF y) (p, xs) x) := by rw [← way_shr_v y r.words i]; exact num_way_shr.hv j r e i tb
theorem num_way_div.hs (j : In .i64 y) (r : Rd h a c xs) (e : l = xs.length) (s : Rd h b d ys) (f : m = ys.length) : HC num_way_div.id #[.int .i64 y, .agg #[.bool p, .slice a l c], .agg #[.bool q, .slice b m d]] h fun v h' => Keep h h' ∧ s2 sZW (sI .i64) h h' v (quoZ (wayF y) (p, xs) (q, ys)) := by rw [← way_div_v y r.words s.words]; exact num_way_div.hv j r e s f
end
end Go.Proofs.YtabkkcbpckcfnaaDoor.G

/- Functions without loops as functions of values. Written by a program of this work. -/
namespace Go.Proofs.YtabkkcbpckcfnaaDoor.G
open Go.Gv
set_option linter.unusedVariables false
set_option maxRecDepth 100000
namespace num_FloorShr
def D1.v (b0_0 : Bool) (xs0_1 : List Nat) (x1 : Int) : ((Bool × List Nat) × Int) :=
  letV (shrZ (wayF (0 : Int)) (b0_0, xs0_1) x1) fun p_3 =>
  ((p_3.1.1, p_3.1.2), p_3.2)
theorem D1.hv {R : Rt} {h0 h : Hp} (k0 : Keep h0 h) {b0_0 : Bool} {a0_1 : Option Addr} {c0_1 l0_1 : Nat} {xs0_1 : List Nat} (r0_1 : Rd h a0_1 c0_1 xs0_1) (e0_1 : l0_1 = xs0_1.length) {x1 : Int} (i1 : In .i64 x1) (tb : Tab h) (g : Post (s2 sZW (sI .i64)) h0 R (D1.v b0_0 xs0_1 x1)) : D1.t R b0_0 a0_1 l0_1 c0_1 x1 h := by
  subst e0_1
  have kh := Keep.refl h
  unfold D1.v at g
  unfold D1.t
  refine boxV fun h_1 bx_1 k_1 => ?_
  have o_1 : h0.size ≤ h.size := k0.le
  have oh_1 : h.size ≤ h.size := kh.le
  have lt_1 := bx_1.lt
  have m_1 := k_1.tame
  have k0 := k0.trans k_1
  have kh := kh.trans k_1
  refine boxV fun h_2 bx_2 k_2 => ?_
  have d_1q_2 : h.size ≠ h_1.size := Nat.ne_of_lt bx_1.lt
  have o_2 : h0.size ≤ h_1.size := k0.le
  have oh_2 : h.size ≤ h_1.size := kh.le
  have lt_2 := bx_2.lt
  have m_2 := k_2.tame
  have bx_1 := bx_1.keep k_2
  have k0 := k0.trans k_2
  have kh := kh.trans k_2
  refine ldA bx_1 (base_add _ _) rfl ?_
  refine gBool_intro rfl ?_
  refine ldA bx_1 (base_add _ _) rfl ?_
  refine gSlice_intro rfl ?_
  refine hc_intro (num_way_shr.hs (show In .i64 (0 : Int) by decide) (r0_1.tame (m_1.trans m_2)) rfl i1 (tb.tame (m_1.trans m_2))) fun v h_3 ⟨k_3, s⟩ => ?_
  obtain ⟨p_3, hp_3⟩ : ∃ p, p = shrZ (wayF (0 : Int)) (b0_0, xs0_1) x1 := ⟨_, rfl⟩
  rw [← hp_3] at s
  replace g := lift_let2 hp_3 g
  obtain ⟨_, _, rfl, ⟨a_3_0, c_3_0, rfl, r_3_0⟩, ⟨rfl, i_3_1⟩⟩ := s
  refine gTup_intro rfl (uncons_intro (gAgg_intro rfl (uncons_intro (gBool_intro rfl (uncons_intro (gSlice_intro rfl (unnil_intro (uncons_intro (gInt_intro rfl (unnil_intro (?_)))))))))))
  have r_3_0 := r_3_0.from k0.le
  have m_3 := k_3.tame
  have bx_1 := bx_1.keep k_3
  have bx_2 := bx_2.keep k_3
  have k0 := k0.trans k_3
  have kh := kh.trans k_3
  refine stA bx_2 (base_add _ _) rfl fun h_4 bx_2 k_4 m_4 => ?_
  have bx_1 := bx_1.keepB d_1q_2 k_4
  have k0 := KeepB.keep k0 k_4 o_2
  have kh := KeepB.keep kh k_4 oh_2
  refine stA bx_2 (base_add _ _) rfl fun h_5 bx_2 k_5 m_5 => ?_
  have bx_1 := bx_1.keepB d_1q_2 k_5
  have k0 := KeepB.keep k0 k_5 o_2
  have kh := KeepB.keep kh k_5 oh_2
  refine ldA bx_2 (base_add _ _) rfl ?_
  refine gBool_intro rfl ?_
  refine ldA bx_2 (base_add _ _) rfl ?_
  refine gSlice_intro rfl ?_
  exact g _ _ k0 ⟨_, _, rfl, ⟨_, _, rfl, (r_3_0.tame (m_4.trans m_5))⟩, ⟨rfl, i_3_1⟩⟩
def v (b0_0 : Bool) (xs0_1 : List Nat) (x1 : Int) : ((Bool × List Nat) × Int) := D1.v b0_0 xs0_1 x1
theorem hv {h : Hp} {b0_0 : Bool} {a0_1 : Option Addr} {c0_1 l0_1 : Nat} {xs0_1 : List Nat} (r0_1 : Rd h a0_1 c0_1 xs0_1) (e0_1 : l0_1 = xs0_1.length) {x1 : Int} (i1 : In .i64 x1) (tb : Tab h) : HC id #[.agg #[.bool b0_0, .slice a0_1 l0_1 c0_1], .int .i64 x1] h fun v_ h_ => Keep h h_ ∧ (s2 sZW (sI .i64)) h h_ v_ (v b0_0 xs0_1 x1) :=
  ok (D1.hv (Keep.refl _) r0_1 e0_1 i1 tb fun v h' k s => ⟨k, s⟩)
end num_FloorShr

namespace num_CeilShr
def D1.v (b0_0 : Bool) (xs0_1 : List Nat) (x1 : Int) : ((Bool × List Nat) × Int) :=
  letV (shrZ (wayF (1 : Int)) (b0_0, xs0_1) x1) fun p_3 =>
  ((p_3.1.1, p_3.1.2), p_3.2)
theorem D1.hv {R : Rt} {h0 h : Hp} (k0 : Keep h0 h) {b0_0 : Bool} {a0_1 : Option Addr} {c0_1 l0_1 : Nat} {xs0_1 : List Nat} (r0_1 : Rd h a0_1 c0_1 xs0_1) (e0_1 : l0_1 = xs0_1.length) {x1 : Int} (i1 : In .i64 x1) (tb : Tab h) (g : Post (s2 sZW (sI .i64)) h0 R (D1.v b0_0 xs0_1 x1)) : D1.t R b0_0 a0_1 l0_1 c0_1 x1 h := by
  subst e0_1
  have kh := Keep.refl h
  unfold D1.v at g
  unfold D1.t
  refine boxV fun h_1 bx_1 k_1 => ?_
  have o_1 : h0.size ≤ h.size := k0.le
  have oh_1 : h.size ≤ h.size := kh.le
  have lt_1 := bx_1.lt
  have m_1 := k_1.tame
  have k0 := k0.trans k_1
  have kh := kh.trans k_1
  refine boxV fun h_2 bx_2 k_2 => ?_
  have d_1q_2 : h.size ≠ h_1.size := Nat.ne_of_lt bx_1.lt
  have o_2 : h0.size ≤ h_1.size := k0.le
  have oh_2 : h.size ≤ h_1.size := kh.le
  have lt_2 := bx_2.lt
  have m_2 := k_2.tame
  have bx_1 := bx_1.keep k_2
  have k0 := k0.trans k_2
  have kh := kh.trans k_2
  refine ldA bx_1 (base_add _ _) rfl ?_
  refine gBool_intro rfl ?_
  refine ldA bx_1 (base_add _ _) rfl ?_
  refine gSlice_intro rfl ?_
  refine hc_intro (num_way_shr.hs (show In .i64 (1 : Int) by decide) (r0_1.tame (m_1.trans m_2)) rfl i1 (tb.tame (m_1.trans m_2))) fun v h_3 ⟨k_3, s⟩ => ?_
  obtain ⟨p_3, hp_3⟩ : ∃ p, p = shrZ (wayF (1 : Int)) (b0_0, xs0_1) x1 := ⟨_, rfl⟩
  rw [← hp_3] at s
  replace g := lift_let2 hp_3 g
  obtain ⟨_, _, rfl, ⟨a_3_0, c_3_0, rfl, r_3_0⟩, ⟨rfl, i_3_1⟩⟩ := s
  refine gTup_intro rfl (uncons_intro (gAgg_intro rfl (uncons_intro (gBool_intro rfl (uncons_intro (gSlice_intro rfl (unnil_intro (uncons_intro (gInt_intro rfl (unnil_intro (?_)))))))))))
  have r_3_0 := r_3_0.from k0.le
  have m_3 := k_3.tame
  have bx_1 := bx_1.keep k_3
  have bx_2 := bx_2.keep k_3
  have k0 := k0.trans k_3
  have kh := kh.trans k_3
  refine stA bx_2 (base_add _ _) rfl fun h_4 bx_2 k_4 m_4 => ?_
  have bx_1 := bx_1.keepB d_1q_2 k_4
  have k0 := KeepB.keep k0 k_4 o_2
  have kh := KeepB.keep kh k_4 oh_2
  refine stA bx_2 (base_add _ _) rfl fun h_5 bx_2 k_5 m_5 => ?_
  have bx_1 := bx_1.keepB d_1q_2 k_5
  have k0 := KeepB.keep k0 k_5 o_2
  have kh := KeepB.keep kh k_5 oh_2
  refine ldA bx_2 (base_add _ _) rfl ?_
  refine gBool_intro rfl ?_
  refine ldA bx_2 (base_add _ _) rfl ?_
  refine gSlice_intro rfl ?_
  exact g _ _ k0 ⟨_, _, rfl, ⟨_, _, rfl, (r_3_0.tame (m_4.trans m_5))⟩, ⟨rfl, i_3_1⟩⟩
def v (b0_0 : Bool) (xs0_1 : List Nat) (x1 : Int) : ((Bool × List Nat) × Int) := D1.v b0_0 xs0_1 x1
theorem hv {h : Hp} {b0_0 : Bool} {a0_1 : Option Addr} {c0_1 l0_1 : Nat} {xs0_1 : List Nat} (r0_1 : Rd h a0_1 c0_1 xs0_1) (e0_1 : l0_1 = xs0_1.length) {x1 : Int} (i1 : In .i64 x1) (tb : Tab h) : HC id #[.agg #[.bool b0_0, .slice a0_1 l0_1 c0_1], .int .i64 x1] h fun v_ h_ => Keep h h_ ∧ (s2 sZW (sI .i64)) h h_ v_ (v b0_0 xs0_1 x1) :=
  ok (D1.hv (Keep.refl _) r0_1 e0_1 i1 tb fun v h' k s => ⟨k, s⟩)
end num_CeilShr

namespace num_NearShr
def D1.v (b0_0 : Bool) (xs0_1 : List Nat) (x1 : Int) : ((Bool × List Nat) × Int) :=
  letV (shrZ (wayF (2 : Int)) (b0_0, xs0_1) x1) fun p_3 =>
  ((p_3.1.1, p_3.1.2), p_3.2)
theorem D1.hv {R : Rt} {h0 h : Hp} (k0 : Keep h0 h) {b0_0 : Bool} {a0_1 : Option Addr} {c0_1 l0_1 : Nat} {xs0_1 : List Nat} (r0_1 : Rd h a0_1 c0_1 xs0_1) (e0_1 : l0_1 = xs0_1.length) {x1 : Int} (i1 : In .i64 x1) (tb : Tab h) (g : Post (s2 sZW (sI .i64)) h0 R (D1.v b0_0 xs0_1 x1)) : D1.t R b0_0 a0_1 l0_1 c0_1 x1 h := by
  subst e0_1
  have kh := Keep.refl h
  unfold D1.v at g
  unfold D1.t
  refine boxV fun h_1 bx_1 k_1 => ?_
  have o_1 : h0.size ≤ h.size := k0.le
  have oh_1 : h.size ≤ h.size := kh.le
  have lt_1 := bx_1.lt
  have m_1 := k_1.tame
  have k0 := k0.trans k_1
  have kh := kh.trans k_1
  refine boxV fun h_2 bx_2 k_2 => ?_
  have d_1q_2 : h.size ≠ h_1.size := Nat.ne_of_lt bx_1.lt
  have o_2 : h0.size ≤ h_1.size := k0.le
  have oh_2 : h.size ≤ h_1.size := kh.le
  have lt_2 := bx_2.lt
  have m_2 := k_2.tame
  have bx_1 := bx_1.keep k_2
  have k0 := k0.trans k_2
  have kh := kh.trans k_2
  refine ldA bx_1 (base_add _ _) rfl ?_
  refine gBool_intro rfl ?_
  refine ldA bx_1 (base_add _ _) rfl ?_
  refine gSlice_intro rfl ?_
  refine hc_intro (num_way_shr.hs (show In .i64 (2 : Int) by decide) (r0_1.tame (m_1.trans m_2)) rfl i1 (tb.tame (m_1.trans m_2))) fun v h_3 ⟨k_3, s⟩ => ?_
  obtain ⟨p_3, hp_3⟩ : ∃ p, p = shrZ (wayF (2 : Int)) (b0_0, xs0_1) x1 := ⟨_, rfl⟩
  rw [← hp_3] at s
  replace g := lift_let2 hp_3 g
  obtain ⟨_, _, rfl, ⟨a_3_0, c_3_0, rfl, r_3_0⟩, ⟨rfl, i_3_1⟩⟩ := s
  refine gTup_intro rfl (uncons_intro (gAgg_intro rfl (uncons_intro (gBool_intro rfl (uncons_intro (gSlice_intro rfl (unnil_intro (uncons_intro (gInt_intro rfl (unnil_intro (?_)))))))))))
  have r_3_0 := r_3_0.from k0.le
  have m_3 := k_3.tame
  have bx_1 := bx_1.keep k_3
  have bx_2 := bx_2.keep k_3
  have k0 := k0.trans k_3
  have kh := kh.trans k_3
  refine stA bx_2 (base_add _ _) rfl fun h_4 bx_2 k_4 m_4 => ?_
  have bx_1 := bx_1.keepB d_1q_2 k_4
  have k0 := KeepB.keep k0 k_4 o_2
  have kh := KeepB.keep kh k_4 oh_2
  refine stA bx_2 (base_add _ _) rfl fun h_5 bx_2 k_5 m_5 => ?_
  have bx_1 := bx_1.keepB d_1q_2 k_5
  have k0 := KeepB.keep k0 k_5 o_2
  have kh := KeepB.keep kh k_5 oh_2
  refine ldA bx_2 (base_add _ _) rfl ?_
  refine gBool_intro rfl ?_
  refine ldA bx_2 (base_add _ _) rfl ?_
  refine gSlice_intro rfl ?_
  exact g _ _ k0 ⟨_, _, rfl, ⟨_, _, rfl, (r_3_0.tame (m_4.trans m_5))⟩, ⟨rfl, i_3_1⟩⟩
def v (b0_0 : Bool) (xs0_1 : List Nat) (x1 : Int) : ((Bool × List Nat) × Int) := D1.v b0_0 xs0_1 x1
theorem hv {h : Hp} {b0_0 : Bool} {a0_1 : Option Addr} {c0_1 l0_1 : Nat} {xs0_1 : List Nat} (r0_1 : Rd h a0_1 c0_1 xs0_1) (e0_1 : l0_1 = xs0_1.length) {x1 : Int} (i1 : In .i64 x1) (tb : Tab h) : HC id #[.agg #[.bool b0_0, .slice a0_1 l0_1 c0_1], .int .i64 x1] h fun v_ h_ => Keep h h_ ∧ (s2 sZW (sI .i64)) h h_ v_ (v b0_0 xs0_1 x1) :=
  ok (D1.hv (Keep.refl _) r0_1 e0_1 i1 tb fun v h' k s => ⟨k, s⟩)
end num_NearShr

namespace num_FloorDiv
def D1.v (b0_0 : Bool) (xs0_1 : List Nat) (b1_0 : Bool) (xs1_1 : List Nat) : ((Bool × List Nat) × Int) :=
  letV (quoZ (wayF (0 : Int)) (b0_0, xs0_1) (b1_0, xs1_1)) fun p_4 =>
  ((p_4.1.1, p_4.1.2), p_4.2)
theorem D1.hv {R : Rt} {h0 h : Hp} (k0 : Keep h0 h) {b0_0 : Bool} {a0_1 : Option Addr} {c0_1 l0_1 : Nat} {xs0_1 : List Nat} (r0_1 : Rd h a0_1 c0_1 xs0_1) (e0_1 : l0_1 = xs0_1.length) {b1_0 : Bool} {a1_1 : Option Addr} {c1_1 l1_1 : Nat} {xs1_1 : List Nat} (r1_1 : Rd h a1_1 c1_1 xs1_1) (e1_1 : l1_1 = xs1_1.length) (g : Post (s2 sZW (sI .i64)) h0 R (D1.v b0_0 xs0_1 b1_0 xs1_1)) : D1.t R b0_0 a0_1 l0_1 c0_1 b1_0 a1_1 l1_1 c1_1 h := by
  subst e0_1 e1_1
  have kh := Keep.refl h
  unfold D1.v at g
  unfold D1.t
  refine boxV fun h_1 bx_1 k_1 => ?_
  have o_1 : h0.size ≤ h.size := k0.le
  have oh_1 : h.size ≤ h.size := kh.le
  have lt_1 := bx_1.lt
  have m_1 := k_1.tame
  have k0 := k0.trans k_1
  have kh := kh.trans k_1
  refine boxV fun h_2 bx_2 k_2 => ?_
  have d_1q_2 : h.size ≠ h_1.size := Nat.ne_of_lt bx_1.lt
  have o_2 : h0.size ≤ h_1.size := k0.le
  have oh_2 : h.size ≤ h_1.size := kh.le
  have lt_2 := bx_2.lt
  have m_2 := k_2.tame
  have bx_1 := bx_1.keep k_2
  have k0 := k0.trans k_2
  have kh := kh.trans k_2
  refine boxV fun h_3 bx_3 k_3 => ?_
  have d_1q_3 : h.size ≠ h_2.size := Nat.ne_of_lt bx_1.lt
  have d_2q_3 : h_1.size ≠ h_2.size := Nat.ne_of_lt bx_2.lt
  have o_3 : h0.size ≤ h_2.size := k0.le
  have oh_3 : h.size ≤ h_2.size := kh.le
  have lt_3 := bx_3.lt
  have m_3 := k_3.tame
  have bx_1 := bx_1.keep k_3
  have bx_2 := bx_2.keep k_3
  have k0 := k0.trans k_3
  have kh := kh.trans k_3
  refine ldA bx_1 (base_add _ _) rfl ?_
  refine gBool_intro rfl ?_
  refine ldA bx_1 (base_add _ _) rfl ?_
  refine gSlice_intro rfl ?_
  refine ldA bx_2 (base_add _ _) rfl ?_
  refine gBool_intro rfl ?_
  refine ldA bx_2 (base_add _ _) rfl ?_
  refine gSlice_intro rfl ?_
  refine hc_intro (num_way_div.hs (show In .i64 (0 : Int) by decide) (r0_1.tame (m_1.trans (m_2.trans m_3))) rfl (r1_1.tame (m_1.trans (m_2.trans m_3))) rfl) fun v h_4 ⟨k_4, s⟩ => ?_
  obtain ⟨p_4, hp_4⟩ : ∃ p, p = quoZ (wayF (0 : Int)) (b0_0, xs0_1) (b1_0, xs1_1) := ⟨_, rfl⟩
  rw [← hp_4] at s
  replace g := lift_let2 hp_4 g
  obtain ⟨_, _, rfl, ⟨a_4_0, c_4_0, rfl, r_4_0⟩, ⟨rfl, i_4_1⟩⟩ := s
  refine gTup_intro rfl (uncons_intro (gAgg_intro rfl (uncons_intro (gBool_intro rfl (uncons_intro (gSlice_intro rfl (unnil_intro (uncons_intro (gInt_intro rfl (unnil_intro (?_)))))))))))
  have r_4_0 := r_4_0.from k0.le
  have m_4 := k_4.tame
  have bx_1 := bx_1.keep k_4
  have bx_2 := bx_2.keep k_4
  have bx_3 := bx_3.keep k_4
  have k0 := k0.trans k_4
  have kh := kh.trans k_4
  refine stA bx_3 (base_add _ _) rfl fun h_5 bx_3 k_5 m_5 => ?_
  have bx_1 := bx_1.keepB d_1q_3 k_5
  have bx_2 := bx_2.keepB d_2q_3 k_5
  have k0 := KeepB.keep k0 k_5 o_3
  have kh := KeepB.keep kh k_5 oh_3
  refine stA bx_3 (base_add _ _) rfl fun h_6 bx_3 k_6 m_6 => ?_
  have bx_1 := bx_1.keepB d_1q_3 k_6
  have bx_2 := bx_2.keepB d_2q_3 k_6
  have k0 := KeepB.keep k0 k_6 o_3
  have kh := KeepB.keep kh k_6 oh_3
  refine ldA bx_3 (base_add _ _) rfl ?_
  refine gBool_intro rfl ?_
  refine ldA bx_3 (base_add _ _) rfl ?_
  refine gSlice_intro rfl ?_
  exact g _ _ k0 ⟨_, _, rfl, ⟨_, _, rfl, (r_4_0.tame (m_5.trans m_6))⟩, ⟨rfl, i_4_1⟩⟩
def v (b0_0 : Bool) (xs0_1 : List Nat) (b1_0 : Bool) (xs1_1 : List Nat) : ((Bool × List Nat) × Int) := D1.v b0_0 xs0_1 b1_0 xs1_1
theorem hv {h : Hp} {b0_0 : Bool} {a0_1 : Option Addr} {c0_1 l0_1 : Nat} {xs0_1 : List Nat} (r0_1 : Rd h a0_1 c0_1 xs0_1) (e0_1 : l0_1 = xs0_1.length) {b1_0 : Bool} {a1_1 : Option Addr} {c1_1 l1_1 : Nat} {xs1_1 : List Nat} (r1_1 : Rd h a1_1 c1_1 xs1_1) (e1_1 : l1_1 = xs1_1.length) : HC id #[.agg #[.bool b0_0, .slice a0_1 l0_1 c0_1], .agg #[.bool b1_0, .slice a1_1 l1_1 c1_1]] h fun v_ h_ => Keep h h_ ∧ (s2 sZW (sI .i64)) h h_ v_ (v b0_0 xs0_1 b1_0 xs1_1) :=
  ok (D1.hv (Keep.refl _) r0_1 e0_1 r1_1 e1_1 fun v h' k s => ⟨k, s⟩)
end num_FloorDiv

namespace num_CeilDiv
def D1.v (b0_0 : Bool) (xs0_1 : List Nat) (b1_0 : Bool) (xs1_1 : List Nat) : ((Bool × List Nat) × Int) :=
  letV (quoZ (wayF (1 : Int)) (b0_0, xs0_1) (b1_0, xs1_1)) fun p_4 =>
  ((p_4.1.1, p_4.1.2), p_4.2)
theorem D1.hv {R : Rt} {h0 h : Hp} (k0 : Keep h0 h) {b0_0 : Bool} {a0_1 : Option Addr} {c0_1 l0_1 : Nat} {xs0_1 : List Nat} (r0_1 : Rd h a0_1 c0_1 xs0_1) (e0_1 : l0_1 = xs0_1.length) {b1_0 : Bool} {a1_1 : Option Addr} {c1_1 l1_1 : Nat} {xs1_1 : List Nat} (r1_1 : Rd h a1_1 c1_1 xs1_1) (e1_1 : l1_1 = xs1_1.length) (g : Post (s2 sZW (sI .i64)) h0 R (D1.v b0_0 xs0_1 b1_0 xs1_1)) : D1.t R b0_0 a0_1 l0_1 c0_1 b1_0 a1_1 l1_1 c1_1 h := by
  subst e0_1 e1_1
  have kh := Keep.refl h
  unfold D1.v at g
  unfold D1.t
  refine boxV fun h_1 bx_1 k_1 => ?_
  have o_1 : h0.size ≤ h.size := k0.le
  have oh_1 : h.size ≤ h.size := kh.le
  have lt_1 := bx_1.lt
  have m_1 := k_1.tame
  have k0 := k0.trans k_1
  have kh := kh.trans k_1
  refine boxV fun h_2 bx_2 k_2 => ?_
  have d_1q_2 : h.size ≠ h_1.size := Nat.ne_of_lt bx_1.lt
  have o_2 : h0.size ≤ h_1.size := k0.le
  have oh_2 : h.size ≤ h_1.size := kh.le
  have lt_2 := bx_2.lt
  have m_2 := k_2.tame
  have bx_1 := bx_1.keep k_2
  have k0 := k0.trans k_2
  have kh := kh.trans k_2
  refine boxV fun h_3 bx_3 k_3 => ?_
  have d_1q_3 : h.size ≠ h_2.size := Nat.ne_of_lt bx_1.lt
  have d_2q_3 : h_1.size ≠ h_2.size := Nat.ne_of_lt bx_2.lt
  have o_3 : h0.size ≤ h_2.size := k0.le
  have oh_3 : h.size ≤ h_2.size := kh.le
  have lt_3 := bx_3.lt
  have m_3 := k_3.tame
  have bx_1 := bx_1.keep k_3
  have bx_2 := bx_2.keep k_3
  have k0 := k0.trans k_3
  have kh := kh.trans k_3
  refine ldA bx_1 (base_add _ _) rfl ?_
  refine gBool_intro rfl ?_
  refine ldA bx_1 (base_add _ _) rfl ?_
  refine gSlice_intro rfl ?_
  refine ldA bx_2 (base_add _ _) rfl ?_
  refine gBool_intro rfl ?_
  refine ldA bx_2 (base_add _ _) rfl ?_
  refine gSlice_intro rfl ?_
  refine hc_intro (num_way_div.hs (show In .i64 (1 : Int) by decide) (r0_1.tame (m_1.trans (m_2.trans m_3))) rfl (r1_1.tame (m_1.trans (m_2.trans m_3))) rfl) fun v h_4 ⟨k_4, s⟩ => ?_
  obtain ⟨p_4, hp_4⟩ : ∃ p, p = quoZ (wayF (1 : Int)) (b0_0, xs0_1) (b1_0, xs1_1) := ⟨_, rfl⟩
  rw [← hp_4] at s
  replace g := lift_let2 hp_4 g
  obtain ⟨_, _, rfl, ⟨a_4_0, c_4_0, rfl, r_4_0⟩, ⟨rfl, i_4_1⟩⟩ := s
  refine gTup_intro rfl (uncons_intro (gAgg_intro rfl (uncons_intro (gBool_intro rfl (uncons_intro (gSlice_intro rfl (unnil_intro (uncons_intro (gInt_intro rfl (unnil_intro (?_)))))))))))
  have r_4_0 := r_4_0.from k0.le
  have m_4 := k_4.tame
  have bx_1 := bx_1.keep k_4
  have bx_2 := bx_2.keep k_4
  have bx_3 := bx_3.keep k_4
  have k0 := k0.trans k_4
  have kh := kh.trans k_4
  refine stA bx_3 (base_add _ _) rfl fun h_5 bx_3 k_5 m_5 => ?_
  have bx_1 := bx_1.keepB d_1q_3 k_5
  have bx_2 := bx_2.keepB d_2q_3 k_5
  have k0 := KeepB.keep k0 k_5 o_3
  have kh := KeepB.keep kh k_5 oh_3
  refine stA bx_3 (base_add _ _) rfl fun h_6 bx_3 k_6 m_6 => ?_
  have bx_1 := bx_1.keepB d_1q_3 k_6
  have bx_2 := bx_2.keepB d_2q_3 k_6
  have k0 := KeepB.keep k0 k_6 o_3
  have kh := KeepB.keep kh k_6 oh_3
  refine ldA bx_3 (base_add _ _) rfl ?_
  refine gBool_intro rfl ?_
  refine ldA bx_3 (base_add _ _) rfl ?_
  refine gSlice_intro rfl ?_
  exact g _ _ k0 ⟨_, _, rfl, ⟨_, _, rfl, (r_4_0.tame (m_5.trans m_6))⟩, ⟨rfl, i_4_1⟩⟩
def v (b0_0 : Bool) (xs0_1 : List Nat) (b1_0 : Bool) (xs1_1 : List Nat) : ((Bool × List Nat) × Int) := D1.v b0_0 xs0_1 b1_0 xs1_1
theorem hv {h : Hp} {b0_0 : Bool} {a0_1 : Option Addr} {c0_1 l0_1 : Nat} {xs0_1 : List Nat} (r0_1 : Rd h a0_1 c0_1 xs0_1) (e0_1 : l0_1 = xs0_1.length) {b1_0 : Bool} {a1_1 : Option Addr} {c1_1 l1_1 : Nat} {xs1_1 : List Nat} (r1_1 : Rd h a1_1 c1_1 xs1_1) (e1_1 : l1_1 = xs1_1.length) : HC id #[.agg #[.bool b0_0, .slice a0_1 l0_1 c0_1], .agg #[.bool b1_0, .slice a1_1 l1_1 c1_1]] h fun v_ h_ => Keep h h_ ∧ (s2 sZW (sI .i64)) h h_ v_ (v b0_0 xs0_1 b1_0 xs1_1) :=
  ok (D1.hv (Keep.refl _) r0_1 e0_1 r1_1 e1_1 fun v h' k s => ⟨k, s⟩)
end num_CeilDiv

namespace num_NearDiv
def D1.v (b0_0 : Bool) (xs0_1 : List Nat) (b1_0 : Bool) (xs1_1 : List Nat) : ((Bool × List Nat) × Int) :=
  letV (quoZ (wayF (2 : Int)) (b0_0, xs0_1) (b1_0, xs1_1)) fun p_4 =>
  ((p_4.1.1, p_4.1.2), p_4.2)
theorem D1.hv {R : Rt} {h0 h : Hp} (k0 : Keep h0 h) {b0_0 : Bool} {a0_1 : Option Addr} {c0_1 l0_1 : Nat} {xs0_1 : List Nat} (r0_1 : Rd h a0_1 c0_1 xs0_1) (e0_1 : l0_1 = xs0_1.length) {b1_0 : Bool} {a1_1 : Option Addr} {c1_1 l1_1 : Nat} {xs1_1 : List Nat} (r1_1 : Rd h a1_1 c1_1 xs1_1) (e1_1 : l1_1 = xs1_1.length) (g : Post (s2 sZW (sI .i64)) h0 R (D1.v b0_0 xs0_1 b1_0 xs1_1)) : D1.t R b0_0 a0_1 l0_1 c0_1 b1_0 a1_1 l1_1 c1_1 h := by
  subst e0_1 e1_1
  have kh := Keep.refl h
  unfold D1.v at g
  unfold D1.t
  refine boxV fun h_1 bx_1 k_1 => ?_
  have o_1 : h0.size ≤ h.size := k0.le
  have oh_1 : h.size ≤ h.size := kh.le
  have lt_1 := bx_1.lt
  have m_1 := k_1.tame
  have k0 := k0.trans k_1
  have kh := kh.trans k_1
  refine boxV fun h_2 bx_2 k_2 => ?_
  have d_1q_2 : h.size ≠ h_1.size := Nat.ne_of_lt bx_1.lt
  have o_2 : h0.size ≤ h_1.size := k0.le
  have oh_2 : h.size ≤ h_1.size := kh.le
  have lt_2 := bx_2.lt
  have m_2 := k_2.tame
  have bx_1 := bx_1.keep k_2
  have k0 := k0.trans k_2
  have kh := kh.trans k_2
  refine boxV fun h_3 bx_3 k_3 => ?_
  have d_1q_3 : h.size ≠ h_2.size := Nat.ne_of_lt bx_1.lt
  have d_2q_3 : h_1.size ≠ h_2.size := Nat.ne_of_lt bx_2.lt
  have o_3 : h0.size ≤ h_2.size := k0.le
  have oh_3 : h.size ≤ h_2.size := kh.le
  have lt_3 := bx_3.lt
  have m_3 := k_3.tame
  have bx_1 := bx_1.keep k_3
  have bx_2 := bx_2.keep k_3
  have k0 := k0.trans k_3
  have kh := kh.trans k_3
  refine ldA bx_1 (base_add _ _) rfl ?_
  refine gBool_intro rfl ?_
  refine ldA bx_1 (base_add _ _) rfl ?_
  refine gSlice_intro rfl ?_
  refine ldA bx_2 (base_add _ _) rfl ?_
  refine gBool_intro rfl ?_
  refine ldA bx_2 (base_add _ _) rfl ?_
  refine gSlice_intro rfl ?_
  refine hc_intro (num_way_div.hs (show In .i64 (2 : Int) by decide) (r0_1.tame (m_1.trans (m_2.trans m_3))) rfl (r1_1.tame (m_1.trans (m_2.trans m_3))) rfl) fun v h_4 ⟨k_4, s⟩ => ?_
  obtain ⟨p_4, hp_4⟩ : ∃ p, p = quoZ (wayF (2 : Int)) (b0_0, xs0_1) (b1_0, xs1_1) := ⟨_, rfl⟩
  rw [← hp_4] at s
  replace g := lift_let2 hp_4 g
  obtain ⟨_, _, rfl, ⟨a_4_0, c_4_0, rfl, r_4_0⟩, ⟨rfl, i_4_1⟩⟩ := s
  refine gTup_intro rfl (uncons_intro (gAgg_intro rfl (uncons_intro (gBool_intro rfl (uncons_intro (gSlice_intro rfl (unnil_intro (uncons_intro (gInt_intro rfl (unnil_intro (?_)))))))))))
  have r_4_0 := r_4_0.from k0.le
  have m_4 := k_4.tame
  have bx_1 := bx_1.keep k_4
  have bx_2 := bx_2.keep k_4
  have bx_3 := bx_3.keep k_4
  have k0 := k0.trans k_4
  have kh := kh.trans k_4
  refine stA bx_3 (base_add _ _) rfl fun h_5 bx_3 k_5 m_5 => ?_
  have bx_1 := bx_1.keepB d_1q_3 k_5
  have bx_2 := bx_2.keepB d_2q_3 k_5
  have k0 := KeepB.keep k0 k_5 o_3
  have kh := KeepB.keep kh k_5 oh_3
  refine stA bx_3 (base_add _ _) rfl fun h_6 bx_3 k_6 m_6 => ?_
  have bx_1 := bx_1.keepB d_1q_3 k_6
  have bx_2 := bx_2.keepB d_2q_3 k_6
  have k0 := KeepB.keep k0 k_6 o_3
  have kh := KeepB.keep kh k_6 oh_3
  refine ldA bx_3 (base_add _ _) rfl ?_
  refine gBool_intro rfl ?_
  refine ldA bx_3 (base_add _ _) rfl ?_
  refine gSlice_intro rfl ?_
  exact g _ _ k0 ⟨_, _, rfl, ⟨_, _, rfl, (r_4_0.tame (m_5.trans m_6))⟩, ⟨rfl, i_4_1⟩⟩
def v (b0_0 : Bool) (xs0_1 : List Nat) (b1_0 : Bool) (xs1_1 : List Nat) : ((Bool × List Nat) × Int) := D1.v b0_0 xs0_1 b1_0 xs1_1
theorem hv {h : Hp} {b0_0 : Bool} {a0_1 : Option Addr} {c0_1 l0_1 : Nat} {xs0_1 : List Nat} (r0_1 : Rd h a0_1 c0_1 xs0_1) (e0_1 : l0_1 = xs0_1.length) {b1_0 : Bool} {a1_1 : Option Addr} {c1_1 l1_1 : Nat} {xs1_1 : List Nat} (r1_1 : Rd h a1_1 c1_1 xs1_1) (e1_1 : l1_1 = xs1_1.length) : HC id #[.agg #[.bool b0_0, .slice a0_1 l0_1 c0_1], .agg #[.bool b1_0, .slice a1_1 l1_1 c1_1]] h fun v_ h_ => Keep h h_ ∧ (s2 sZW (sI .i64)) h h_ v_ (v b0_0 xs0_1 b1_0 xs1_1) :=
  ok (D1.hv (Keep.refl _) r0_1 e0_1 r1_1 e1_1 fun v h' k s => ⟨k, s⟩)
end num_NearDiv

namespace num_Mod
def D3.v (b3_0 : Bool) (xs3_1 : List Nat) (b4_0 : Bool) (xs4_1 : List Nat) (xs7 : List Nat) (x8 : Int) : ((Bool × List Nat) × Int) :=
  letV (tellZ b3_0 (xs7, x8)) fun p_14 =>
  ((p_14.1.1, p_14.1.2), p_14.2)
theorem D3.hv {R : Rt} {h0 h : Hp} (k0 : Keep h0 h) {b3_0 : Bool} {a3_1 : Option Addr} {c3_1 : Nat} {xs3_1 : List Nat} (r3_1 : Rd h a3_1 c3_1 xs3_1) {B3 : Nat} (bx3 : BlkV h B3 [.bool b3_0, .slice a3_1 xs3_1.length c3_1]) (o3 : h0.size ≤ B3) {b4_0 : Bool} {a4_1 : Option Addr} {c4_1 : Nat} {xs4_1 : List Nat} (r4_1 : GotE eU64 h0 h a4_1 c4_1 xs4_1) {B4 : Nat} (bx4 : BlkV h B4 [.bool b4_0, .slice a4_1 xs4_1.length c4_1]) (o4 : h0.size ≤ B4) {a7 : Option Addr} {c7 l7 : Nat} {xs7 : List Nat} (r7 : GotE eU64 h0 h a7 c7 xs7) (e7 : l7 = xs7.length) {x8 : Int} (i8 : In .i64 x8) (d3q4 : B3 ≠ B4) (g : Post (s2 sZW (sI .i64)) h0 R (D3.v b3_0 xs3_1 b4_0 xs4_1 xs7 x8)) : D3.t R (⟨B3, 0, none⟩ : Addr) (⟨B4, 0, none⟩ : Addr) a7 l7 c7 x8 h := by
  subst e7
  have kh := Keep.refl h
  have lt3 := bx3.lt
  have lt4 := bx4.lt
  unfold D3.v at g
  unfold D3.t
  refine ldA bx3 (base_add _ _) rfl ?_
  refine gBool_intro rfl ?_
  refine hc_intro (num_told.hf r7 rfl i8) fun v h_1 ⟨k_1, s⟩ => ?_
  obtain ⟨p_14, hp_14⟩ : ∃ p, p = tellZ b3_0 (xs7, x8) := ⟨_, rfl⟩
  rw [← hp_14] at s
  replace g := lift_let2 hp_14 g
  obtain ⟨_, _, rfl, ⟨a_14_0, c_14_0, rfl, r_14_0⟩, ⟨rfl, i_14_1⟩⟩ := s
  refine gTup_intro rfl (uncons_intro (gAgg_intro rfl (uncons_intro (gBool_intro rfl (uncons_intro (gSlice_intro rfl (unnil_intro (uncons_intro (gInt_intro rfl (unnil_intro (?_)))))))))))
  have m_1 := k_1.tame
  have bx3 := bx3.keep k_1
  have bx4 := bx4.keep k_1
  have k0 := k0.trans k_1
  have kh := kh.trans k_1
  refine stA bx4 (base_add _ _) rfl fun h_2 bx4 k_2 m_2 => ?_
  have bx3 := bx3.keepB d3q4 k_2
  have k0 := KeepB.keep k0 k_2 o4
  refine stA bx4 (base_add _ _) rfl fun h_3 bx4 k_3 m_3 => ?_
  have bx3 := bx3.keepB d3q4 k_3
  have k0 := KeepB.keep k0 k_3 o4
  refine ldA bx4 (base_add _ _) rfl ?_
  refine gBool_intro rfl ?_
  refine ldA bx4 (base_add _ _) rfl ?_
  refine gSlice_intro rfl ?_
  exact g _ _ k0 ⟨_, _, rfl, ⟨_, _, rfl, (r_14_0.tame (m_2.trans m_3))⟩, ⟨rfl, i_14_1⟩⟩
def D2.v (b2_0 : Bool) (xs2_1 : List Nat) (b3_0 : Bool) (xs3_1 : List Nat) (b4_0 : Bool) (xs4_1 : List Nat) : ((Bool × List Nat) × Int) :=
  bif ((((xs3_1.length : Nat) : Int)) == (0 : Int)) then
    ((false, ([] : List Nat)), (4 : Int))
  else
    letV (quoS xs2_1 xs3_1) fun p_9 =>
    bif (p_9.2.2 != (0 : Int)) then
      ((false, ([] : List Nat)), p_9.2.2)
    else
      bif (!(b2_0 == b3_0)) then
        bif (decide ((((p_9.2.1.length : Nat) : Int)) > (0 : Int))) then
          letV (subS xs3_1 p_9.2.1) fun p_13 =>
          D3.v b3_0 xs3_1 b4_0 xs4_1 p_13.1 p_13.2
        else
          D3.v b3_0 xs3_1 b4_0 xs4_1 p_9.2.1 p_9.2.2
      else
        D3.v b3_0 xs3_1 b4_0 xs4_1 p_9.2.1 p_9.2.2
theorem D2.hv {R : Rt} {h0 h : Hp} (k0 : Keep h0 h) {b2_0 : Bool} {a2_1 : Option Addr} {c2_1 : Nat} {xs2_1 : List Nat} (r2_1 : Rd h a2_1 c2_1 xs2_1) {B2 : Nat} (bx2 : BlkV h B2 [.bool b2_0, .slice a2_1 xs2_1.length c2_1]) (o2 : h0.size ≤ B2) {b3_0 : Bool} {a3_1 : Option Addr} {c3_1 : Nat} {xs3_1 : List Nat} (r3_1 : Rd h a3_1 c3_1 xs3_1) {B3 : Nat} (bx3 : BlkV h B3 [.bool b3_0, .slice a3_1 xs3_1.length c3_1]) (o3 : h0.size ≤ B3) {b4_0 : Bool} {a4_1 : Option Addr} {c4_1 : Nat} {xs4_1 : List Nat} (r4_1 : GotE eU64 h0 h a4_1 c4_1 xs4_1) {B4 : Nat} (bx4 : BlkV h B4 [.bool b4_0, .slice a4_1 xs4_1.length c4_1]) (o4 : h0.size ≤ B4) (d2q3 : B2 ≠ B3) (d2q4 : B2 ≠ B4) (d3q4 : B3 ≠ B4) (g : Post (s2 sZW (sI .i64)) h0 R (D2.v b2_0 xs2_1 b3_0 xs3_1 b4_0 xs4_1)) : D2.t R (⟨B2, 0, none⟩ : Addr) (⟨B3, 0, none⟩ : Addr) (⟨B4, 0, none⟩ : Addr) h := by
  have kh := Keep.refl h
  have lt2 := bx2.lt
  have lt3 := bx3.lt
  have lt4 := bx4.lt
  unfold D2.v at g
  unfold D2.t
  refine ldA bx3 (base_add _ _) rfl ?_
  refine gSlice_intro rfl ?_
  refine lift_eq g (fun q_8 g => ?_) (fun q_8 g => ?_)
  · refine stA bx4 (base_add _ _) rfl fun h_1 bx4 k_1 m_1 => ?_
    have bx2 := bx2.keepB d2q4 k_1
    have bx3 := bx3.keepB d3q4 k_1
    have k0 := KeepB.keep k0 k_1 o4
    refine stA bx4 (base_add _ _) rfl fun h_2 bx4 k_2 m_2 => ?_
    have bx2 := bx2.keepB d2q4 k_2
    have bx3 := bx3.keepB d3q4 k_2
    have k0 := KeepB.keep k0 k_2 o4
    refine ldA bx4 (base_add _ _) rfl ?_
    refine gBool_intro rfl ?_
    refine ldA bx4 (base_add _ _) rfl ?_
    refine gSlice_intro rfl ?_
    exact g _ _ k0 ⟨_, _, rfl, ⟨_, _, rfl, (GotE.nil _ _)⟩, ⟨rfl, (show In .i64 (4 : Int) by decide)⟩⟩
  · refine ldA bx2 (base_add _ _) rfl ?_
    refine gSlice_intro rfl ?_
    refine ldA bx3 (base_add _ _) rfl ?_
    refine gSlice_intro rfl ?_
    refine hc_intro (natdiv_QuoRem.hv r2_1 rfl r3_1 rfl) fun v h_1 ⟨k_1, s⟩ => ?_
    obtain ⟨p_9, hp_9⟩ : ∃ p, p = quoS xs2_1 xs3_1 := ⟨_, rfl⟩
    rw [← hp_9] at s
    replace g := lift_let2 hp_9 g
    obtain ⟨_, _, _, rfl, ⟨a_9_0, c_9_0, rfl, r_9_0⟩, ⟨a_9_1, c_9_1, rfl, r_9_1⟩, ⟨rfl, i_9_2⟩⟩ := s
    refine gTup_intro rfl (uncons_intro (gSlice_intro rfl (uncons_intro (gSlice_intro rfl (uncons_intro (gInt_intro rfl (unnil_intro (?_))))))))
    have r_9_0 := r_9_0.from k0.le
    have r_9_1 := r_9_1.from k0.le
    have m_1 := k_1.tame
    have bx2 := bx2.keep k_1
    have bx3 := bx3.keep k_1
    have bx4 := bx4.keep k_1
    have k0 := k0.trans k_1
    have kh := kh.trans k_1
    refine lift_ne g (fun q_10 g => ?_) (fun q_10 g => ?_)
    · refine stA bx4 (base_add _ _) rfl fun h_2 bx4 k_2 m_2 => ?_
      have bx2 := bx2.keepB d2q4 k_2
      have bx3 := bx3.keepB d3q4 k_2
      have k0 := KeepB.keep k0 k_2 o4
      refine stA bx4 (base_add _ _) rfl fun h_3 bx4 k_3 m_3 => ?_
      have bx2 := bx2.keepB d2q4 k_3
      have bx3 := bx3.keepB d3q4 k_3
      have k0 := KeepB.keep k0 k_3 o4
      refine ldA bx4 (base_add _ _) rfl ?_
      refine gBool_intro rfl ?_
      refine ldA bx4 (base_add _ _) rfl ?_
      refine gSlice_intro rfl ?_
      exact g _ _ k0 ⟨_, _, rfl, ⟨_, _, rfl, (GotE.nil _ _)⟩, ⟨rfl, i_9_2⟩⟩
    · refine ldA bx2 (base_add _ _) rfl ?_
      refine gBool_intro rfl ?_
      refine ldA bx3 (base_add _ _) rfl ?_
      refine gBool_intro rfl ?_
      refine lift_not g (fun q_11 g => ?_) (fun q_11 g => ?_)
      · refine lift_dec g (fun q_12 g => ?_) (fun q_12 g => ?_)
        · refine ldA bx3 (base_add _ _) rfl ?_
          refine gSlice_intro rfl ?_
          refine hc_intro (nat_Sub.hv (r3_1.tame (m_1)) rfl r_9_1.rd64 rfl) fun v h_2 ⟨k_2, s⟩ => ?_
          obtain ⟨p_13, hp_13⟩ : ∃ p, p = subS xs3_1 p_9.2.1 := ⟨_, rfl⟩
          rw [← hp_13] at s
          replace g := lift_let2 hp_13 g
          obtain ⟨_, _, rfl, ⟨a_13_0, c_13_0, rfl, r_13_0⟩, ⟨rfl, i_13_1⟩⟩ := s
          refine gTup_intro rfl (uncons_intro (gSlice_intro rfl (uncons_intro (gInt_intro rfl (unnil_intro (?_))))))
          have r_13_0 := r_13_0.from k0.le
          have m_2 := k_2.tame
          have bx2 := bx2.keep k_2
          have bx3 := bx3.keep k_2
          have bx4 := bx4.keep k_2
          have k0 := k0.trans k_2
          have kh := kh.trans k_2
          exact D3.hv k0 (r3_1.tame (m_1.trans m_2)) bx3 o3 (r4_1.tame (m_1.trans m_2)) bx4 o4 r_13_0 rfl i_13_1 d3q4 g
        · exact D3.hv k0 (r3_1.tame (m_1)) bx3 o3 (r4_1.tame (m_1)) bx4 o4 r_9_1 rfl i_9_2 d3q4 g
      · exact D3.hv k0 (r3_1.tame (m_1)) bx3 o3 (r4_1.tame (m_1)) bx4 o4 r_9_1 rfl i_9_2 d3q4 g
def D1.v (b0_0 : Bool) (xs0_1 : List Nat) (b1_0 : Bool) (xs1_1 : List Nat) : ((Bool × List Nat) × Int) :=
  bif (!(decide (FrmZ (b0_0, xs0_1)))) then
    ((false, ([] : List Nat)), (2 : Int))
  else
    bif (!(decide (FrmZ (b1_0, xs1_1)))) then
      ((false, ([] : List Nat)), (2 : Int))
    else
      D2.v b0_0 xs0_1 b1_0 xs1_1 false ([] : List Nat)
theorem D1.hv {R : Rt} {h0 h : Hp} (k0 : Keep h0 h) {b0_0 : Bool} {a0_1 : Option Addr} {c0_1 l0_1 : Nat} {xs0_1 : List Nat} (r0_1 : Rd h a0_1 c0_1 xs0_1) (e0_1 : l0_1 = xs0_1.length) {b1_0 : Bool} {a1_1 : Option Addr} {c1_1 l1_1 : Nat} {xs1_1 : List Nat} (r1_1 : Rd h a1_1 c1_1 xs1_1) (e1_1 : l1_1 = xs1_1.length) (g : Post (s2 sZW (sI .i64)) h0 R (D1.v b0_0 xs0_1 b1_0 xs1_1)) : D1.t R b0_0 a0_1 l0_1 c0_1 b1_0 a1_1 l1_1 c1_1 h := by
  subst e0_1 e1_1
  have kh := Keep.refl h
  unfold D1.v at g
  unfold D1.t
  refine boxV fun h_1 bx_1 k_1 => ?_
  have o_1 : h0.size ≤ h.size := k0.le
  have oh_1 : h.size ≤ h.size := kh.le
  have lt_1 := bx_1.lt
  have m_1 := k_1.tame
  have k0 := k0.trans k_1
  have kh := kh.trans k_1
  refine boxV fun h_2 bx_2 k_2 => ?_
  have d_1q_2 : h.size ≠ h_1.size := Nat.ne_of_lt bx_1.lt
  have o_2 : h0.size ≤ h_1.size := k0.le
  have oh_2 : h.size ≤ h_1.size := kh.le
  have lt_2 := bx_2.lt
  have m_2 := k_2.tame
  have bx_1 := bx_1.keep k_2
  have k0 := k0.trans k_2
  have kh := kh.trans k_2
  refine boxV fun h_3 bx_3 k_3 => ?_
  have d_1q_3 : h.size ≠ h_2.size := Nat.ne_of_lt bx_1.lt
  have d_2q_3 : h_1.size ≠ h_2.size := Nat.ne_of_lt bx_2.lt
  have o_3 : h0.size ≤ h_2.size := k0.le
  have oh_3 : h.size ≤ h_2.size := kh.le
  have lt_3 := bx_3.lt
  have m_3 := k_3.tame
  have bx_1 := bx_1.keep k_3
  have bx_2 := bx_2.keep k_3
  have k0 := k0.trans k_3
  have kh := kh.trans k_3
  refine ldA bx_1 (base_add _ _) rfl ?_
  refine gBool_intro rfl ?_
  refine ldA bx_1 (base_add _ _) rfl ?_
  refine gSlice_intro rfl ?_
  refine hc_intro (num_Form.hs (r0_1.tame (m_1.trans (m_2.trans m_3))) rfl) fun v h_4 ⟨k_4, s⟩ => ?_
  obtain rfl := s
  refine gBool_intro rfl (?_)
  have m_4 := k_4.tame
  have bx_1 := bx_1.keep k_4
  have bx_2 := bx_2.keep k_4
  have bx_3 := bx_3.keep k_4
  have k0 := k0.trans k_4
  have kh := kh.trans k_4
  refine lift_not g (fun q_5 g => ?_) (fun q_5 g => ?_)
  · refine stA bx_3 (base_add _ _) rfl fun h_5 bx_3 k_5 m_5 => ?_
    have bx_1 := bx_1.keepB d_1q_3 k_5
    have bx_2 := bx_2.keepB d_2q_3 k_5
    have k0 := KeepB.keep k0 k_5 o_3
    have kh := KeepB.keep kh k_5 oh_3
    refine stA bx_3 (base_add _ _) rfl fun h_6 bx_3 k_6 m_6 => ?_
    have bx_1 := bx_1.keepB d_1q_3 k_6
    have bx_2 := bx_2.keepB d_2q_3 k_6
    have k0 := KeepB.keep k0 k_6 o_3
    have kh := KeepB.keep kh k_6 oh_3
    refine ldA bx_3 (base_add _ _) rfl ?_
    refine gBool_intro rfl ?_
    refine ldA bx_3 (base_add _ _) rfl ?_
    refine gSlice_intro rfl ?_
    exact g _ _ k0 ⟨_, _, rfl, ⟨_, _, rfl, (GotE.nil _ _)⟩, ⟨rfl, (show In .i64 (2 : Int) by decide)⟩⟩
  · refine ldA bx_2 (base_add _ _) rfl ?_
    refine gBool_intro rfl ?_
    refine ldA bx_2 (base_add _ _) rfl ?_
    refine gSlice_intro rfl ?_
    refine hc_intro (num_Form.hs (r1_1.tame (m_1.trans (m_2.trans (m_3.trans m_4)))) rfl) fun v h_5 ⟨k_5, s⟩ => ?_
    obtain rfl := s
    refine gBool_intro rfl (?_)
    have m_5 := k_5.tame
    have bx_1 := bx_1.keep k_5
    have bx_2 := bx_2.keep k_5
    have bx_3 := bx_3.keep k_5
    have k0 := k0.trans k_5
    have kh := kh.trans k_5
    refine lift_not g (fun q_7 g => ?_) (fun q_7 g => ?_)
    · refine stA bx_3 (base_add _ _) rfl fun h_6 bx_3 k_6 m_6 => ?_
      have bx_1 := bx_1.keepB d_1q_3 k_6
      have bx_2 := bx_2.keepB d_2q_3 k_6
      have k0 := KeepB.keep k0 k_6 o_3
      have kh := KeepB.keep kh k_6 oh_3
      refine stA bx_3 (base_add _ _) rfl fun h_7 bx_3 k_7 m_7 => ?_
      have bx_1 := bx_1.keepB d_1q_3 k_7
      have bx_2 := bx_2.keepB d_2q_3 k_7
      have k0 := KeepB.keep k0 k_7 o_3
      have kh := KeepB.keep kh k_7 oh_3
      refine ldA bx_3 (base_add _ _) rfl ?_
      refine gBool_intro rfl ?_
      refine ldA bx_3 (base_add _ _) rfl ?_
      refine gSlice_intro rfl ?_
      exact g _ _ k0 ⟨_, _, rfl, ⟨_, _, rfl, (GotE.nil _ _)⟩, ⟨rfl, (show In .i64 (2 : Int) by decide)⟩⟩
    · exact D2.hv k0 (r0_1.tame (m_1.trans (m_2.trans (m_3.trans (m_4.trans m_5))))) bx_1 o_1 (r1_1.tame (m_1.trans (m_2.trans (m_3.trans (m_4.trans m_5))))) bx_2 o_2 (GotE.nil _ _) bx_3 o_3 d_1q_2 d_1q_3 d_2q_3 g
def v (b0_0 : Bool) (xs0_1 : List Nat) (b1_0 : Bool) (xs1_1 : List Nat) : ((Bool × List Nat) × Int) := D1.v b0_0 xs0_1 b1_0 xs1_1
theorem hv {h : Hp} {b0_0 : Bool} {a0_1 : Option Addr} {c0_1 l0_1 : Nat} {xs0_1 : List Nat} (r0_1 : Rd h a0_1 c0_1 xs0_1) (e0_1 : l0_1 = xs0_1.length) {b1_0 : Bool} {a1_1 : Option Addr} {c1_1 l1_1 : Nat} {xs1_1 : List Nat} (r1_1 : Rd h a1_1 c1_1 xs1_1) (e1_1 : l1_1 = xs1_1.length) : HC id #[.agg #[.bool b0_0, .slice a0_1 l0_1 c0_1], .agg #[.bool b1_0, .slice a1_1 l1_1 c1_1]] h fun v_ h_ => Keep h h_ ∧ (s2 sZW (sI .i64)) h h_ v_ (v b0_0 xs0_1 b1_0 xs1_1) :=
  ok (D1.hv (Keep.refl _) r0_1 e0_1 r1_1 e1_1 fun v h' k s => ⟨k, s⟩)
end num_Mod

end Go.Proofs.YtabkkcbpckcfnaaDoor.G

/- The other calls of layer 4 over values. -/
namespace Go.Proofs.YtabkkcbpckcfnaaDoor.G
open Go.Gv
set_option linter.unusedVariables false
set_option maxRecDepth 100000
theorem Mod_v {b c : Bool} {xs ys : List Nat} (hw : Words xs) (hy : Words ys) : num_Mod.v b xs c ys = quoZ mo (b, xs) (c, ys) := by
  unfold num_Mod.v num_Mod.D1.v num_Mod.D2.v quoZ
  by_cases f : FrmZ (b, xs)
  · by_cases f2 : FrmZ (c, ys)
    · simp only [f, f2, decide_true, letV, Bool.not_true, cond_false, and_self, if_true]
      have hz : zi (c, ys) = 0 ↔ ys = [] := by rw [zi_sg, sg_eq_zero]; exact val_nil_iff f2.1
      by_cases h0 : ys = []
      · rw [if_pos (hz.mpr h0)]; subst h0; rfl
      · have hB : val ys ≠ 0 := fun h => h0 ((val_nil_iff f2.1).mp h)
        have e0 : (((ys.length : Nat) : Int) == 0) = false := by simp; exact h0
        rw [if_neg (fun h => h0 (hz.mp h)), e0, cond_false]
        have ly : (digs (val ys)).length ≤ 8192 := by rw [digs_frm f2 hy]; exact f2.1.1
        have eq : quoS xs ys = (digs (val xs / val ys), digs (val xs % val ys), 0) := by
          unfold quoS
          rw [if_pos ⟨f.1, f2.1⟩, if_neg hB]
        have hm := Nat.mod_lt (val xs) (show 0 < val ys by omega)
        have lr : (digs (val xs % val ys)).length ≤ 8192 := Nat.le_trans (digs_len_mono (Nat.le_of_lt hm)) ly
        have el : decide (((digs (val xs % val ys)).length : Int) > 0) = decide (val xs % val ys ≠ 0) := by
          rw [← len_pos_digs, decide_eq_decide]; omega
        have e1 : ((0 : Int) != 0) = false := rfl
        have es : subS ys (digs (val xs % val ys)) = lim (val ys - val xs % val ys) := by
          rw [subS_form f2.1 ⟨lr, trimL_digs _⟩ (by rw [val_digs]; exact Nat.le_of_lt hm), val_digs]
        have er : (digs (val xs % val ys), (0 : Int)) = lim (val xs % val ys) := by unfold lim; rw [if_pos lr]
        have D : ∀ p : List Nat × Int, num_Mod.D3.v c ys false [] p.1 p.2 = tellZ c p := fun _ => rfl
        have D2 : num_Mod.D3.v c ys false [] (digs (val xs % val ys)) 0 = tellZ c (lim (val xs % val ys)) := by rw [← er]; rfl
        rw [eq]
        simp only [el, e1, cond_false, D2]
        rw [D, es, tell_lim, tell_lim]
        show _ = zlim (mo (sg b (val xs)) (sg c (val ys)))
        rw [mo_sg hB (frmZ_ne f)]
        have ex : (!(b == c)) = xor b c := by cases b <;> cases c <;> rfl
        rw [ex]
        by_cases c1 : xor b c = true
        · rw [c1, cond_true]
          by_cases c2 : val xs % val ys ≠ 0
          · simp [c2]
          · simp [c2]
        · have c1 : xor b c = false := by simpa using c1
          rw [c1, cond_false]; simp
    · simp only [f, f2, decide_true, decide_false, letV, Bool.not_true, Bool.not_false, cond_false, cond_true, and_false, if_false]; rfl
  · simp only [f, decide_false, letV, Bool.not_false, cond_true, false_and, if_false]; rfl
section
variable {a b : Option Addr} {c d l m : Nat} {xs ys : List Nat} {h : Hp} {x y : Int} {p q : Bool}
theorem num_FloorShr.hs (r : Rd h a c xs) (e : l = xs.length) (i : In .i64 x) (tb : Tab h) : HC num_FloorShr.id #[.agg #[.bool p, .slice a l c], .int .i64 x] h fun v h' => Keep h h' ∧ s2 sZW (sI .i64) h h' v (shrZ flo (p, xs) x) := num_FloorShr.hv r e i tb
theorem num_CeilShr.hs (r : Rd h a c xs) (e : l = xs.length) (i : In .i64 x) (tb : Tab h) : HC num_CeilShr.id #[.agg #[.bool p, .slice a l c], .int .i64 x] h fun v h' => Keep h h' ∧ s2 sZW (sI .i64) h h' v (shrZ cei (p, xs) x) := num_CeilShr.hv r e i tb
theorem num_NearShr.hs (r : Rd h a c xs) (e : l = xs.length) (i : In .i64 x) (tb : Tab h) : HC num_NearShr.id #[.agg #[.bool p, .slice a l c], .int .i64 x] h fun v h' => Keep h h' ∧ s2 sZW (sI .i64) h h' v (shrZ nea (p, xs) x) := num_NearShr.hv r e i tb
theorem num_FloorDiv.hs (r : Rd h a c xs) (e : l = xs.length) (s : Rd h b d ys) (f : m = ys.length) : HC num_FloorDiv.id #[.agg #[.bool p, .slice a l c], .agg #[.bool q, .slice b m d]] h fun v h' => Keep h h' ∧ s2 sZW (sI .i64) h h' v (quoZ flo (p, xs) (q, ys)) := num_FloorDiv.hv r e s f
theorem num_CeilDiv.hs (r : Rd h a c xs) (e : l = xs.length) (s : Rd h b d ys) (f : m = ys.length) : HC num_CeilDiv.id #[.agg #[.bool p, .slice a l c], .agg #[.bool q, .slice b m d]] h fun v h' => Keep h h' ∧ s2 sZW (sI .i64) h h' v (quoZ cei (p, xs) (q, ys)) := num_CeilDiv.hv r e s f
theorem num_NearDiv.hs (r : Rd h a c xs) (e : l = xs.length) (s : Rd h b d ys) (f : m = ys.length) : HC num_NearDiv.id #[.agg #[.bool p, .slice a l c], .agg #[.bool q, .slice b m d]] h fun v h' => Keep h h' ∧ s2 sZW (sI .i64) h h' v (quoZ nea (p, xs) (q, ys)) := num_NearDiv.hv r e s f
theorem num_Mod.hs (r : Rd h a c xs) (e : l = xs.length) (s : Rd h b d ys) (f : m = ys.length) : HC num_Mod.id #[.agg #[.bool p, .slice a l c], .agg #[.bool q, .slice b m d]] h fun v h' => Keep h h' ∧ s2 sZW (sI .i64) h h' v (quoZ mo (p, xs) (q, ys)) := by rw [← Mod_v r.words s.words]; exact num_Mod.hv r e s f
end
end Go.Proofs.YtabkkcbpckcfnaaDoor.G

/- The law NatmulRing of the translation answers true. -/
namespace Go.Proofs.YtabkkcbpckcfnaaDoor.G
open Go.Gv
set_option maxRecDepth 100000
theorem Sqr_spec {a : Option Addr} {c l : Nat} {xs : List Nat} {h : Hp} (r : Rd h a c xs) (hl : l = xs.length) :
    HC natmul_Sqr.id #[.slice a l c] h fun v h' => Keep h h' ∧ Ans h h' v (mulS xs xs) := by
  refine natmul_Sqr.ok ?_
  unfold natmul_Sqr.t natmul_Sqr.D1.t
  refine hc_intro (Mul_spec r r hl hl) fun v h1 ⟨k, an⟩ => ?_
  refine an.elimG fun a5 c5 r5 i5 => ?_
  exact ⟨k, Ans.back r5 i5⟩
end Go.Proofs.YtabkkcbpckcfnaaDoor.G

/- The law NatmulJoins of the translation answers true. -/
namespace Go.Proofs.YtabkkcbpckcfnaaDoor.G
open Go.Gv
set_option maxRecDepth 100000
/-- The answer of a call that gives three lists and an error. -/
def Ans4 (h : Hp) (v : Value) (xs ys zs : List Nat) (e : Int) : Prop := ∃ a b d c1 c2 c3, v = .tuple #[.slice a xs.length c1, .slice b ys.length c2, .slice d zs.length c3, .int .i64 e] ∧ Rd h a c1 xs ∧ Rd h b c2 ys ∧ Rd h d c3 zs
theorem Ans4.elim {h : Hp} {v : Value} {xs ys zs : List Nat} {e : Int} {K : Option Addr → Nat → Nat → Option Addr → Nat → Nat → Option Addr → Nat → Nat → Int → Prop} (a : Ans4 h v xs ys zs e)
    (g : ∀ a b d c1 c2 c3, Rd h a c1 xs → Rd h b c2 ys → Rd h d c3 zs → K a xs.length c1 b ys.length c2 d zs.length c3 e) :
    gTup v fun y => uncons y fun v1 y1 => gSlice v1 fun a l c => uncons y1 fun v2 y2 => gSlice v2 fun b m c' => uncons y2 fun v3 y3 => gSlice v3 fun d n c'' => uncons y3 fun v4 y4 => gInt .i64 v4 fun z => unnil y4 (K a l c b m c' d n c'' z) := by
  obtain ⟨a, b, d, c1, c2, c3, e, r1, r2, r3⟩ := a
  subst e; exact g a b d c1 c2 c3 r1 r2 r3
/-- The same of memory that was made here, each list in a block of its own. -/
def Ans4F (lo : Nat) (h : Hp) (v : Value) (xs ys zs : List Nat) (e : Int) : Prop := ∃ a b d c1 c2 c3, v = .tuple #[.slice a xs.length c1, .slice b ys.length c2, .slice d zs.length c3, .int .i64 e] ∧ FreshL lo h.size h [(a, xs.length, c1), (b, ys.length, c2), (d, zs.length, c3)] [xs, ys, zs]
theorem Ans4F.none {lo : Nat} {h : Hp} {x : Int} : Ans4F lo h (.tuple #[.slice Option.none 0 0, .slice Option.none 0 0, .slice Option.none 0 0, .int .i64 x]) [] [] [] x :=
  ⟨_, _, _, 0, 0, 0, rfl, FreshL.three (Own1.nil _ _ _) (Own1.nil _ _ _) (Own1.nil _ _ _) (fun p q e => by cases e) (fun p q e => by cases e) (fun p q _ e => by cases e)⟩
theorem Ans4.none {h : Hp} {x : Int} : Ans4 h (.tuple #[.slice Option.none 0 0, .slice Option.none 0 0, .slice Option.none 0 0, .int .i64 x]) [] [] [] x :=
  ⟨_, _, _, 0, 0, 0, rfl, Rd.nil _ _ _, Rd.nil _ _ _, Rd.nil _ _ _⟩
/-- The parts below and from the limb k on. -/
def lo (X k : Nat) : Nat := X % 2 ^ (64 * k)
def hi (X k : Nat) : Nat := X / 2 ^ (64 * k)
end Go.Proofs.YtabkkcbpckcfnaaDoor.G

/- What Parts answers, for any arguments. -/
namespace Go.Proofs.YtabkkcbpckcfnaaDoor.G
open Go.Gv
set_option linter.unusedVariables false
set_option maxRecDepth 100000
end Go.Proofs.YtabkkcbpckcfnaaDoor.G

/- What next, power and Pow answer. -/
namespace Go.Proofs.YtabkkcbpckcfnaaDoor.G
open Go.Gv
set_option maxRecDepth 100000
/-- A list that fills the beginning of a block of so many cells. -/
def Room (h : Hp) (q room : Nat) (xs : List Nat) : Prop := ∃ rest, Own h q (xs ++ rest) ∧ (xs ++ rest).length = room
theorem Room.keepB {h h' : Hp} {q p room : Nat} {xs : List Nat} (o : Room h p room xs) (hb : p ≠ q) (k : KeepB q h h') : Room h' p room xs := by
  obtain ⟨r, o, e⟩ := o; exact ⟨r, o.keepB hb k, e⟩
theorem Room.nil {h : Hp} {p room : Nat} {xs : List Nat} (o : Room h p room xs) : Room h p room [] := by
  obtain ⟨r, o, e⟩ := o; exact ⟨xs ++ r, o, e⟩
theorem Room.mine {h : Hp} {p room : Nat} {xs : List Nat} (o : Room h p room xs) : Mine h p xs := by
  obtain ⟨r, o, e⟩ := o; exact ⟨r, o⟩
theorem Room.le {h : Hp} {p room : Nat} {xs : List Nat} (o : Room h p room xs) : xs.length ≤ room := by
  obtain ⟨r, o, e⟩ := o; rw [List.length_append] at e; omega
theorem Room.take {h : Hp} {p room : Nat} {xs : List Nat} (o : Room h p room xs) (n : Nat) : Room h p room (xs.take n) := by
  obtain ⟨r, o, e⟩ := o; exact ⟨xs.drop n ++ r, by rw [← List.append_assoc, List.take_append_drop]; exact o, by rw [← List.append_assoc, List.take_append_drop]; exact e⟩
/-! ### the rounds: V is what is reached, from n's top bit down -/
structure PowSt (h0 h : Hp) (p q room : Nat) (V : Nat) : Prop where
  kp : Keep h0 h
  hp : h0.size ≤ p
  hq : h0.size ≤ q
  ne : p ≠ q
  z : Room h p room (digs V)
  s : Room h q room []
end Go.Proofs.YtabkkcbpckcfnaaDoor.G

/- What lists (copies of lists) and Product answer. -/
namespace Go.Proofs.YtabkkcbpckcfnaaDoor.G
open Go.Gv
set_option maxRecDepth 100000
/-- The heads of a list of lists. -/
structure Heads (h : Hp) (hs : List Sl) (xss : List (List Nat)) : Prop where
  len : hs.length = xss.length
  at_ : ∀ (i : Nat) (s : Sl) (xs : List Nat), hs[i]? = some s → xss[i]? = some xs → s.2.1 = xs.length ∧ Rd h s.1 s.2.2 xs
theorem Heads.keep {h h' : Hp} {hs : List Sl} {xss : List (List Nat)} (o : Heads h hs xss) (k : Keep h h') : Heads h' hs xss :=
  ⟨o.len, fun i s xs e1 e2 => ⟨(o.at_ i s xs e1 e2).1, (o.at_ i s xs e1 e2).2.keep k⟩⟩
theorem Heads.nil (h : Hp) : Heads h [] [] := ⟨rfl, fun i s xs e1 _ => by simp at e1⟩
/-! ### the product of a list -/
end Go.Proofs.YtabkkcbpckcfnaaDoor.G

/- Contracts of natmul and of the theorems' helpers in the form that the lifted functions use. -/
namespace Go.Proofs.YtabkkcbpckcfnaaDoor.G
open Go.Gv
set_option linter.unusedVariables false
set_option maxRecDepth 100000
section
variable {a b : Option Addr} {c d l m : Nat} {xs ys : List Nat} {h : Hp} {x : Int}
theorem natmul_Sqr.hv (r : Rd h a c xs) (e : l = xs.length) : HC natmul_Sqr.id #[.slice a l c] h fun v h' => Keep h h' ∧ Ans h h' v (mulS xs xs) := Sqr_spec r e
/-! ### helpers of the theorems -/
theorem tsame_loop {R : Rt} (r : Rd h a c xs) (s : Rd h b d ys) (hl : l = xs.length) (hm : m = ys.length) (he : xs.length = ys.length) (g : R (.bool (decide (xs = ys))) h) :
    ∀ (k i : Nat), i + k = xs.length → xs.take i = ys.take i → gnomontop_same.L4.t R (k + 1) a l c b m d (i : Int) h := by
  subst hl; subst hm
  have h1 := r.len
  intro k
  induction k with
  | zero =>
    intro i hik ht
    unfold gnomontop_same.L4.t gnomontop_same.D5.t
    refine c_dec (fun hb => absurd hb (by omega)) fun _ => ?_
    unfold gnomontop_same.D2.t
    have : xs = ys := by rw [← List.take_length (l := xs), ← List.take_length (l := ys), ← he, show xs.length = i by omega]; exact ht
    rw [decide_eq_true this] at g; exact g
  | succ k ih =>
    intro i hik ht
    unfold gnomontop_same.L4.t gnomontop_same.D5.t
    refine c_dec (fun _ => ?_) fun hb => absurd (by omega) hb
    refine at_intro r (j := i) rfl rfl (by omega) ?_
    refine at_intro s (j := i) rfl rfl (by omega) ?_
    refine c_ne (fun hne => ?_) fun heq => ?_
    · have : xs ≠ ys := fun e => by subst e; exact hne rfl
      rw [decide_eq_false this] at g; exact g
    · refine k_i64 ((i + 1 : Nat) : Int) (by omega) (by omega) (by omega) ?_
      refine ih (i + 1) (by omega) ?_
      have e : xs.getD i 0 = ys.getD i 0 := by exact_mod_cast heq
      rw [take_snoc (by omega), take_snoc (by omega), ht, e]
theorem gnomontop_same.hv (r : Rd h a c xs) (e : l = xs.length) (s : Rd h b d ys) (f : m = ys.length) : HC gnomontop_same.id #[.slice a l c, .slice b m d] h fun v h' => Keep h h' ∧ sBool h h' v (decide (xs = ys)) := by
  refine hc_intro (S := fun v h' => h' = h ∧ v = .bool (decide (xs = ys))) ?_ fun v h' ⟨e1, e2⟩ => by subst e1; exact ⟨Keep.refl _, e2⟩
  refine gnomontop_same.ok ?_
  unfold gnomontop_same.t gnomontop_same.D1.t
  refine c_ne (fun hne => ?_) fun heq => ?_
  · have : xs ≠ ys := fun e' => by subst e'; subst e; subst f; exact hne rfl
    rw [decide_eq_false this]; exact ⟨rfl, rfl⟩
  · unfold gnomontop_same.D3.t
    exact ⟨xs.length + 1, tsame_loop r s e f (by omega) ⟨rfl, rfl⟩ xs.length 0 (by omega) rfl⟩
theorem gnomontop_natural.hv {n : Nat} (hn : n < 4294967296) (r : Rd h a c xs) (e : l = xs.length) (i : x = (n : Int)) : HC gnomontop_natural.id #[.slice a l c, .int .i64 x] h fun v h' => Keep h h' ∧ sW h h' v (digs (val (xs.take n))) := by
  subst e; subst i
  have hc := r.cap
  refine gnomontop_natural.ok ?_
  unfold gnomontop_natural.t gnomontop_natural.D1.t
  have go : ∀ k : Nat, k ≤ xs.length → xs.take k = xs.take n → gnomontop_natural.D2.t (fun v h' => Keep h h' ∧ sW h h' v (digs (val (xs.take n)))) a xs.length c (k : Int) h := by
    intro k hk hkn
    unfold gnomontop_natural.D2.t
    refine sl_to rfl (by omega) ?_
    have r2 : Rd h a c (xs.take k) := r.take k
    refine hc_intro (From_spec r2 (by rw [List.length_take]; omega)) fun v h1 ⟨k1, a1, c1, e1, g1⟩ => ?_
    subst e1
    refine gSlice_intro rfl ?_
    refine hc_intro (To_spec g1.rd rfl) fun v h2 ⟨k2, a2, c2, e2, g2⟩ => ?_
    subst e2
    refine gSlice_intro rfl ?_
    rw [hkn] at g2 ⊢
    exact ⟨k1.trans k2, a2, c2, rfl, g2.from k1.le⟩
  refine c_dec (fun hb => ?_) fun hb => ?_
  · exact go n (by omega) rfl
  · refine go xs.length (Nat.le_refl _) ?_
    rw [List.take_length, List.take_of_length_le (by omega)]
theorem gnomontop_among.hv {y : Int} (i : In .i64 x) (j : In .i64 y) (hy : 0 < y) : HC gnomontop_among.id #[.int .i64 x, .int .i64 y] h fun v h' => h' = h ∧ ∃ z : Nat, v = .int .i64 (z : Int) ∧ (z : Int) < y := by
  rw [in_i64] at i j
  refine gnomontop_among.ok ?_
  unfold gnomontop_among.t gnomontop_among.D1.t
  refine ⟨by omega, ⟨?_⟩⟩
  have h1 := Int.tmod_lt_of_pos x hy
  have h2 := Int.lt_tmod_of_pos x hy
  refine c_dec (fun hb => ?_) fun hb => ?_
  · refine k_i64 (Int.tmod x y + y) rfl (by omega) (by omega) ?_
    exact ⟨rfl, (Int.tmod x y + y).toNat, by rw [Int.toNat_of_nonneg (by omega)], by omega⟩
  · exact ⟨rfl, (Int.tmod x y).toNat, by rw [Int.toNat_of_nonneg (by omega)], by omega⟩
end
end Go.Proofs.YtabkkcbpckcfnaaDoor.G

/- strings.Builder's copyCheck at this program: what it does to a builder, fresh or used. -/
set_option linter.unusedVariables false
namespace Go.Proofs
open Go.Shelf Go.RowKit
set_option maxHeartbeats 1000000 in
set_option maxRecDepth 100000 in
theorem Tryd.copyCheck_used (b : Nat) (w : World) (h0 : w.cell? ⟨b, 0, none⟩ = some (.pointer (some ⟨b, 0, none⟩))) :
    Calls Tryd.prog 71 #[.pointer (some ⟨b, 0, none⟩)] w fun e w' => e = .returned (.tuple #[]) ∧ w' = w := by
  obtain ⟨j, hj, _⟩ := Option.map_eq_some_iff.1 (show (Tryd.prog.info? 76).map (·.size) = some 2 from by kernel_rfl)
  go_enter Tryd.func71, Tryd.ntmps71
  go_wp2
  rw [Lib.run_neq_ptr_same w _ Tryd.underlying74 hj]
  go_wp2
  go_end0
  exact ⟨rfl, rfl⟩
set_option maxHeartbeats 1000000 in
set_option maxRecDepth 100000 in
theorem Tryd.copyCheck_fresh (b : Nat) (w : World) (h0 : w.cell? ⟨b, 0, none⟩ = some (.pointer none)) (hsh : w.shape? b = some (76, 2)) (hfz : w.frozen? ⟨b, 0, none⟩ = false) :
    Calls Tryd.prog 71 #[.pointer (some ⟨b, 0, none⟩)] w fun e w' => e = .returned (.tuple #[]) ∧ w' = w.setCell ⟨b, 0, none⟩ (.pointer (some ⟨b, 0, none⟩)) := by
  obtain ⟨j, hj, hjs⟩ := Option.map_eq_some_iff.1 (show (Tryd.prog.info? 76).map (·.size) = some 2 from by kernel_rfl)
  go_enter Tryd.func71, Tryd.ntmps71
  go_wp2
  rw [Lib.run_to_unsafe w ⟨b, 0, none⟩ Tryd.underlying74 (Tryd.underlying89) hj (by rw [hjs]; decide) hsh (Nat.zero_lt_succ 1)]
  simp only [Result.andThen]
  rw [Oper.upon_value]
  go_wp2
  rw [run_callFunc_extern Tryd.func77 (by kernel_rfl) (by kernel_rfl) (by kernel_rfl) (e := Extern.AbiNoEscape.same) (by kernel_rfl)]
  rw [Lib.run_noEscape]
  simp only [Result.andThen]
  rw [Oper.upon_value]
  go_wp2
  rw [Lib.run_from_unsafe w ⟨b, 0, none⟩ Tryd.underlying89 Tryd.underlying74 hj hsh (by kernel_rfl)]
  simp only [Result.andThen]
  rw [Oper.upon_value]
  go_wp2
  go_end0
  exact ⟨rfl, rfl⟩
theorem Tryd.copyCheck (B b : Nat) (bs : List Value) (w : World) (h : Lib.IsBuilder 76 5 B b bs w) :
    Calls Tryd.prog 71 #[.pointer (some ⟨b, 0, none⟩)] w fun e w' => e = .returned (.tuple #[]) ∧ Lib.BuilderAt 76 5 B b (.pointer (some ⟨b, 0, none⟩)) bs w' ∧ Below B w w' := by
  rcases h with h | h
  · refine (Tryd.copyCheck_fresh b w h.cell0 h.shape h.frozen0).mono ?_
    rintro e w' ⟨rfl, rfl⟩
    exact ⟨rfl, h.used _, (Below.refl B w).setCell (p := ⟨b, 0, none⟩) h.1 _⟩
  · refine (Tryd.copyCheck_used b w h.cell0).mono ?_
    rintro e w' ⟨rfl, rfl⟩
    exact ⟨rfl, h, Below.refl B _⟩
set_option maxHeartbeats 2000000 in
set_option maxRecDepth 100000 in
theorem Tryd.writeByte (B b : Nat) (bs : List Value) (c : Int) (w : World) (h : Lib.IsBuilder 76 5 B b bs w) (hlen : bs.length + 1 ≤ 140737488355328) (hBw : B ≤ w.heap.size) :
    Calls Tryd.prog 60 #[.pointer (some ⟨b, 0, none⟩), .int .u8 c] w fun e w' => e = .returned .nilIface ∧ Lib.BuilderAt 76 5 B b (.pointer (some ⟨b, 0, none⟩)) (bs ++ [.int .u8 c]) w' ∧ Below B w w' := by
  obtain ⟨i0, hi, hz0, hz1, hz2⟩ := info_parts (show (Tryd.prog.info? 5).map (fun i => (i.zero, i.size, i.bytes)) = some (some (.int .u8 0), 1, 1) from by kernel_rfl)
  go_enter Tryd.func60, Tryd.ntmps60
  go_wp2_with (go_at_call 71; refine (Tryd.copyCheck B b bs _ h).mono ?_)
  rintro e w1 ⟨rfl, h1, hb1⟩
  obtain ⟨hB, v, hbk, hown, hne⟩ := h1
  have c0 : w1.cell? ⟨b, 0, none⟩ = some (.pointer (some ⟨b, 0, none⟩)) := by rw [Lib.cell_of_heap hbk]; rfl
  have c1 : w1.cell? ⟨b, 1, none⟩ = some v := by rw [Lib.cell_of_heap hbk]; rfl
  go_wp2_with (at_builtin; refine wpList_append_own _ rfl _ _ 73 rfl B 5 i0 (.int .u8 0) 1 1 Tryd.underlying73 hi hz0 hz1 hz2 rfl (by decide) _ _ _ rfl (hown.alloc _) ⟨w1.heap.size, 0, none⟩ 1 1 [.int .u8 c] rfl rfl ?c1 ?c2 ?c3 ?c4 ?c5 ?_)
  case c1 =>
    intro j u hj
    match j, hj with
    | 0, hj => simp at hj; subst hj; simp [Addr.add]
  case c2 => intro u hu; simp at hu; subst hu; rfl
  case c3 => unfold maxLen; omega
  case c4 => omega
  case c5 => have := hb1.size; simp; omega
  intro v' w2 hown' hgrow _
  have hlt : b < w1.heap.size := by
    rcases Nat.lt_or_ge b w1.heap.size with h' | h'
    · exact h'
    · simp [Array.getElem?_eq_none h'] at hbk
  have hb2 : w2.heap[b]? = some (.cells #[.pointer (some ⟨b, 0, none⟩), v] 76 (0, 0)) := by
    rw [hgrow.block b (by simp; omega) (fun e => hne e.symm), Lib.alloc_old w1 _ b hlt]
    exact hbk
  have d0 : w2.cell? ⟨b, 0, none⟩ = some (.pointer (some ⟨b, 0, none⟩)) := by rw [Lib.cell_of_heap hb2]; rfl
  have d1 : w2.cell? ⟨b, 1, none⟩ = some v := by rw [Lib.cell_of_heap hb2]; rfl
  have f1 : w2.frozen? ⟨b, 1, none⟩ = false := Lib.frozen_of_heap hb2 1
  obtain ⟨g, cap, rfl⟩ : ∃ g cap, v' = .slice (some ⟨g, 0, none⟩) (bs.length + 1) cap := by
    rcases hown'.2 with ⟨_, h0⟩ | ⟨g, cap, cur, hv, _⟩
    · omega
    · exact ⟨g, cap, hv⟩
  go_wp2
  go_ret
  refine ⟨rfl, ?_, ?_⟩
  · exact Lib.BuilderAt.put (T := 76) (e := 5) hB hb2 (bs' := bs ++ [.int .u8 c]) (by simpa using hown') (by decide)
  · exact ((hb1.alloc (by have := hb1.size; omega) _).grown hgrow (by have := hb1.size; simp; omega) (fun k hk => (hown.lt k hk).1)).setCell (p := ⟨b, 1, none⟩) hB _
def Tryd.lays170_ren : Go.Shelf.Ren := ⟨fun | 170 => 59 | n => n, fun | 70 => 74 | 3 => 3 | 0 => 0 | 72 => 76 | 37 => 73 | 5 => 5 | n => n, fun | n => n⟩
theorem Tryd.lays170 : Go.Proofs.Lays.n170 Tryd.prog Tryd.lays170_ren := {
  mixed := by kernel_rfl
  f170 := Tryd.func59.trans (congrArg some (by kernel_rfl))
  t0 := Tryd.underlying0
  a0 := Tryd.isAgg0
  z0 := Tryd.sizeOf0
  v0 := Tryd.zeroValue0
  t3 := Tryd.underlying3
  a3 := Tryd.isAgg3
  z3 := Tryd.sizeOf3
  v3 := Tryd.zeroValue3
  t37 := Tryd.underlying73
  a37 := Tryd.isAgg73
  z37 := Tryd.sizeOf73
  v37 := Tryd.zeroValue73
  t70 := Tryd.underlying74
  a70 := Tryd.isAgg74
  z70 := Tryd.sizeOf74
  v70 := Tryd.zeroValue74
  t72 := Tryd.underlying76
  a72 := Tryd.isAgg76
  z72 := Tryd.sizeOf76
  v72 := Tryd.zeroValue76 }
theorem Tryd.Builder_Len (B b : Nat) (bs : List Value) (w : World) (h : Lib.IsBuilder 76 5 B b bs w) :
    Calls Tryd.prog 59 #[.pointer (some ⟨b, 0, none⟩)] w fun e w' => e = .returned (.int .i64 bs.length) ∧ w' = w := Any.Builder_Len Tryd.lays170 B b bs w h
def Tryd.lays169_ren : Go.Shelf.Ren := ⟨fun | 169 => 61 | n => n, fun | 70 => 74 | 9 => 9 | 0 => 0 | 72 => 76 | 37 => 73 | 127 => 87 | 3 => 3 | 5 => 5 | n => n, fun | n => n⟩
theorem Tryd.lays169 : Go.Proofs.Lays.n169 Tryd.prog Tryd.lays169_ren := {
  mixed := by kernel_rfl
  f169 := Tryd.func61.trans (congrArg some (by kernel_rfl))
  t0 := Tryd.underlying0
  a0 := Tryd.isAgg0
  z0 := Tryd.sizeOf0
  v0 := Tryd.zeroValue0
  t3 := Tryd.underlying3
  a3 := Tryd.isAgg3
  z3 := Tryd.sizeOf3
  v3 := Tryd.zeroValue3
  t9 := Tryd.underlying9
  a9 := Tryd.isAgg9
  z9 := Tryd.sizeOf9
  v9 := Tryd.zeroValue9
  t37 := Tryd.underlying73
  a37 := Tryd.isAgg73
  z37 := Tryd.sizeOf73
  v37 := Tryd.zeroValue73
  t70 := Tryd.underlying74
  a70 := Tryd.isAgg74
  z70 := Tryd.sizeOf74
  v70 := Tryd.zeroValue74
  t72 := Tryd.underlying76
  a72 := Tryd.isAgg76
  z72 := Tryd.sizeOf76
  v72 := Tryd.zeroValue76
  t127 := Tryd.underlying87
  a127 := Tryd.isAgg87
  z127 := Tryd.sizeOf87
  v127 := Tryd.zeroValue87 }
theorem Tryd.Builder_Extra_169 : Builder.Extra Tryd.prog Tryd.lays169_ren := {
  sizeBuilder := by kernel_rfl
  liesBuilder := by kernel_rfl
  t5 := Tryd.underlying5
  a5 := Tryd.isAgg5
  z5 := Tryd.sizeOf5
  v5 := Tryd.zeroValue5
  infoByte := by kernel_rfl
  cellsByte := by kernel_rfl
  sizeByte := by kernel_rfl
  neB5 := by decide }
theorem Tryd.Builder_String_any (B b : Nat) (l : List UInt8) (w : World) (h : Lib.IsBuilder 76 5 B b (Lib.byteCells l) w) (hBw : B ≤ w.heap.size) :
    Calls Tryd.prog 61 #[.pointer (some ⟨b, 0, none⟩)] w fun e w' => e = .returned (.string ⟨l.toArray⟩) ∧ Below B w w' := Any.Builder_String_any Tryd.lays169 Tryd.Builder_Extra_169 B b l w h hBw
end Go.Proofs

/- Square roots of naturals, and Newton's steps towards them: plain law. -/
namespace Go.Proofs.YtabkkcbpckcfnaaDoor.G
open Go.Gv
def rootN : Nat → Nat
  | 0 => 0
  | n + 1 => if (rootN n + 1) * (rootN n + 1) ≤ n + 1 then rootN n + 1 else rootN n
theorem rootN_both : ∀ A, rootN A * rootN A ≤ A ∧ A < (rootN A + 1) * (rootN A + 1)
  | 0 => by simp [rootN]
  | n + 1 => by
    obtain ⟨h1, h2⟩ := rootN_both n
    unfold rootN
    split
    · rename_i h
      refine ⟨h, ?_⟩
      have : (rootN n + 1 + 1) * (rootN n + 1 + 1) = (rootN n + 1) * (rootN n + 1) + 2 * (rootN n + 1) + 1 := by
        rw [Nat.add_mul (rootN n + 1) 1, Nat.mul_add, Nat.mul_add, Nat.mul_one, Nat.one_mul]; omega
      omega
    · rename_i h
      exact ⟨by omega, by omega⟩
theorem rootN_le (A : Nat) : rootN A * rootN A ≤ A := (rootN_both A).1
theorem rootN_lt (A : Nat) : A < (rootN A + 1) * (rootN A + 1) := (rootN_both A).2
theorem sq_mono {a b : Nat} (h : a ≤ b) : a * a ≤ b * b := Nat.mul_le_mul h h
theorem le_rootN {S A : Nat} (h : S * S ≤ A) : S ≤ rootN A := by
  refine Nat.le_of_not_lt fun hh => ?_
  have := sq_mono (show rootN A + 1 ≤ S by omega)
  have := rootN_lt A
  omega
theorem rootN_lt_of {S A : Nat} (h : A < S * S) : rootN A < S := by
  refine Nat.lt_of_not_le fun hh => ?_
  have := sq_mono hh
  have := rootN_le A
  omega
theorem rootN_pos {A : Nat} (h : A ≠ 0) : 0 < rootN A := le_rootN (S := 1) (by omega)
theorem newton_up {x A : Nat} (hx0 : x ≠ 0) : rootN A ≤ (x + A / x) / 2 := by
  have h1 := rootN_le A
  generalize rootN A = s at *
  rw [Nat.le_div_iff_mul_le (by decide)]
  by_cases h : 2 * s ≤ x
  · have := Nat.zero_le (A / x); omega
  · obtain ⟨d, hd⟩ : ∃ d, 2 * s = x + d := ⟨2 * s - x, by omega⟩
    have h2 : d ≤ A / x := by
      rw [Nat.le_div_iff_mul_le (by omega)]
      -- d * x ≤ s * s, from (x - s)^2 ≥ 0
      have h3 : d * x ≤ s * s := by
        rcases Nat.le_total s x with hh | hh
        · obtain ⟨e, he⟩ : ∃ e, x = s + e := ⟨x - s, by omega⟩
          obtain ⟨f, hf⟩ : ∃ f, s = d + e ∧ f = d := ⟨d, by omega, rfl⟩
          subst he
          rw [hf.1]
          simp only [Nat.add_mul, Nat.mul_add]
          have := Nat.mul_comm d e
          have := Nat.zero_le (e * e)
          omega
        · obtain ⟨e, he⟩ : ∃ e, s = x + e := ⟨s - x, by omega⟩
          have hde : d = x + 2 * e := by omega
          subst he; subst hde
          simp only [Nat.add_mul, Nat.mul_add, Nat.mul_assoc]
          have := Nat.mul_comm x e
          have := Nat.zero_le (e * e)
          omega
      omega
    omega
theorem newton_stop {x A : Nat} (hx0 : x ≠ 0) (hx : rootN A ≤ x) (h : x ≤ (x + A / x) / 2) : rootN A = x := by
  rw [Nat.le_div_iff_mul_le (by decide)] at h
  have h1 : x ≤ A / x := by omega
  rw [Nat.le_div_iff_mul_le (by omega)] at h1
  exact Nat.le_antisymm hx (le_rootN h1)
theorem newton_q {x A : Nat} (hx0 : x ≠ 0) (hx : rootN A ≤ x) : A / x ≤ x + 2 := by
  have h1 := rootN_lt A
  have h2 := sq_mono (show rootN A + 1 ≤ x + 1 by omega)
  have h3 : A < (x + 3) * x := by
    have e1 : (x + 1) * (x + 1) = x * x + 2 * x + 1 := by rw [Nat.add_mul, Nat.mul_add, Nat.one_mul, Nat.mul_one]; omega
    have e2 : (x + 3) * x = x * x + 3 * x := Nat.add_mul _ _ _
    omega
  have := (Nat.div_lt_iff_lt_mul (show 0 < x by omega)).mpr h3
  omega
theorem root_start (A k : Nat) : rootN A ≤ (rootN (A / 2 ^ (2 * k)) + 1) * 2 ^ k := by
  refine Nat.le_of_lt (rootN_lt_of ?_)
  have h1 := rootN_lt (A / 2 ^ (2 * k))
  generalize rootN (A / 2 ^ (2 * k)) = s at *
  have e : 2 ^ (2 * k) = 2 ^ k * 2 ^ k := by rw [← Nat.pow_add]; congr 1; omega
  rw [Nat.div_lt_iff_lt_mul (Nat.pow_pos (by decide)), e] at h1
  have e2 : (s + 1) * 2 ^ k * ((s + 1) * 2 ^ k) = (s + 1) * (s + 1) * (2 ^ k * 2 ^ k) := by
    rw [Nat.mul_assoc, Nat.mul_left_comm (2 ^ k), ← Nat.mul_assoc]
  rw [e2]; exact h1
theorem root_pow {A m : Nat} (h : A < 2 ^ (2 * m)) : rootN A < 2 ^ m := by
  refine rootN_lt_of ?_
  rw [← Nat.pow_add, show m + m = 2 * m by omega]; exact h
theorem root_first {A n : Nat} (h : A < 2 ^ n) : rootN A < 2 ^ ((n + 1) / 2) :=
  root_pow (Nat.lt_of_lt_of_le h (Nat.pow_le_pow_right (by decide) (by omega)))
/-- The start of the greater numbers is no longer than half of them. -/
theorem root_size {A n k : Nat} (h : A < 2 ^ n) (hk : 2 * k ≤ n) : (rootN (A / 2 ^ (2 * k)) + 1) * 2 ^ k ≤ 2 ^ ((n + 1) / 2) := by
  have h1 : A / 2 ^ (2 * k) < 2 ^ (n - 2 * k) := by
    rw [Nat.div_lt_iff_lt_mul (Nat.pow_pos (by decide)), ← Nat.pow_add, show n - 2 * k + 2 * k = n by omega]; exact h
  have h2 := root_first h1
  have h3 : (rootN (A / 2 ^ (2 * k)) + 1) * 2 ^ k ≤ 2 ^ ((n - 2 * k + 1) / 2) * 2 ^ k := Nat.mul_le_mul_right _ h2
  rw [← Nat.pow_add, show (n - 2 * k + 1) / 2 + k = (n + 1) / 2 by omega] at h3
  exact h3
end Go.Proofs.YtabkkcbpckcfnaaDoor.G

/- Answers of layers 1 and 2 on numbers whose limbs are few. -/
namespace Go.Proofs.YtabkkcbpckcfnaaDoor.G
open Go.Gv
set_option linter.unusedVariables false
set_option maxRecDepth 100000
/-! ### answers on numbers -/
section
variable {X Y j k n w : Nat}
theorem frm_d (h : (digs X).length ≤ 8192) : Frm (digs X) := ⟨h, trimL_digs X⟩
theorem lim_d (h : (digs X).length ≤ 8192) : lim X = (digs X, 0) := by unfold lim; rw [if_pos h]
theorem addS_d (hx : (digs X).length ≤ 8192) (hy : (digs Y).length ≤ 8192) (hs : (digs (X + Y)).length ≤ 8192) : addS (digs X) (digs Y) = (digs (X + Y), 0) := by
  unfold addS; rw [if_pos ⟨frm_d hx, frm_d hy⟩, val_digs, val_digs, lim_d hs]
theorem subS_d (hx : (digs X).length ≤ 8192) (hy : (digs Y).length ≤ 8192) (h : Y ≤ X) : subS (digs X) (digs Y) = (digs (X - Y), 0) := by
  unfold subS; rw [if_pos ⟨frm_d hx, frm_d hy⟩, val_digs, val_digs, if_neg (by omega), lim_d (Nat.le_trans (digs_len_mono (Nat.sub_le _ _)) hx)]
theorem mulS_d (hx : (digs X).length ≤ 8192) (hy : (digs Y).length ≤ 8192) (hs : (digs (X * Y)).length ≤ 8192) : mulS (digs X) (digs Y) = (digs (X * Y), 0) := by
  unfold mulS; rw [if_pos ⟨frm_d hx, frm_d hy⟩, val_digs, val_digs, lim_d hs]
theorem mulWS_d (hx : (digs X).length ≤ 8192) (hs : (digs (X * w)).length ≤ 8192) : mulWS (digs X) w = (digs (X * w), 0) := by
  unfold mulWS; rw [if_pos (frm_d hx), val_digs, lim_d hs]
theorem divWS_d (hx : (digs X).length ≤ 8192) (hw : w ≠ 0) : divWS (digs X) w = (digs (X / w), ((X % w : Nat) : Int), 0) := by
  unfold divWS; rw [if_pos (frm_d hx), if_neg hw, val_digs]
theorem shlS_d (hx : (digs X).length ≤ 8192) (hs : (digs (X * 2 ^ n)).length ≤ 8192) : shlS (digs X) (n : Int) = (digs (X * 2 ^ n), 0) := by
  unfold shlS; rw [if_neg (by omega), if_pos (frm_d hx), val_digs, Int.toNat_natCast, lim_d hs]
theorem shrS_d (hx : (digs X).length ≤ 8192) : shrS (digs X) (n : Int) = (digs (X / 2 ^ n), 0) := by
  unfold shrS; rw [if_neg (by omega), if_pos (frm_d hx), val_digs, Int.toNat_natCast, lim_d (Nat.le_trans (digs_len_mono (Nat.div_le_self _ _)) hx)]
theorem dl_mul (hX : (digs X).length ≤ j) (hY : (digs Y).length ≤ k) : (digs (X * Y)).length ≤ j + k := by
  rw [digs_len] at hX hY ⊢
  rw [Nat.mul_add, Nat.pow_add]
  exact Nat.mul_lt_mul'' hX hY
theorem dw_word (hw : w < 18446744073709551616) : (digs w).length ≤ 1 := by
  refine digs_len.mpr ?_
  have e : (2 : Nat) ^ (64 * 1) = 18446744073709551616 := by decide
  omega
theorem take_len (k : Nat) {us : List Nat} (hu : Words us) : (digs (val (us.take k))).length ≤ k :=
  digs_len.mpr (Nat.lt_of_lt_of_le (val_lt (fun x hx => hu x (List.mem_of_mem_take hx))) (Nat.pow_le_pow_right (by decide) (by rw [List.length_take]; omega)))
theorem dl_pos (h : X ≠ 0) : 1 ≤ (digs X).length := by rw [digs_pos h]; simp
end
end Go.Proofs.YtabkkcbpckcfnaaDoor.G

/- What root and Root answer, and the reference's Root, DocQuoRem, DocRoot. -/
namespace Go.Proofs.YtabkkcbpckcfnaaDoor.G
open Go.Gv
set_option maxRecDepth 100000
set_option linter.unusedVariables false
theorem quoS_d {X Y : Nat} (hx : (digs X).length ≤ 8192) (hy : (digs Y).length ≤ 8192) (h0 : Y ≠ 0) : quoS (digs X) (digs Y) = (digs (X / Y), digs (X % Y), 0) := by
  unfold quoS; rw [if_pos ⟨frm_d hx, frm_d hy⟩, val_digs, val_digs, if_neg h0]
theorem AnsQ.elim {h0 h : Hp} {v : Value} {p : List Nat × List Nat × Int} {K : Option Addr → Nat → Nat → Option Addr → Nat → Nat → Int → Prop} (a : AnsQ h0 h v p) (g : ∀ a c b d, GotE eU64 h0 h a c p.1 → GotE eU64 h0 h b d p.2.1 → K a p.1.length c b p.2.1.length d p.2.2) :
    gTup v fun y => uncons y fun v1 y1 => gSlice v1 fun a l c => uncons y1 fun v2 y2 => gSlice v2 fun b m d => uncons y2 fun v3 y3 => gInt .i64 v3 fun x => unnil y3 (K a l c b m d x) := by
  obtain ⟨x, y, z, e, ⟨a, c, e1, r⟩, ⟨b, d, e2, s⟩, e3, _⟩ := a
  subst e; subst e1; subst e2; subst e3; exact g a c b d r s
theorem dl_blen {X k : Nat} (h : blen X ≤ 64 * k) : (digs X).length ≤ k := (lim_blen' k).mp h
theorem dl_root {m : Nat} (h1 : 1 ≤ m) (hm : m ≤ 524280) : (digs (2 * 2 ^ m + 2)).length ≤ 8192 := by
  refine dl_blen (Nat.le_trans (blen_le (k := m + 2).mpr ?_) (by omega))
  have e : 2 ^ (m + 2) = 4 * 2 ^ m := by rw [Nat.pow_add]; omega
  have e1 : 2 ≤ 2 ^ m := by
    have := Nat.pow_le_pow_right (n := 2) (by decide) h1
    simpa using this
  omega
theorem root_loop {R : Rt} {a : Option Addr} {c A XM : Nat} {h0 : Hp} (r : Rd h0 a c (digs A)) (hA : A ≠ 0) (la : (digs A).length ≤ 8192) (hM : (digs (2 * XM + 2)).length ≤ 8192)
    (post : ∀ h a' c', Keep h0 h → GotE eU64 h0 h a' c' (digs (rootN A)) → R (.slice a' (digs (rootN A)).length c') h) :
    ∀ (n X : Nat) (h : Hp) (a4 : Option Addr) (c4 : Nat), X < n → rootN A ≤ X → X ≤ XM → Keep h0 h → GotE eU64 h0 h a4 c4 (digs X) → natdiv_root.L2.t R n a (digs A).length c a4 (digs X).length c4 h := by
  have hpos := rootN_pos hA
  intro n
  induction n with
  | zero => intro X h a4 c4 hX; omega
  | succ n ih =>
    intro X h a4 c4 hX hr hXM k0 g
    unfold natdiv_root.L2.t natdiv_root.D3.t
    have hX0 : X ≠ 0 := by omega
    have hq := newton_q hX0 hr
    have lX : (digs X).length ≤ 8192 := Nat.le_trans (digs_len_mono (by omega)) hM
    have lQ : (digs (A / X)).length ≤ 8192 := Nat.le_trans (digs_len_mono (Nat.div_le_self _ _)) la
    have lS : (digs (X + A / X)).length ≤ 8192 := Nat.le_trans (digs_len_mono (by omega)) hM
    refine hc_intro (QuoRem_spec (r.keep k0) g.rd64 rfl rfl) fun v h1 ⟨k1, an⟩ => ?_
    rw [quoS_d la lX hX0] at an
    refine an.elim fun a1 c1 b1 d1 g1 _ => ?_
    refine hc_intro (Add_spec (g.rd64.keep k1) g1.rd64 rfl rfl) fun v h2 ⟨k2, an⟩ => ?_
    rw [addS_d lX lQ lS] at an
    refine an.elim fun a2 c2 r2 => ?_
    refine hc_intro (Shr_spec r2 rfl (by omega)) fun v h3 ⟨k3, an⟩ => ?_
    have es := shrS_d (X := X + A / X) (n := 1) lS
    rw [show (((1 : Nat)) : Int) = 1 by rfl, Nat.pow_one] at es
    rw [es] at an
    refine an.elimG fun a3 c3 g3 _ => ?_
    have k13 := k1.trans (k2.trans k3)
    refine hc_intro (Cmp_spec g3.rd64 (g.rd64.keep k13) rfl rfl) fun v h4 ⟨e4, ev⟩ => ?_
    subst e4; subst ev
    refine gInt_intro rfl ?_
    rw [val_digs, val_digs]
    have up := newton_up (A := A) hX0
    refine c_dec (fun hb => ?_) fun hb => ?_
    · have hge : X ≤ (X + A / X) / 2 := by unfold cmpI at hb; split at hb <;> omega
      have e := newton_stop hX0 hr hge
      have := post h4 a4 c4 (k0.trans k13) (by rw [e]; exact g.keep k13)
      rw [e] at this; exact this
    · have hlt : (X + A / X) / 2 < X := by
        refine Nat.lt_of_not_le fun hh => hb ?_
        unfold cmpI
        rw [if_neg (by omega)]
        split <;> decide
      exact ih ((X + A / X) / 2) h4 a3 c3 (by omega) up (by omega) (k0.trans k13) (g3.from (k0.trans (k1.trans k2)).le)
theorem root_spec : ∀ (N A : Nat) {a : Option Addr} {c l : Nat} {h : Hp}, A < N → Rd h a c (digs A) → l = (digs A).length → (digs A).length ≤ 8192 →
    HC natdiv_root.id #[.slice a l c] h fun v h' => Keep h h' ∧ AnsS h h' v (digs (rootN A)) := by
  intro N
  induction N with
  | zero => intro A a c l h hN; omega
  | succ N ih =>
    intro A a c l h hN r hl la
    subst hl
    refine natdiv_root.ok ?_
    unfold natdiv_root.t natdiv_root.D1.t
    refine hc_intro (Bits_spec r rfl) fun v h1 ⟨e1, e2⟩ => ?_
    subst e1; subst e2
    refine gInt_intro rfl ?_
    rw [val_digs]
    have hb : blen A ≤ 64 * 8192 := (lim_blen' 8192).mpr la
    refine c_eq (fun h0 => ?_) fun h0 => ?_
    · have hA0 : A = 0 := by
        rcases Nat.eq_zero_or_pos A with e | e
        · exact e
        · have := blen_pos (n := A) (by omega); omega
      subst hA0
      have e0 : digs (rootN 0) = [] := digs_zero
      rw [e0]
      exact ⟨Keep.refl _, none, 0, rfl, GotE.nil _ _⟩
    have hA : A ≠ 0 := fun e => h0 (by subst e; rw [blen_zero]; rfl)
    have hlt : A < 2 ^ blen A := blen_le.mp (Nat.le_refl _)
    have hM := dl_root (m := (blen A + 1) / 2) (by omega) (by omega)
    have l1 : (digs 1).length ≤ 8192 := Nat.le_trans (dw_word (w := 1) (by decide)) (by decide)
    have done : ∀ (h2 : Hp) (a2 : Option Addr) (c2 : Nat), Keep h1 h2 → GotE eU64 h1 h2 a2 c2 (digs (rootN A)) → Keep h1 h2 ∧ AnsS h1 h2 (.slice a2 (digs (rootN A)).length c2) (digs (rootN A)) := fun h2 a2 c2 k g => ⟨k, a2, c2, rfl, g⟩
    refine c_dec (fun hs => ?_) fun hs => ?_
    · refine hc_intro (Word_spec (w := 1) (by decide) h1) fun v h2 ⟨k2, sw⟩ => ?_
      refine AnsS.elim sw fun a2 c2 r2 => ?_
      refine k_i64 ((blen A + 1 : Nat) : Int) (by omega) (by omega) (by omega) ?_
      refine ⟨by decide, ?_⟩
      refine k_i64 (((blen A + 1) / 2 : Nat) : Int) (by rw [show (2 : Int) = ((2 : Nat) : Int) by rfl, tdiv_nat]) (by omega) (by omega) ?_
      refine hc_intro (Shl_spec r2 rfl (by omega)) fun v h3 ⟨k3, an⟩ => ?_
      have lX : (digs (1 * 2 ^ ((blen A + 1) / 2))).length ≤ 8192 := Nat.le_trans (digs_len_mono (by omega)) hM
      rw [shlS_d l1 lX, Nat.one_mul] at an
      refine an.elimG fun a3 c3 g3 _ => ?_
      have hr := root_first hlt
      exact ⟨2 ^ ((blen A + 1) / 2) + 1, root_loop r hA la hM (fun h4 a' c' k g => done h4 a' c' k g) _ _ h3 a3 c3 (by omega) (by omega) (Nat.le_refl _) (k2.trans k3) (g3.from k2.le)⟩
    · refine ⟨by decide, ?_⟩
      refine k_i64 ((blen A / 4 : Nat) : Int) (by rw [show (4 : Int) = ((4 : Nat) : Int) by rfl, tdiv_nat]) (by omega) (by omega) ?_
      refine k_i64 ((2 * (blen A / 4) : Nat) : Int) (by omega) (by omega) (by omega) ?_
      refine hc_intro (Shr_spec r rfl (by omega)) fun v h2 ⟨k2, an⟩ => ?_
      rw [shrS_d la] at an
      refine an.elim fun a2 c2 r2 => ?_
      have hr0 := root_start A (blen A / 4)
      have hsz := root_size (k := blen A / 4) hlt (by omega)
      have hdiv : A / 2 ^ (2 * (blen A / 4)) < A := Nat.div_lt_self (by omega) (Nat.one_lt_two_pow (by omega))
      have lU : (digs (A / 2 ^ (2 * (blen A / 4)))).length ≤ 8192 := Nat.le_trans (digs_len_mono (by omega)) la
      refine hc_intro (ih _ (by omega) r2 rfl lU) fun v h3 ⟨k3, sr⟩ => ?_
      refine AnsS.elim sr fun a3 c3 r3 => ?_
      refine hc_intro (Word_spec (w := 1) (by decide) h3) fun v h4 ⟨k4, sw⟩ => ?_
      refine AnsS.elim sw fun a4 c4 r4 => ?_
      generalize rootN (A / 2 ^ (2 * (blen A / 4))) = S at *
      have hP : 0 < 2 ^ (blen A / 4) := Nat.pow_pos (by decide)
      have hS1 : (S + 1) * 1 ≤ (S + 1) * 2 ^ (blen A / 4) := Nat.mul_le_mul_left _ hP
      have lS1 : (digs (S + 1)).length ≤ 8192 := Nat.le_trans (digs_len_mono (by omega)) hM
      have lS : (digs S).length ≤ 8192 := Nat.le_trans (digs_len_mono (by omega)) hM
      have lX : (digs ((S + 1) * 2 ^ (blen A / 4))).length ≤ 8192 := Nat.le_trans (digs_len_mono (by omega)) hM
      refine hc_intro (Add_spec (r3.keep k4) r4 rfl rfl) fun v h5 ⟨k5, an⟩ => ?_
      rw [addS_d lS l1 lS1] at an
      refine an.elim fun a5 c5 r5 => ?_
      refine hc_intro (Shl_spec r5 rfl (by omega)) fun v h6 ⟨k6, an⟩ => ?_
      rw [shlS_d lS1 lX] at an
      refine an.elimG fun a6 c6 g6 _ => ?_
      have k16 := k2.trans (k3.trans (k4.trans k5))
      exact ⟨(S + 1) * 2 ^ (blen A / 4) + 1, root_loop r hA la hM (fun h4 a' c' k g => done h4 a' c' k g) _ _ h6 a6 c6 (by omega) hr0 hsz (k16.trans k6) (g6.from k16.le)⟩
def rootS (xs : List Nat) : List Nat × List Nat × Int := if Frm xs then (digs (rootN (val xs)), digs (val xs - rootN (val xs) * rootN (val xs)), 0) else ([], [], 2)
theorem Root_spec2 {a : Option Addr} {c l : Nat} {xs : List Nat} {h : Hp} (r : Rd h a c xs) (hl : l = xs.length) :
    HC natdiv_Root.id #[.slice a l c] h fun v h' => Keep h h' ∧ AnsT h h' v (rootS xs) := by
  subst hl
  refine natdiv_Root.ok ?_
  unfold natdiv_Root.t natdiv_Root.D1.t
  refine hc_intro (Form_spec r rfl) fun v h1 ⟨e1, e2⟩ => ?_
  subst e1; subst e2
  refine gBool_intro rfl ?_
  refine c_not (fun hf => ⟨Keep.refl _, ?_⟩) fun hf => ?_
  · unfold rootS; rw [if_neg (of_decide_eq_false hf)]; exact AnsT.none (Nat.le_refl _)
  have fx := of_decide_eq_true hf
  unfold rootS; rw [if_pos fx]
  have dx := fx.digs r.words
  have la : (digs (val xs)).length ≤ 8192 := by rw [dx]; exact fx.1
  have hle := rootN_le (val xs)
  have hS : rootN (val xs) ≤ rootN (val xs) * rootN (val xs) := Nat.le_mul_self _
  have r' : Rd h1 a c (digs (val xs)) := by rw [dx]; exact r
  have ll : xs.length = (digs (val xs)).length := by rw [dx]
  rw [ll]
  generalize val xs = A at *
  refine hc_intro (root_spec (A + 1) A (by omega) r' rfl la) fun v h2 ⟨k2, sr⟩ => ?_
  refine AnsS.elimG sr fun a2 c2 g2 => ?_
  have lS : (digs (rootN A)).length ≤ 8192 := Nat.le_trans (digs_len_mono (by omega)) la
  have lQ : (digs (rootN A * rootN A)).length ≤ 8192 := Nat.le_trans (digs_len_mono hle) la
  refine hc_intro (Sqr_spec g2.rd64 rfl) fun v h3 ⟨k3, an⟩ => ?_
  rw [mulS_d lS lS lQ] at an
  refine an.elim fun a3 c3 r3 => ?_
  refine hc_intro (Sub_spec (r'.keep (k2.trans k3)) r3 rfl rfl) fun v h4 ⟨k4, an⟩ => ?_
  rw [subS_d la lQ hle] at an
  refine an.elimG fun a4 c4 g4 _ => ?_
  exact ⟨k2.trans (k3.trans k4), AnsT.mk _ k2.le (k3.trans k4).le (Or.inl ⟨(Own1.of_got g2 rfl (Nat.le_refl _) (Nat.le_refl _)).keep (k3.trans k4), Own1.of_got g4 rfl k3.le (Nat.le_refl _)⟩) (by decide)⟩
theorem Root_spec {a : Option Addr} {c l : Nat} {xs : List Nat} {h : Hp} (r : Rd h a c xs) (hl : l = xs.length) :
    HC natdiv_Root.id #[.slice a l c] h fun v h' => Keep h h' ∧ AnsQ h h' v (rootS xs) :=
  hc_intro (Root_spec2 r hl) fun v h' ⟨k, t⟩ => ⟨k, t.1⟩
/-! ### the reference -/
abbrev sDD : An (Nat × Nat) := s2 sD sD
theorem sDD.elim {h0 h : Hp} {v : Value} {p : Nat × Nat} {K : Option Addr → Nat → Nat → Option Addr → Nat → Nat → Prop} (a : s2 sD sD h0 h v p) (g : ∀ a c b d, GotE eU32 h0 h a c (D.digs p.1) → GotE eU32 h0 h b d (D.digs p.2) → K a (D.digs p.1).length c b (D.digs p.2).length d) :
    gTup v fun y => uncons y fun v1 y1 => gSlice v1 fun a l c => uncons y1 fun v2 y2 => gSlice v2 fun b m d => unnil y2 (K a l c b m d) := by
  obtain ⟨x, y, e, ⟨a, c, e1, r⟩, ⟨b, d, e2, s⟩⟩ := a
  subst e; subst e1; subst e2; exact g a c b d r s
theorem D.dl_blen {X k : Nat} (h : blen X ≤ 32 * k) : (D.digs X).length ≤ k := (D.lim_blen' k).mp h
theorem D.dl_root {m K : Nat} (h1 : 1 ≤ m) (hm : m + 2 ≤ 32 * K) : (D.digs (2 * 2 ^ m + 2)).length ≤ K := by
  refine D.dl_blen (Nat.le_trans (blen_le (k := m + 2).mpr ?_) hm)
  have e : 2 ^ (m + 2) = 4 * 2 ^ m := by rw [Nat.pow_add]; omega
  have e1 : 2 ≤ 2 ^ m := by
    have := Nat.pow_le_pow_right (n := 2) (by decide) h1
    simpa using this
  omega
end Go.Proofs.YtabkkcbpckcfnaaDoor.G

/- The laws NatdivDivides, NatdivSquares, NatdivUndoes of the translation answer true. -/
namespace Go.Proofs.YtabkkcbpckcfnaaDoor.G
open Go.Gv
set_option maxRecDepth 100000
set_option linter.unusedVariables false
theorem digs1 {w : Nat} (h0 : w ≠ 0) (h : w < 18446744073709551616) : digs w = [w] := by
  rw [digs_pos h0, Nat.mod_eq_of_lt h, Nat.div_eq_of_lt h, digs_zero]
end Go.Proofs.YtabkkcbpckcfnaaDoor.G

/- Read of decimal digits, the program's and the document's. -/
namespace Go.Proofs.YtabkkcbpckcfnaaDoor.G
open Go.Gv
set_option maxRecDepth 100000
set_option linter.unusedVariables false
def readS (s : ByteArray) : List Nat × Int := if 4900 < s.size then ([], 7) else if s.size = 0 then ([], 8) else if (byt s).all isD = true then (digs (num (byt s)), 0) else ([], 8)
theorem readS_no {s : ByteArray} {i : Nat} (h1 : s.size ≤ 4900) (hi : i < s.size) (h : ¬ (48 ≤ (byt s).getD i 0 ∧ (byt s).getD i 0 ≤ 57)) : readS s = ([], 8) := by
  unfold readS
  rw [if_neg (by omega), if_neg (by omega), if_neg]
  intro ha
  have hl : i < (byt s).length := by rw [byt_len]; exact hi
  have := List.all_eq_true.mp ha ((byt s).getD i 0) (by
    have e : (byt s).getD i 0 = (byt s)[i] := by simp [List.getD, hl]
    rw [e]; exact List.getElem_mem hl)
  simp only [isD, decide_eq_true_eq] at this
  exact h this
theorem readS_yes {s : ByteArray} (h1 : s.size ≤ 4900) (h0 : s.size ≠ 0) (h : ∀ b ∈ byt s, isD b = true) : readS s = (digs (num (byt s)), 0) := by
  unfold readS
  rw [if_neg (by omega), if_neg h0, if_pos (List.all_eq_true.mpr h)]
theorem take_all {s : ByteArray} : (byt s).take s.size = byt s := by rw [← byt_len]; exact List.take_length
theorem digit_snoc {s : ByteArray} {i : Nat} (hi : i < s.size) (hd : ∀ b ∈ (byt s).take i, isD b = true) (h : 48 ≤ (byt s).getD i 0 ∧ (byt s).getD i 0 ≤ 57) : ∀ b ∈ (byt s).take (i + 1), isD b = true := by
  intro b hb
  rw [take_byt (by rw [byt_len]; exact hi)] at hb
  rcases List.mem_append.mp hb with h1 | h1
  · exact hd b h1
  · rw [List.mem_singleton.mp h1]; exact decide_eq_true h
theorem num_bound {s : ByteArray} (h1 : s.size ≤ 4900) {i : Nat} (hi : i ≤ s.size) (hd : ∀ b ∈ (byt s).take i, isD b = true) : num ((byt s).take i) < 10 ^ i := by
  have := num_lt hd i (by rw [List.length_take, byt_len]; omega)
  rwa [List.take_take, Nat.min_self] at this
/-! ### the document's -/
theorem readS_long {s : ByteArray} (h : 4900 < s.size) : readS s = ([], 7) := if_pos h
theorem readS_nil {s : ByteArray} (h : s.size = 0) : readS s = ([], 8) := by unfold readS; rw [if_neg (by omega), if_pos h]
/-! ### the program's -/
theorem wrap_i32 {x : Int} (h1 : -2147483648 ≤ x) (h2 : x < 2147483648) : IntKind.i32.wrap x = x := by
  have e1 : (2 : Int) ^ 32 = 4294967296 := by decide
  have e2 : (2 : Int) ^ (32 - 1) = 2147483648 := by decide
  simp only [IntKind.wrap, IntKind.bits, IntKind.signed, Bool.true_and, e1, e2]
  by_cases hx : x % 4294967296 ≥ 2147483648
  · rw [if_pos (by simpa using hx)]; omega
  · rw [if_neg (by simpa using hx)]; omega
theorem pow19 {j : Nat} (h : j ≤ 19) : 10 ^ j ≤ 10000000000000000000 := Nat.le_trans (Nat.pow_le_pow_right (by decide) h) (show 10 ^ 19 ≤ 10000000000000000000 by decide)
theorem Read_flush {K : Option Addr → Nat → Nat → Hp → Prop} {h0 h : Hp} {a : Option Addr} {c A w p T : Nat} (g : GotE eU64 h0 h a c (digs A)) (kp : Keep h0 h) (hp0 : 0 < p) (hp : p < 18446744073709551616) (hw : w < 18446744073709551616) (eT : A * p + w = T) (hT : (digs T).length ≤ 8192)
    (post : ∀ a' c' h', GotE eU64 h0 h' a' c' (digs T) → Keep h h' → K a' (digs T).length c' h') :
    HC nat_MulWord.id #[.slice a (digs A).length c, .int .u64 (p : Int)] h fun v10 h11 =>
      gTup v10 fun y12 => uncons y12 fun v13 y13 => gSlice v13 fun a_14 l_14 c_14 => uncons y13 fun v15 y15 => gInt .i64 v15 fun x_16 => unnil y15 <|
        HC nat_Word.id #[.int .u64 (w : Int)] h11 fun v17 h18 => gSlice v17 fun a_19 l_19 c_19 =>
          HC nat_Add.id #[.slice a_14 l_14 c_14, .slice a_19 l_19 c_19] h18 fun v20 h21 =>
            gTup v20 fun y22 => uncons y22 fun v23 y23 => gSlice v23 fun a_24 l_24 c_24 => uncons y23 fun v25 y25 => gInt .i64 v25 fun x_26 => unnil y25 <| K a_24 l_24 c_24 h21 := by
  subst eT
  have hA : (digs A).length ≤ 8192 := Nat.le_trans (digs_len_mono (by
    calc A = A * 1 := (Nat.mul_one _).symm
      _ ≤ A * p := Nat.mul_le_mul_left _ hp0
      _ ≤ A * p + w := Nat.le_add_right _ _)) hT
  have hAp : (digs (A * p)).length ≤ 8192 := Nat.le_trans (digs_len_mono (Nat.le_add_right _ _)) hT
  have hww : (digs w).length ≤ 8192 := Nat.le_trans (digs_len_mono (Nat.le_add_left _ _)) hT
  refine hc_intro (MulWord_spec g.rd64 rfl hp) fun v h1 ⟨k1, an⟩ => ?_
  rw [mulWS_d hA hAp] at an
  refine an.elimG fun a1 c1 g1 _ => ?_
  refine hc_intro (Word_spec hw h1) fun v h2 ⟨k2, an⟩ => ?_
  refine an.elimG fun a2 c2 g2 => ?_
  refine hc_intro (Add_spec (g1.keep k2).rd64 g2.rd64 rfl rfl) fun v h3 ⟨k3, an⟩ => ?_
  rw [addS_d hAp hww hT] at an
  refine an.elimG fun a3 c3 g3 _ => ?_
  exact post a3 c3 h3 (g3.from (Nat.le_trans kp.le (Nat.le_trans k1.le k2.le))) (k1.trans (k2.trans k3))
theorem Read_walk {R : Rt} {s : ByteArray} {h0 : Hp} {b : Nat} (hb : h0.size ≤ b) (hs : s.size ≤ 4900) (hs0 : s.size ≠ 0) (post : ∀ v h', Keep h0 h' → Ans h0 h' v (readS s) → R v h') :
    ∀ (k i j p A w : Nat) (a : Option Addr) (c : Nat) (h : Hp), i + k = s.size → j < 19 → (k = 0 → j = 0) → p = 10 ^ j → (∀ b ∈ (byt s).take i, isD b = true) → A * p + w = num ((byt s).take i) → w < p → h[b]? = some (.stringIter s i) →
      GotE eU64 h0 h a c (digs A) → Keep h0 h → natdiv_Read.L4.t R (k + 1) s a (digs A).length c (w : Int) (p : Int) ⟨b, 0, none⟩ h := by
  intro k
  induction k with
  | zero =>
    intro i j p A w a c h hi hj hj0 hp hd e hw it g kp
    unfold natdiv_Read.L4.t natdiv_Read.D5.t
    refine nx_intro it (fun _ => ?_) (fun h' h1 => absurd h1 (by omega)) (fun h' c h1 => absurd h1 (by omega))
    have e0 : i = s.size := by omega
    subst e0
    have ej := hj0 rfl
    subst ej
    subst hp
    rw [take_all] at hd e
    have ew : w = 0 := by rw [Nat.pow_zero] at hw; omega
    subst ew
    rw [Nat.pow_zero, Nat.mul_one, Nat.add_zero] at e
    subst e
    unfold natdiv_Read.D2.t
    have e := readS_yes hs hs0 hd
    exact post _ _ kp (Ans.mk (by rw [e]) (by rw [e]) (by rw [e]; exact g) (by rw [e]; exact (by decide : In .i64 0)))
  | succ k ih =>
    intro i j p A w a c h hi hj hj0 hp hd e hw it g kp
    have no : ∀ h', ¬ (48 ≤ (byt s).getD i 0 ∧ (byt s).getD i 0 ≤ 57) → KeepI b h h' → R (.tuple #[.slice none 0 0, .int .i64 8]) h' := fun h' hx k' => by
      refine post _ _ (k'.keep kp hb) ?_
      rw [readS_no hs (by omega) hx]; exact Ans.none
    have hp19 := pow19 (j := j) (by omega)
    have hp18 : 10 ^ (j + 1) ≤ 10000000000000000000 := pow19 (by omega)
    rw [Nat.pow_succ] at hp18
    rw [← hp] at hp19 hp18
    unfold natdiv_Read.L4.t natdiv_Read.D5.t
    refine nx_intro it (fun h1 => absurd h1 (by omega)) (fun h' h1 hx it' k' => ?_) (fun h' r h1 hx hr k' => ?_)
    · refine c_dec (fun hb => no h' (by omega) k') fun h2 => ?_
      refine c_dec (fun hb => no h' (by omega) k') fun h3 => ?_
      have hd' := digit_snoc (i := i) (by omega) hd (by omega)
      have hT := num_bound hs (i := i + 1) (by omega) hd'
      have hn := num_take (bs := byt s) (i := i) (by rw [byt_len]; omega)
      generalize hx' : (byt s).getD i 0 = x at *
      refine k_u64 (w * 10) (by omega) (by omega) ?_
      refine letK_out ?_
      have e1 : IntKind.i32.wrap ((x : Int) - 48) = ((x - 48 : Nat) : Int) := by rw [wrap_i32 (by omega) (by omega)]; omega
      rw [e1]
      refine k_u64 (x - 48) rfl (by omega) ?_
      refine k_u64 (w * 10 + (x - 48)) (by omega) (by omega) ?_
      refine k_u64 (p * 10) (by omega) (by omega) ?_
      have eT : A * (p * 10) + (w * 10 + (x - 48)) = num ((byt s).take (i + 1)) := by
        rw [hn, ← e, Nat.add_mul, Nat.mul_assoc]; omega
      have hTl : (digs (num ((byt s).take (i + 1)))).length ≤ 8192 := digs_10 hT (by omega)
      have flush : HC nat_MulWord.id #[.slice a (digs A).length c, .int .u64 ((p * 10 : Nat) : Int)] h' fun v10 h11 =>
          gTup v10 fun y12 => uncons y12 fun v13 y13 => gSlice v13 fun a_14 l_14 c_14 => uncons y13 fun v15 y15 => gInt .i64 v15 fun x_16 => unnil y15 <|
            HC nat_Word.id #[.int .u64 ((w * 10 + (x - 48) : Nat) : Int)] h11 fun v17 h18 => gSlice v17 fun a_19 l_19 c_19 =>
              HC nat_Add.id #[.slice a_14 l_14 c_14, .slice a_19 l_19 c_19] h18 fun v20 h21 =>
                gTup v20 fun y22 => uncons y22 fun v23 y23 => gSlice v23 fun a_24 l_24 c_24 => uncons y23 fun v25 y25 => gInt .i64 v25 fun x_26 => unnil y25 <| natdiv_Read.L4.t R (k + 1) s a_24 l_24 c_24 0 1 ⟨b, 0, none⟩ h21 := by
        refine Read_flush (g.keepI k') (k'.keep kp hb) (by omega) (by omega) (by omega) eT hTl fun a2 c2 h2 g2 k2 => ?_
        refine ih (i + 1) 0 1 (num ((byt s).take (i + 1))) 0 a2 c2 h2 (by omega) (by decide) (fun _ => rfl) rfl hd' (by rw [Nat.mul_one, Nat.add_zero]) (by decide) ?_ g2 ((k'.keep kp hb).trans k2)
        rw [k2.pre b (by
          rcases Nat.lt_or_ge b h'.size with h4 | h4
          · exact h4
          · rw [Array.getElem?_eq_none h4] at it'; cases it')]
        exact it'
      refine c_eq (fun h4 => flush) fun h4 => ?_
      refine k_i64 ((s.size : Int) - 1) rfl (by omega) (by omega) ?_
      refine c_eq (fun h5 => flush) fun h5 => ?_
      have hj1 : j + 1 < 19 := by
        refine Nat.lt_of_le_of_ne (by omega) fun hh => h4 ?_
        rw [hp, ← Nat.pow_succ, show j.succ = 19 by omega]; decide
      exact ih (i + 1) (j + 1) (p * 10) A (w * 10 + (x - 48)) a c h' (by omega) hj1 (fun hk => absurd hk (by omega)) (by rw [hp, Nat.pow_succ]) hd' eT (by omega) it' (g.keepI k') (k'.keep kp hb)
    · refine c_dec (fun hb => absurd hb (by omega)) fun _ => ?_
      exact c_dec (fun _ => no h' (by omega) k') fun hb => absurd (by omega) hb
theorem Read_spec (s : ByteArray) (h : Hp) : HC natdiv_Read.id #[.string s] h fun v h' => Keep h h' ∧ Ans h h' v (readS s) := by
  refine natdiv_Read.ok ?_
  unfold natdiv_Read.t natdiv_Read.D1.t
  refine c_dec (fun hb => ?_) fun hb => ?_
  · exact ⟨Keep.refl _, by rw [readS_long (by omega)]; exact Ans.none⟩
  refine c_str (fun e => ?_) fun e => ?_
  · exact ⟨Keep.refl _, by rw [readS_nil (by rw [e]; rfl)]; exact Ans.none⟩
  have h0 : s.size ≠ 0 := fun hh => e (ByteArray.ext (Array.eq_empty_of_size_eq_zero hh))
  unfold natdiv_Read.D3.t
  refine rg_intro fun h1 it k1 => ?_
  refine ⟨s.size + 1, ?_⟩
  have := Read_walk (R := fun v h' => Keep h h' ∧ Ans h h' v (readS s)) (Nat.le_refl h.size) (by omega) h0 (fun v h' k a => ⟨k, a⟩) s.size 0 0 1 0 0 none 0 h1 (by omega) (by decide) (fun _ => rfl) rfl (by simp) (by simp [num]) (by decide) it (by rw [digs_zero]; exact GotE.nil _ _) k1
  rw [digs_zero] at this
  exact this
end Go.Proofs.YtabkkcbpckcfnaaDoor.G

/- strings.Builder over heaps; appends of one byte beside another list. -/
namespace Go.Proofs.YtabkkcbpckcfnaaDoor.G
open Go.Gv
set_option maxRecDepth 100000
set_option linter.unusedVariables false
/-- The builder at block b holds the bytes l. -/
def IsB (B b : Nat) (l : List Nat) (h : Hp) : Prop := ∀ w : World, w.heap = h → Lib.IsBuilder 76 5 B b (l.map eU8.enc) w
theorem isb_heap {B b : Nat} {bs : List Value} {w w2 : World} (e : w2.heap = w.heap) (h : Lib.IsBuilder 76 5 B b bs w) : Lib.IsBuilder 76 5 B b bs w2 := by
  unfold Lib.IsBuilder Lib.BuilderAt World.ownsRow at *; rw [e]; exact h
theorem bld_new {h : Hp} {K : Addr → Hp → Prop} (g : ∀ h', IsB h.size h.size [] h' → Keep h h' → K ⟨h.size, 0, none⟩ h') : boxK h 76 T76.zs K := by
  refine g _ (fun w e => Or.inl ⟨Nat.le_refl _, .slice none 0 0, ?_, ?_, ?_⟩) ⟨by simp, fun b hb => ?_⟩
  · rw [e]; simp; rfl
  · exact ⟨rfl, Or.inl ⟨rfl, rfl⟩⟩
  · intro hh; cases hh
  · rw [Array.getElem?_push]; rw [if_neg (by omega)]
theorem BLen_hc {B b : Nat} {l : List Nat} {h : Hp} {R : Value → Hp → Prop} (ib : IsB B b l h) (g : R (.int .i64 (l.length : Int)) h) : HC strings_Builder_Len.id #[.pointer (some ⟨b, 0, none⟩)] h R :=
  fun w hw => (Tryd.Builder_Len B b _ w (ib w hw)).mono fun e w' ⟨e1, e2⟩ => by
    subst e2
    rw [List.length_map] at e1
    exact ⟨_, e1, Same.refl _, by rw [hw]; exact g⟩
theorem BWrite_hc {h1 h : Hp} {b : Nat} {l : List Nat} {x : Int} {n : Nat} {R : Value → Hp → Prop} (ib : IsB h1.size b l h) (k : Keep h1 h) (hx : x = (n : Int)) (hl : l.length + 1 ≤ 140737488355328)
    (g : ∀ h', IsB h1.size b (l ++ [n]) h' → Keep h1 h' → R .nilIface h') : HC strings_Builder_WriteByte.id #[.pointer (some ⟨b, 0, none⟩), .int .u8 x] h R := by
  subst hx
  intro w hw
  refine (Tryd.writeByte h1.size b _ (n : Int) w (ib w hw) (by rw [List.length_map]; exact hl) (by rw [hw]; exact k.le)).mono fun e w' ⟨e1, e2, e3⟩ => ?_
  refine ⟨_, e1, ⟨e3.os, e3.tape, e3.output⟩, g w'.heap (fun w2 e => isb_heap e (Or.inr ?_)) ?_⟩
  · have : (l ++ [n]).map eU8.enc = l.map eU8.enc ++ [.int .u8 (n : Int)] := by simp; rfl
    rw [this]; exact e2
  · have h5 := e3.size
    rw [hw] at h5
    exact ⟨Nat.le_trans k.le h5, fun i hi => (e3.block i hi).trans (by rw [hw]; exact k.pre i hi)⟩
theorem BString_hc {h1 h : Hp} {b : Nat} {l : List Nat} {R : Value → Hp → Prop} (ib : IsB h1.size b l h) (k : Keep h1 h) (hl : ∀ x ∈ l, x < 256)
    (g : ∀ h', Keep h1 h' → R (.string (bstr l)) h') : HC strings_Builder_String.id #[.pointer (some ⟨b, 0, none⟩)] h R := by
  intro w hw
  have e : Lib.byteCells (l.map UInt8.ofNat) = l.map eU8.enc := by
    unfold Lib.byteCells
    rw [List.map_map]
    refine List.map_congr_left fun x hx => ?_
    have := hl x hx
    simp [Function.comp, eU8]
    omega
  refine (Tryd.Builder_String_any h1.size b (l.map UInt8.ofNat) w (by rw [e]; exact ib w hw) (by rw [hw]; exact k.le)).mono fun e w' ⟨e1, e3⟩ => ?_
  have h5 := e3.size
  rw [hw] at h5
  exact ⟨_, e1, ⟨e3.os, e3.tape, e3.output⟩, g w'.heap ⟨Nat.le_trans k.le h5, fun i hi => (e3.block i hi).trans (by rw [hw]; exact k.pre i hi)⟩⟩
/-! ### appends of a byte -/
/-- A list beside a list that grows. -/
structure Beside {α : Type} (E : El α) (h : Hp) (am : Option Addr) (cm : Nat) (ms : List α) (a : Option Addr) : Prop where
  rd : RdE E h am cm ms
  off : ms = [] ∨ ∀ p, am = some p → Off p.block a
theorem Beside.new {α β : Type} {E : El α} {F : El β} {h0 hb h : Hp} {am a : Option Addr} {cm c : Nat} {ms : List α} {xs : List β} (g : GotE E hb h am cm ms) (x : GotE F h0 hb a c xs) : Beside E h am cm ms a := by
  refine ⟨g.rd, ?_⟩
  rcases g.here with ⟨e1, _, _⟩ | ⟨b, rest, e1, e2, _, _⟩
  · exact Or.inl e1
  · refine Or.inr fun p e => ?_
    rw [e1] at e; cases e
    intro q eq
    rcases x.here with ⟨_, e3, _⟩ | ⟨b2, rest2, e3, _, o2, _⟩
    · rw [e3] at eq; cases eq
    · rw [e3] at eq; cases eq
      have := o2.lt
      show b2 ≠ b
      omega
theorem push8 {α : Type} {E : El α} {h0 h : Hp} {a am : Option Addr} {l c cm n : Nat} {x : Int} {xs : List Nat} {ms : List α} (g : GotE eU8 h0 h a c xs) (k0 : Keep h0 h) (hl : l = xs.length) (hx : x = (n : Int)) (hn : n < 256) (hlim : xs.length + 1 ≤ 140737488355328)
    (be : Beside E h am cm ms a) {K : Option Addr → Nat → Nat → Hp → Prop}
    (post : ∀ a' c' h', GotE eU8 h0 h' a' c' (xs ++ [n]) → Keep h0 h' → Beside E h' am cm ms a' → (xs.length + 1 ≤ c → c' = c) → K a' (xs ++ [n]).length c' h') : boxK h 5 [.int .u8 x] fun q h2 => apK h2 5 T5 a l c (.slice (some q) 1 1) K := by
  subst hx
  refine boxE eU8 [n] rfl (fun y hy => by rw [List.mem_singleton.mp hy]; exact hn) fun h2 o2 k2 => ?_
  have r := o2.rd' (c := 1) (by show 1 ≤ 281474976710656; decide) (Nat.le_refl _)
  refine apE3 (g.keep k2) (Nat.le_trans k0.le k2.le) r hl rfl rfl 0 rfl ok8 1 rfl (by decide) (by show _ ≤ 281474976710656; simp; omega) (fun _ => by simp; omega) fun a' c' h' g' kx e1 e2 => ?_
  rw [show xs.length + [n].length = (xs ++ [n]).length by simp]
  refine post a' c' h' g' (kx.keep (k0.trans k2) g.offs) ?_ (fun hc => (e1 (by simpa using hc)).1)
  refine ⟨?_, ?_⟩
  · rcases be.off with e | o
    · subst e; exact RdE.nil _ _ _
    · have r2 := be.rd.keep k2
      refine ⟨r2.len, r2.cap, r2.ok, fun i y hi => ?_⟩
      obtain ⟨p, e, gc⟩ := r2.at_ i y hi
      refine ⟨p, e, ?_⟩
      have hb := cellH_lt gc
      rw [cellH_congr (kx.pre _ hb (by rw [add_block]; exact o p e))]; exact gc
  · rcases be.off with e | o
    · exact Or.inl e
    · cases ms with
      | nil => exact Or.inl rfl
      | cons y ys =>
        refine Or.inr fun p e => ?_
        rcases e2 with e2 | ⟨b, e2, hb⟩
        · rw [e2]; exact o p e
        · intro q eq
          rw [e2] at eq; cases eq
          obtain ⟨p', e', gc⟩ := be.rd.at_ 0 y (by simp)
          rw [e] at e'; cases e'
          have h3 := cellH_lt gc
          rw [add_block] at h3
          have h4 := k2.le
          show b ≠ p.block
          omega
theorem k_u8 {x : Int} (y : Nat) (e : x = (y : Int)) (h : y < 256) {K : Int → Prop} (g : K (y : Int)) : letK (IntKind.u8.wrap x) K := by
  subst e
  refine ⟨?_⟩
  have e : IntKind.u8.wrap (y : Int) = (y : Int) := by
    simp only [IntKind.wrap, IntKind.bits, IntKind.signed, Bool.false_and, Bool.false_eq_true, if_false]
    omega
  rw [e]; exact g
theorem mod10 {n : Nat} {K : Int → Prop} (g : K ((n % 10 : Nat) : Int)) : (10 : Int) ≠ 0 ∧ letK (Int.tmod (n : Int) 10) K := by
  refine ⟨by decide, ?_⟩
  have e : Int.tmod (n : Int) 10 = ((n % 10 : Nat) : Int) := tmod_nat n 10
  rw [e]; exact ⟨g⟩
theorem div10 (n : Nat) : Int.tdiv (n : Int) 10 = ((n / 10 : Nat) : Int) := by
  rw [Int.tdiv_eq_ediv_of_nonneg (by omega)]; rfl
end Go.Proofs.YtabkkcbpckcfnaaDoor.G

/- Text: the decimal digits of a natural, the program's and the document's. -/
namespace Go.Proofs.YtabkkcbpckcfnaaDoor.G
open Go.Gv
set_option maxRecDepth 100000
set_option linter.unusedVariables false
def textS (xs : List Nat) : ByteArray × Int := if Frm xs then (if 4900 < (txt (val xs)).length then (⟨#[]⟩, 5) else (bstr (txt (val xs)), 0)) else (⟨#[]⟩, 2)
/-! ### the program's -/
theorem Text_inner {R : Rt} {N9 : Option Addr → Nat → Nat → Option Addr → Nat → Nat → Hp → Prop} {h0 : Hp} {aq : Option Addr} {cq lq r0 : Nat} {qs bs0 : List Nat} (hb : bs0.length ≤ 1000000) (hr : r0 < 18446744073709551616)
    (post : ∀ a c h', GotE eU8 h0 h' a c (bs0 ++ lowD 19 r0) → Keep h0 h' → Beside eU64 h' aq cq qs a → N9 aq lq cq a (bs0 ++ lowD 19 r0).length c h') :
    ∀ (k i : Nat) (a : Option Addr) (c : Nat) (h : Hp), i + k = 19 → GotE eU8 h0 h a c (bs0 ++ lowD i r0) → Keep h0 h → Beside eU64 h aq cq qs a →
      natdiv_Text.L14.t R N9 (k + 1) a (bs0 ++ lowD i r0).length c aq lq cq ((r0 / 10 ^ i : Nat) : Int) (i : Int) h := by
  intro k
  induction k with
  | zero =>
    intro i a c h hi g kp be
    unfold natdiv_Text.L14.t natdiv_Text.D15.t
    refine c_dec (fun hb => absurd hb (by omega)) fun _ => ?_
    unfold natdiv_Text.D12.t
    have e : i = 19 := by omega
    subst e
    exact post a c h g kp be
  | succ k ih =>
    intro i a c h hi g kp be
    have hq : r0 / 10 ^ i ≤ r0 := Nat.div_le_self _ _
    have e1 : r0 / 10 ^ (i + 1) = r0 / 10 ^ i / 10 := by rw [Nat.pow_succ, Nat.div_div_eq_div_mul]
    have e2 := lowD_snoc i r0
    have ih := ih (i + 1)
    rw [e1, e2, ← List.append_assoc] at ih
    generalize r0 / 10 ^ i = r at *
    unfold natdiv_Text.L14.t natdiv_Text.D15.t
    refine c_dec (fun _ => ?_) fun hb => absurd (by omega) hb
    refine mod10 ?_
    refine k_u64 (48 + r % 10) (by omega) (by omega) ?_
    refine k_u8 (48 + r % 10) rfl (by omega) ?_
    refine push8 g kp rfl rfl (by omega) (by rw [List.length_append, lowD_len]; omega) be fun a' c' h' g' k' be' _ => ?_
    refine ⟨by decide, ?_⟩
    rw [div10]
    refine k_u64 (r / 10) rfl (by omega) ?_
    refine k_i64 ((i + 1 : Nat) : Int) (by omega) (by omega) (by omega) ?_
    exact ih a' c' h' (by omega) g' k' be'
theorem Text_inner0 {R : Rt} {N9 : Option Addr → Nat → Nat → Option Addr → Nat → Nat → Hp → Prop} {h0 : Hp} {aq : Option Addr} {cq lq r0 : Nat} {qs bs0 : List Nat} (hb : bs0.length ≤ 1000000) (hr : r0 < 18446744073709551616)
    (post : ∀ a c h', GotE eU8 h0 h' a c (bs0 ++ lowD 19 r0) → Keep h0 h' → Beside eU64 h' aq cq qs a → N9 aq lq cq a (bs0 ++ lowD 19 r0).length c h')
    {a : Option Addr} {c : Nat} {h : Hp} (g : GotE eU8 h0 h a c bs0) (kp : Keep h0 h) (be : Beside eU64 h aq cq qs a) : natdiv_Text.L14.t R N9 20 a bs0.length c aq lq cq (r0 : Int) 0 h := by
  have := Text_inner (R := R) (N9 := N9) hb hr post 19 0 a c h rfl (by simpa [lowD] using g) kp be
  simpa [lowD] using this
/-- The builder's loop. -/
theorem Text_build {R : Rt} {h0 h1 : Hp} {ab : Option Addr} {cb b : Nat} {bs : List Nat} (k0 : Keep h0 h1) (r : RdE eU8 h1 ab cb bs) (hl : bs.length ≤ 2000000)
    (post : ∀ h', Keep h1 h' → IsB h1.size b (bs.reverse.dropWhile zz8) h' → natdiv_Text.D3.t R ⟨b, 0, none⟩ h') :
    ∀ (k i : Nat) (h : Hp), i + k = bs.length → Keep h1 h → IsB h1.size b ((bs.reverse.take i).dropWhile zz8) h → natdiv_Text.L5.t R (k + 1) ab bs.length cb ⟨b, 0, none⟩ (bs.length : Int) (i : Int) h := by
  intro k
  induction k with
  | zero =>
    intro i h hi kp ib
    unfold natdiv_Text.L5.t natdiv_Text.D6.t
    refine c_dec (fun hb => absurd hb (by omega)) fun _ => ?_
    rw [List.take_of_length_le (by rw [List.length_reverse]; omega)] at ib
    exact post h kp ib
  | succ k ih =>
    intro i h hi kp ib
    have hj : bs.length - 1 - i < bs.length := by omega
    have er : bs.reverse[i]? = some (bs.getD (bs.length - 1 - i) 0) := by
      rw [List.getElem?_reverse (by omega), getD_some hj]
    have et : bs.reverse.take (i + 1) = bs.reverse.take i ++ [bs.getD (bs.length - 1 - i) 0] := by rw [List.take_add_one, er]; rfl
    have hlen : ((bs.reverse.take i).dropWhile zz8).length + 1 ≤ 140737488355328 := by
      have := (List.dropWhile_sublist zz8 (l := bs.reverse.take i)).length_le
      rw [List.length_take, List.length_reverse] at this
      omega
    unfold natdiv_Text.L5.t natdiv_Text.D6.t
    refine c_dec (fun _ => ?_) fun hb => absurd (by omega) hb
    refine k_i64 ((bs.length : Int) - 1) rfl (by omega) (by omega) ?_
    refine k_i64 (((bs.length - 1 - i : Nat)) : Int) (by omega) (by omega) (by omega) ?_
    refine at8 (r.keep kp) (j := bs.length - 1 - i) rfl rfl hj ?_
    have ih := ih (i + 1)
    rw [et, List.dropWhile_append] at ih
    generalize bs.getD (bs.length - 1 - i) 0 = d at *
    have dz : ∀ {x : Nat}, x ≠ 48 → List.dropWhile zz8 [x] = [x] := fun {x} hx => by
      have : zz8 x = false := by rw [beq_eq_false_iff_ne]; exact hx
      simp [List.dropWhile, this]
    have write : ∀ h2, Keep h1 h2 → IsB h1.size b ((bs.reverse.take i).dropWhile zz8) h2 → ((bs.reverse.take i).dropWhile zz8 = [] → d ≠ 48) →
        HC strings_Builder_WriteByte.id #[.pointer (some ⟨b, 0, none⟩), .int .u8 (d : Int)] h2 fun v23 h24 => letK (IntKind.i64.wrap ((i : Int) + 1)) fun n25 => natdiv_Text.L5.t R (k + 1) ab bs.length cb ⟨b, 0, none⟩ (bs.length : Int) n25 h24 := by
      intro h2 k2 ib2 hd
      refine BWrite_hc ib2 k2 rfl hlen fun h3 ib3 k3 => ?_
      refine k_i64 ((i + 1 : Nat) : Int) (by omega) (by omega) (by omega) ?_
      refine ih h3 (by omega) k3 ?_
      split
      · next he =>
        have he := List.isEmpty_iff.mp he
        rw [he] at ib3
        rw [dz (hd he)]
        exact ib3
      · exact ib3
    refine c_ne (fun hd => write h kp ib fun _ hh => hd (by rw [hh]; rfl)) fun hd => ?_
    refine BLen_hc ib ?_
    refine gInt_intro rfl ?_
    refine c_dec (fun hp => write h kp ib fun he => absurd hp (by rw [he]; decide)) fun hp => ?_
    refine k_i64 ((i + 1 : Nat) : Int) (by omega) (by omega) (by omega) ?_
    refine ih h (by omega) kp ?_
    have he : (bs.reverse.take i).dropWhile zz8 = [] := List.length_eq_zero_iff.mp (by omega)
    rw [he] at ib ⊢
    have hd' : d = 48 := by omega
    subst hd'
    exact ib
theorem Text_end {R : Rt} {h0 h1 : Hp} {ab : Option Addr} {cb m X : Nat} (k0 : Keep h0 h1) (r : RdE eU8 h1 ab cb (lowD m X)) (hm : m ≤ 1000000) (hX : X < 10 ^ m)
    (post : ∀ h', Keep h0 h' → R (.tuple #[.string (if 4900 < (txt X).length then (⟨#[]⟩, 5) else (bstr (txt X), 0) : ByteArray × Int).1, .int .i64 (if 4900 < (txt X).length then (⟨#[]⟩, 5) else (bstr (txt X), 0) : ByteArray × Int).2]) h') :
    natdiv_Text.D2.t R ab (lowD m X).length cb h1 := by
  unfold natdiv_Text.D2.t
  refine bld_new fun h2 ib k2 => ?_
  unfold natdiv_Text.D4.t
  refine ⟨(lowD m X).length + 1, ?_⟩
  have hl := lowD_len m X
  -- the frame begins at h1
  refine Text_build (h0 := h0) (h1 := h1) (b := h1.size) k0 r (by omega) (fun h3 k3 ib3 => ?_) (lowD m X).length 0 h2 (by omega) k2 (by rw [List.take_zero]; exact ib)
  rw [low_strip hX] at ib3
  have htx : ∀ x ∈ (dec X).reverse, x < 256 := fun x hx => by have := dec_digit (List.mem_reverse.mp hx); omega
  unfold natdiv_Text.D3.t
  refine BLen_hc ib3 ?_
  refine gInt_intro rfl ?_
  refine c_eq (fun hz => ?_) fun hz => ?_
  · have e : X = 0 := by
      refine dec_nil.mp (List.length_eq_zero_iff.mp ?_)
      rw [List.length_reverse] at hz; omega
    subst e
    have := post h3 (k0.trans k3)
    have e2 : (txt 0).length = 1 := by rfl
    rw [if_neg (by rw [e2]; decide)] at this
    exact this
  · have e : X ≠ 0 := fun hh => hz (by rw [hh, dec_zero]; rfl)
    have et : (dec X).reverse = txt X := by unfold txt; rw [if_neg e]
    rw [et] at ib3 hz htx
    refine BLen_hc ib3 ?_
    refine gInt_intro rfl ?_
    refine c_dec (fun hp => ?_) fun hp => ?_
    · have := post h3 (k0.trans k3)
      rw [if_pos (by omega)] at this
      exact this
    · refine BString_hc ib3 k3 htx fun h4 k4 => ?_
      refine gStr_intro rfl ?_
      have := post h4 (k0.trans k4)
      rw [if_neg (by omega)] at this
      exact this
theorem Text_outer {R : Rt} {h0 : Hp} {X M : Nat} (hX : (digs X).length ≤ 8192) (hM : M ≤ 40000) (hX2 : X < 10 ^ M)
    (post : ∀ h', Keep h0 h' → R (.tuple #[.string (if 4900 < (txt X).length then (⟨#[]⟩, 5) else (bstr (txt X), 0) : ByteArray × Int).1, .int .i64 (if 4900 < (txt X).length then (⟨#[]⟩, 5) else (bstr (txt X), 0) : ByteArray × Int).2]) h') :
    ∀ (n t : Nat) (a0 : Option Addr) (c0 : Nat) (a : Option Addr) (c : Nat) (h : Hp), X / 10 ^ (19 * t) < 10 ^ (19 * n) → t ≤ 40000 → Beside eU64 h a0 c0 (digs (X / 10 ^ (19 * t))) a → GotE eU8 h0 h a c (lowD (19 * t) X) → Keep h0 h →
      natdiv_Text.L9.t R (n + 1) a0 (digs (X / 10 ^ (19 * t))).length c0 a (lowD (19 * t) X).length c h := by
  intro n
  induction n with
  | zero =>
    intro t a0 c0 a c h hA ht be g kp
    have e : X / 10 ^ (19 * t) = 0 := by
      rw [Nat.mul_zero, Nat.pow_zero] at hA
      exact Nat.lt_one_iff.mp hA
    rw [e] at be ⊢
    unfold natdiv_Text.L9.t natdiv_Text.D10.t
    rw [digs_zero]
    refine c_dec (fun hb => absurd hb (by decide)) fun _ => ?_
    refine Text_end kp g.rd (by omega) ?_ post
    exact (Nat.div_eq_zero_iff_lt (Nat.pow_pos (by decide))).mp e
  | succ n ih =>
    intro t a0 c0 a c h hA ht be g kp
    have ih := ih (t + 1)
    have e1 : 10 ^ (19 * (t + 1)) = 10 ^ (19 * t) * 10 ^ 19 := by rw [← Nat.pow_add]; rfl
    have e2 : X / 10 ^ (19 * (t + 1)) = X / 10 ^ (19 * t) / 10 ^ 19 := by rw [e1, Nat.div_div_eq_div_mul]
    have e3 : lowD (19 * (t + 1)) X = lowD (19 * t) X ++ lowD 19 (X / 10 ^ (19 * t) % 10 ^ 19) := by rw [lowD_mod, ← lowD_add]; rfl
    have hle : X / 10 ^ (19 * t) ≤ X := Nat.div_le_self _ _
    have hA0 : (digs (X / 10 ^ (19 * t))).length ≤ 8192 := Nat.le_trans (digs_len_mono hle) hX
    by_cases e : X / 10 ^ (19 * t) = 0
    · rw [e] at be ⊢
      unfold natdiv_Text.L9.t natdiv_Text.D10.t
      rw [digs_zero]
      refine c_dec (fun hb => absurd hb (by decide)) fun _ => ?_
      refine Text_end kp g.rd (by omega) ?_ post
      exact (Nat.div_eq_zero_iff_lt (Nat.pow_pos (by decide))).mp e
    · have ht1 : t < 40000 := by
        refine Nat.lt_of_not_le fun hh => e ?_
        refine Nat.div_eq_of_lt (Nat.lt_of_lt_of_le hX2 (Nat.pow_le_pow_right (by decide) (by omega)))
      rw [e2, e3] at ih
      have hl := lowD_len (19 * t) X
      have hA' : X / 10 ^ (19 * t) / 10 ^ 19 < 10 ^ (19 * n) := by
        rw [Nat.div_lt_iff_lt_mul (Nat.pow_pos (by decide)), ← Nat.pow_add]; exact hA
      have hp := dl_pos e
      generalize hq : X / 10 ^ (19 * t) = A at *
      unfold natdiv_Text.L9.t natdiv_Text.D10.t
      refine c_dec (fun _ => ?_) fun hb => absurd (by omega) hb
      unfold natdiv_Text.D11.t
      have w0 : (10000000000000000000 : Int) = ((10 ^ 19 : Nat) : Int) := by decide
      rw [w0]
      refine hc_intro (DivWord_spec (w := 10 ^ 19) be.rd.to64 rfl (by decide)) fun v h1 ⟨k1, an⟩ => ?_
      rw [divWS_d hA0 (by decide)] at an
      refine an.elim fun a1 c1 g1 => ?_
      unfold natdiv_Text.D13.t
      refine ⟨20, ?_⟩
      refine Text_inner0 (qs := digs (A / 10 ^ 19)) (r0 := A % 10 ^ 19) (bs0 := lowD (19 * t) X) (by rw [hl]; omega) (Nat.lt_trans (Nat.mod_lt _ (Nat.pow_pos (by decide))) (by decide)) (fun a2 c2 h2 g2 k2 be2 => ?_) (g.keep k1) (kp.trans k1) (Beside.new g1 g)
      exact ih a1 c1 a2 c2 h2 hA' (by omega) be2 g2 k2
theorem Text_spec {a : Option Addr} {c l : Nat} {xs : List Nat} {h : Hp} (r : Rd h a c xs) (hl : l = xs.length) : HC natdiv_Text.id #[.slice a l c] h fun v h' => Keep h h' ∧ v = .tuple #[.string (textS xs).1, .int .i64 (textS xs).2] := by
  subst hl
  refine natdiv_Text.ok ?_
  unfold natdiv_Text.t natdiv_Text.D1.t
  refine hc_intro (Form_spec r rfl) fun v h1 ⟨e1, e2⟩ => ?_
  subst e1; subst e2
  refine gBool_intro rfl ?_
  refine c_not (fun hf => ?_) fun hf => ?_
  · have hf := of_decide_eq_false hf
    unfold textS; rw [if_neg hf]; exact ⟨Keep.refl _, rfl⟩
  have hf := of_decide_eq_true hf
  refine hc_intro (Bits_spec r rfl) fun v h2 ⟨e1, e2⟩ => ?_
  subst e1; subst e2
  refine gInt_intro rfl ?_
  have ex := hf.digs r.words
  have h8 := hf.1
  unfold textS
  rw [if_pos hf]
  generalize val xs = X at *
  subst ex
  refine c_dec (fun hb => ?_) fun hb => ?_
  · have : 4900 < (txt X).length := by
      obtain ⟨m, hm⟩ : ∃ m, m = 4900 := ⟨_, rfl⟩
      obtain ⟨b, hb2⟩ : ∃ b, b = 16278 := ⟨_, rfl⟩
      rw [← hm]
      refine Nat.lt_of_not_le fun hh => ?_
      have h1 := Nat.lt_of_lt_of_le ((txt_len (by omega)).mp hh) (ten_4900 hm hb2)
      have := blen_le.mpr h1
      omega
    rw [if_pos this]; exact ⟨Keep.refl _, rfl⟩
  · obtain ⟨m, hm⟩ : ∃ m, m = 16278 := ⟨_, rfl⟩
    have hX := blen_le.mp (show blen X ≤ m by omega)
    have e0 : X / 10 ^ (19 * 0) = X := by rw [Nat.mul_zero, Nat.pow_zero, Nat.div_one]
    refine ⟨X + 1, ?_⟩
    have := Text_outer (R := fun v h' => Keep h2 h' ∧ v = .tuple #[.string (if 4900 < (txt X).length then (⟨#[]⟩, 5) else (bstr (txt X), 0) : ByteArray × Int).1, .int .i64 (if 4900 < (txt X).length then (⟨#[]⟩, 5) else (bstr (txt X), 0) : ByteArray × Int).2]) (M := m) h8 (by omega) (Nat.lt_of_lt_of_le hX (Nat.pow_le_pow_left (by decide) _)) (fun h' k => ⟨k, rfl⟩) X 0 a c none 0 h2
      (by rw [e0]; exact Nat.lt_of_lt_of_le (Nat.lt_pow_self (by decide)) (Nat.pow_le_pow_right (by decide) (by omega))) (by decide) (by rw [e0]; exact ⟨r.toE, Or.inr fun p e q eq => by cases eq⟩) (GotE.nil _ _) (Keep.refl _)
    rw [e0] at this
    exact this
end Go.Proofs.YtabkkcbpckcfnaaDoor.G

/- The document's digits, and its Text; the statement NatdivTexts. -/
namespace Go.Proofs.YtabkkcbpckcfnaaDoor.G
open Go.Gv
set_option maxRecDepth 100000
set_option linter.unusedVariables false
end Go.Proofs.YtabkkcbpckcfnaaDoor.G

/- The statement NatdivReadsBack: Read takes back what Text told, and Text tells what Read took. -/
namespace Go.Proofs.YtabkkcbpckcfnaaDoor.G
open Go.Gv
set_option maxRecDepth 100000
set_option linter.unusedVariables false
theorem num_zero (r : List Nat) : num (48 :: r) = num r := by simp [num]
theorem txt_lt {X : Nat} : ∀ b ∈ txt X, b < 256 := fun b hb => by have := txt_digit hb; omega
theorem readS_txt {X : Nat} (h : (txt X).length ≤ 4900) : readS (bstr (txt X)) = (digs X, 0) := by
  have hs : (bstr (txt X)).size = (txt X).length := bstr_size _
  have h0 : (txt X).length ≠ 0 := fun hh => txt_ne X (List.length_eq_zero_iff.mp hh)
  rw [readS_yes (by omega) (by omega) (by
    rw [byt_bstr txt_lt]
    intro b hb; have := txt_digit hb; exact decide_eq_true this)]
  rw [byt_bstr txt_lt, num_txt]
end Go.Proofs.YtabkkcbpckcfnaaDoor.G

/- What the theorem of division calls, in the form that the lifted functions use. -/
namespace Go.Proofs.YtabkkcbpckcfnaaDoor.G
open Go.Gv
set_option linter.unusedVariables false
set_option maxRecDepth 100000
section
variable {a b : Option Addr} {c d l m : Nat} {xs ys : List Nat} {h : Hp} {x : Int} {p q : Bool}
theorem natdiv_Root.hv (r : Rd h a c xs) (e : l = xs.length) : HC natdiv_Root.id #[.slice a l c] h fun v h' => Keep h h' ∧ s3 sW sW (sI .i64) h h' v (rootS xs) := Root_spec r e
end
end Go.Proofs.YtabkkcbpckcfnaaDoor.G

/- Functions without loops as functions of values. Written by a program of this work. -/
namespace Go.Proofs.YtabkkcbpckcfnaaDoor.G
open Go.Gv
set_option linter.unusedVariables false
set_option maxRecDepth 100000
namespace gnomontop_sameInt
def D1.v (b0_0 : Bool) (xs0_1 : List Nat) (b1_0 : Bool) (xs1_1 : List Nat) : Bool :=
  bif (b0_0 == b1_0) then
    (decide (xs0_1 = xs1_1))
  else
    false
theorem D1.hv {R : Rt} {h0 h : Hp} (k0 : Keep h0 h) {b0_0 : Bool} {a0_1 : Option Addr} {c0_1 l0_1 : Nat} {xs0_1 : List Nat} (r0_1 : Rd h a0_1 c0_1 xs0_1) (e0_1 : l0_1 = xs0_1.length) {b1_0 : Bool} {a1_1 : Option Addr} {c1_1 l1_1 : Nat} {xs1_1 : List Nat} (r1_1 : Rd h a1_1 c1_1 xs1_1) (e1_1 : l1_1 = xs1_1.length) (g : Post sBool h0 R (D1.v b0_0 xs0_1 b1_0 xs1_1)) : D1.t R b0_0 a0_1 l0_1 c0_1 b1_0 a1_1 l1_1 c1_1 h := by
  subst e0_1 e1_1
  have kh := Keep.refl h
  unfold D1.v at g
  unfold D1.t
  refine boxV fun h_1 bx_1 k_1 => ?_
  have o_1 : h0.size ≤ h.size := k0.le
  have oh_1 : h.size ≤ h.size := kh.le
  have lt_1 := bx_1.lt
  have m_1 := k_1.tame
  have k0 := k0.trans k_1
  have kh := kh.trans k_1
  refine boxV fun h_2 bx_2 k_2 => ?_
  have d_1q_2 : h.size ≠ h_1.size := Nat.ne_of_lt bx_1.lt
  have o_2 : h0.size ≤ h_1.size := k0.le
  have oh_2 : h.size ≤ h_1.size := kh.le
  have lt_2 := bx_2.lt
  have m_2 := k_2.tame
  have bx_1 := bx_1.keep k_2
  have k0 := k0.trans k_2
  have kh := kh.trans k_2
  refine ldA bx_1 (base_add _ _) rfl ?_
  refine gBool_intro rfl ?_
  refine ldA bx_2 (base_add _ _) rfl ?_
  refine gBool_intro rfl ?_
  refine lift_bool g (fun q_3 g => ?_) (fun q_3 g => ?_)
  · refine ldA bx_1 (base_add _ _) rfl ?_
    refine gSlice_intro rfl ?_
    refine ldA bx_2 (base_add _ _) rfl ?_
    refine gSlice_intro rfl ?_
    refine hc_intro (gnomontop_same.hv (r0_1.tame (m_1.trans m_2)) rfl (r1_1.tame (m_1.trans m_2)) rfl) fun v h_3 ⟨k_3, s⟩ => ?_
    obtain rfl := s
    refine gBool_intro rfl (?_)
    have m_3 := k_3.tame
    have bx_1 := bx_1.keep k_3
    have bx_2 := bx_2.keep k_3
    have k0 := k0.trans k_3
    have kh := kh.trans k_3
    exact g _ _ k0 rfl
  · exact g _ _ k0 rfl
def v (b0_0 : Bool) (xs0_1 : List Nat) (b1_0 : Bool) (xs1_1 : List Nat) : Bool := D1.v b0_0 xs0_1 b1_0 xs1_1
theorem hv {h : Hp} {b0_0 : Bool} {a0_1 : Option Addr} {c0_1 l0_1 : Nat} {xs0_1 : List Nat} (r0_1 : Rd h a0_1 c0_1 xs0_1) (e0_1 : l0_1 = xs0_1.length) {b1_0 : Bool} {a1_1 : Option Addr} {c1_1 l1_1 : Nat} {xs1_1 : List Nat} (r1_1 : Rd h a1_1 c1_1 xs1_1) (e1_1 : l1_1 = xs1_1.length) : HC id #[.agg #[.bool b0_0, .slice a0_1 l0_1 c0_1], .agg #[.bool b1_0, .slice a1_1 l1_1 c1_1]] h fun v_ h_ => Keep h h_ ∧ sBool h h_ v_ (v b0_0 xs0_1 b1_0 xs1_1) :=
  ok (D1.hv (Keep.refl _) r0_1 e0_1 r1_1 e1_1 fun v h' k s => ⟨k, s⟩)
end gnomontop_sameInt

namespace gnomontop_divides
def D2.v (xs0 : List Nat) (xs1 : List Nat) : Bool :=
  letV (mulS xs0 xs1) fun p_12 =>
  letV (quoS p_12.1 xs1) fun p_13 =>
  bif (p_12.2 == (0 : Int)) then
    bif (p_13.2.2 == (0 : Int)) then
      bif (decide (p_13.1 = xs0)) then
        ((((p_13.2.1.length : Nat) : Int)) == (0 : Int))
      else
        false
    else
      false
  else
    false
theorem D2.hv {R : Rt} {h0 h : Hp} (k0 : Keep h0 h) {a0 : Option Addr} {c0 l0 : Nat} {xs0 : List Nat} (r0 : Rd h a0 c0 xs0) (e0 : l0 = xs0.length) {a1 : Option Addr} {c1 l1 : Nat} {xs1 : List Nat} (r1 : Rd h a1 c1 xs1) (e1 : l1 = xs1.length) (g : Post sBool h0 R (D2.v xs0 xs1)) : D2.t R a0 l0 c0 a1 l1 c1 h := by
  subst e0 e1
  have kh := Keep.refl h
  unfold D2.v at g
  unfold D2.t
  refine hc_intro (natmul_Mul.hv r0 rfl r1 rfl) fun v h_1 ⟨k_1, s⟩ => ?_
  obtain ⟨p_12, hp_12⟩ : ∃ p, p = mulS xs0 xs1 := ⟨_, rfl⟩
  rw [← hp_12] at s
  replace g := lift_let2 hp_12 g
  obtain ⟨_, _, rfl, ⟨a_12_0, c_12_0, rfl, r_12_0⟩, ⟨rfl, i_12_1⟩⟩ := s
  refine gTup_intro rfl (uncons_intro (gSlice_intro rfl (uncons_intro (gInt_intro rfl (unnil_intro (?_))))))
  have r_12_0 := r_12_0.from k0.le
  have m_1 := k_1.tame
  have k0 := k0.trans k_1
  have kh := kh.trans k_1
  refine hc_intro (natdiv_QuoRem.hv r_12_0.rd64 rfl (r1.tame (m_1)) rfl) fun v h_2 ⟨k_2, s⟩ => ?_
  obtain ⟨p_13, hp_13⟩ : ∃ p, p = quoS p_12.1 xs1 := ⟨_, rfl⟩
  rw [← hp_13] at s
  replace g := lift_let2 hp_13 g
  obtain ⟨_, _, _, rfl, ⟨a_13_0, c_13_0, rfl, r_13_0⟩, ⟨a_13_1, c_13_1, rfl, r_13_1⟩, ⟨rfl, i_13_2⟩⟩ := s
  refine gTup_intro rfl (uncons_intro (gSlice_intro rfl (uncons_intro (gSlice_intro rfl (uncons_intro (gInt_intro rfl (unnil_intro (?_))))))))
  have r_13_0 := r_13_0.from k0.le
  have r_13_1 := r_13_1.from k0.le
  have m_2 := k_2.tame
  have k0 := k0.trans k_2
  have kh := kh.trans k_2
  refine lift_eq g (fun q_14 g => ?_) (fun q_14 g => ?_)
  · refine lift_eq g (fun q_15 g => ?_) (fun q_15 g => ?_)
    · refine hc_intro (gnomontop_same.hv r_13_0.rd64 rfl (r0.tame (m_1.trans m_2)) rfl) fun v h_3 ⟨k_3, s⟩ => ?_
      obtain rfl := s
      refine gBool_intro rfl (?_)
      have m_3 := k_3.tame
      have k0 := k0.trans k_3
      have kh := kh.trans k_3
      refine lift_dec g (fun q_17 g => ?_) (fun q_17 g => ?_)
      · exact g _ _ k0 rfl
      · exact g _ _ k0 rfl
    · exact g _ _ k0 rfl
  · exact g _ _ k0 rfl
def D1.v (xs0 : List Nat) (xs1 : List Nat) : Bool :=
  letV (quoS xs0 xs1) fun p_1 =>
  bif ((((xs1.length : Nat) : Int)) == (0 : Int)) then
    (p_1.2.2 == (4 : Int))
  else
    letV (mulS p_1.1 xs1) fun p_3 =>
    letV (addS p_3.1 p_1.2.1) fun p_4 =>
    bif (p_1.2.2 != (0 : Int)) then
      false
    else
      bif (p_3.2 != (0 : Int)) then
        false
      else
        bif (p_4.2 != (0 : Int)) then
          false
        else
          bif (!(decide (p_4.1 = xs0))) then
            false
          else
            bif (decide (((cmpI (val p_1.2.1) (val xs1))) ≥ (0 : Int))) then
              false
            else
              D2.v xs0 xs1
theorem D1.hv {R : Rt} {h0 h : Hp} (k0 : Keep h0 h) {a0 : Option Addr} {c0 l0 : Nat} {xs0 : List Nat} (r0 : Rd h a0 c0 xs0) (e0 : l0 = xs0.length) {a1 : Option Addr} {c1 l1 : Nat} {xs1 : List Nat} (r1 : Rd h a1 c1 xs1) (e1 : l1 = xs1.length) (g : Post sBool h0 R (D1.v xs0 xs1)) : D1.t R a0 l0 c0 a1 l1 c1 h := by
  subst e0 e1
  have kh := Keep.refl h
  unfold D1.v at g
  unfold D1.t
  refine hc_intro (natdiv_QuoRem.hv r0 rfl r1 rfl) fun v h_1 ⟨k_1, s⟩ => ?_
  obtain ⟨p_1, hp_1⟩ : ∃ p, p = quoS xs0 xs1 := ⟨_, rfl⟩
  rw [← hp_1] at s
  replace g := lift_let2 hp_1 g
  obtain ⟨_, _, _, rfl, ⟨a_1_0, c_1_0, rfl, r_1_0⟩, ⟨a_1_1, c_1_1, rfl, r_1_1⟩, ⟨rfl, i_1_2⟩⟩ := s
  refine gTup_intro rfl (uncons_intro (gSlice_intro rfl (uncons_intro (gSlice_intro rfl (uncons_intro (gInt_intro rfl (unnil_intro (?_))))))))
  have r_1_0 := r_1_0.from k0.le
  have r_1_1 := r_1_1.from k0.le
  have m_1 := k_1.tame
  have k0 := k0.trans k_1
  have kh := kh.trans k_1
  refine lift_eq g (fun q_2 g => ?_) (fun q_2 g => ?_)
  · exact g _ _ k0 rfl
  · refine hc_intro (natmul_Mul.hv r_1_0.rd64 rfl (r1.tame (m_1)) rfl) fun v h_2 ⟨k_2, s⟩ => ?_
    obtain ⟨p_3, hp_3⟩ : ∃ p, p = mulS p_1.1 xs1 := ⟨_, rfl⟩
    rw [← hp_3] at s
    replace g := lift_let2 hp_3 g
    obtain ⟨_, _, rfl, ⟨a_3_0, c_3_0, rfl, r_3_0⟩, ⟨rfl, i_3_1⟩⟩ := s
    refine gTup_intro rfl (uncons_intro (gSlice_intro rfl (uncons_intro (gInt_intro rfl (unnil_intro (?_))))))
    have r_3_0 := r_3_0.from k0.le
    have m_2 := k_2.tame
    have k0 := k0.trans k_2
    have kh := kh.trans k_2
    refine hc_intro (nat_Add.hv r_3_0.rd64 rfl (r_1_1.tame (m_2)).rd64 rfl) fun v h_3 ⟨k_3, s⟩ => ?_
    obtain ⟨p_4, hp_4⟩ : ∃ p, p = addS p_3.1 p_1.2.1 := ⟨_, rfl⟩
    rw [← hp_4] at s
    replace g := lift_let2 hp_4 g
    obtain ⟨_, _, rfl, ⟨a_4_0, c_4_0, rfl, r_4_0⟩, ⟨rfl, i_4_1⟩⟩ := s
    refine gTup_intro rfl (uncons_intro (gSlice_intro rfl (uncons_intro (gInt_intro rfl (unnil_intro (?_))))))
    have r_4_0 := r_4_0.from k0.le
    have m_3 := k_3.tame
    have k0 := k0.trans k_3
    have kh := kh.trans k_3
    refine lift_ne g (fun q_5 g => ?_) (fun q_5 g => ?_)
    · exact g _ _ k0 rfl
    · refine lift_ne g (fun q_6 g => ?_) (fun q_6 g => ?_)
      · exact g _ _ k0 rfl
      · refine lift_ne g (fun q_7 g => ?_) (fun q_7 g => ?_)
        · exact g _ _ k0 rfl
        · refine hc_intro (gnomontop_same.hv r_4_0.rd64 rfl (r0.tame (m_1.trans (m_2.trans m_3))) rfl) fun v h_4 ⟨k_4, s⟩ => ?_
          obtain rfl := s
          refine gBool_intro rfl (?_)
          have m_4 := k_4.tame
          have k0 := k0.trans k_4
          have kh := kh.trans k_4
          refine lift_not g (fun q_9 g => ?_) (fun q_9 g => ?_)
          · exact g _ _ k0 rfl
          · refine hc_intro (nat_Cmp.hv (r_1_1.tame (m_2.trans (m_3.trans m_4))).rd64 rfl (r1.tame (m_1.trans (m_2.trans (m_3.trans m_4)))) rfl) fun v h_5 ⟨k_5, s⟩ => ?_
            obtain ⟨rfl, i_10⟩ := s
            refine gInt_intro rfl (?_)
            have m_5 := k_5.tame
            have k0 := k0.trans k_5
            have kh := kh.trans k_5
            refine lift_dec g (fun q_11 g => ?_) (fun q_11 g => ?_)
            · exact g _ _ k0 rfl
            · exact D2.hv k0 (r0.tame (m_1.trans (m_2.trans (m_3.trans (m_4.trans m_5))))) rfl (r1.tame (m_1.trans (m_2.trans (m_3.trans (m_4.trans m_5))))) rfl g
def v (xs0 : List Nat) (xs1 : List Nat) : Bool := D1.v xs0 xs1
theorem hv {h : Hp} {a0 : Option Addr} {c0 l0 : Nat} {xs0 : List Nat} (r0 : Rd h a0 c0 xs0) (e0 : l0 = xs0.length) {a1 : Option Addr} {c1 l1 : Nat} {xs1 : List Nat} (r1 : Rd h a1 c1 xs1) (e1 : l1 = xs1.length) : HC id #[.slice a0 l0 c0, .slice a1 l1 c1] h fun v_ h_ => Keep h h_ ∧ sBool h h_ v_ (v xs0 xs1) :=
  ok (D1.hv (Keep.refl _) r0 e0 r1 e1 fun v h' k s => ⟨k, s⟩)
end gnomontop_divides

namespace gnomontop_roots
def D1.v (xs0 : List Nat) : Bool :=
  letV (rootS xs0) fun p_1 =>
  letV (mulS p_1.1 p_1.1) fun p_2 =>
  letV (addS p_2.1 p_1.2.1) fun p_3 =>
  letV (mulWS p_1.1 (Int.toNat (2 : Int))) fun p_4 =>
  bif (p_1.2.2 == (0 : Int)) then
    bif (p_2.2 == (0 : Int)) then
      bif (p_3.2 == (0 : Int)) then
        bif (p_4.2 == (0 : Int)) then
          bif (decide (p_3.1 = xs0)) then
            (decide (((cmpI (val p_1.2.1) (val p_4.1))) ≤ (0 : Int)))
          else
            false
        else
          false
      else
        false
    else
      false
  else
    false
theorem D1.hv {R : Rt} {h0 h : Hp} (k0 : Keep h0 h) {a0 : Option Addr} {c0 l0 : Nat} {xs0 : List Nat} (r0 : Rd h a0 c0 xs0) (e0 : l0 = xs0.length) (g : Post sBool h0 R (D1.v xs0)) : D1.t R a0 l0 c0 h := by
  subst e0
  have kh := Keep.refl h
  unfold D1.v at g
  unfold D1.t
  refine hc_intro (natdiv_Root.hv r0 rfl) fun v h_1 ⟨k_1, s⟩ => ?_
  obtain ⟨p_1, hp_1⟩ : ∃ p, p = rootS xs0 := ⟨_, rfl⟩
  rw [← hp_1] at s
  replace g := lift_let2 hp_1 g
  obtain ⟨_, _, _, rfl, ⟨a_1_0, c_1_0, rfl, r_1_0⟩, ⟨a_1_1, c_1_1, rfl, r_1_1⟩, ⟨rfl, i_1_2⟩⟩ := s
  refine gTup_intro rfl (uncons_intro (gSlice_intro rfl (uncons_intro (gSlice_intro rfl (uncons_intro (gInt_intro rfl (unnil_intro (?_))))))))
  have r_1_0 := r_1_0.from k0.le
  have r_1_1 := r_1_1.from k0.le
  have m_1 := k_1.tame
  have k0 := k0.trans k_1
  have kh := kh.trans k_1
  refine hc_intro (natmul_Sqr.hv r_1_0.rd64 rfl) fun v h_2 ⟨k_2, s⟩ => ?_
  obtain ⟨p_2, hp_2⟩ : ∃ p, p = mulS p_1.1 p_1.1 := ⟨_, rfl⟩
  rw [← hp_2] at s
  replace g := lift_let2 hp_2 g
  obtain ⟨_, _, rfl, ⟨a_2_0, c_2_0, rfl, r_2_0⟩, ⟨rfl, i_2_1⟩⟩ := s
  refine gTup_intro rfl (uncons_intro (gSlice_intro rfl (uncons_intro (gInt_intro rfl (unnil_intro (?_))))))
  have r_2_0 := r_2_0.from k0.le
  have m_2 := k_2.tame
  have k0 := k0.trans k_2
  have kh := kh.trans k_2
  refine hc_intro (nat_Add.hv r_2_0.rd64 rfl (r_1_1.tame (m_2)).rd64 rfl) fun v h_3 ⟨k_3, s⟩ => ?_
  obtain ⟨p_3, hp_3⟩ : ∃ p, p = addS p_2.1 p_1.2.1 := ⟨_, rfl⟩
  rw [← hp_3] at s
  replace g := lift_let2 hp_3 g
  obtain ⟨_, _, rfl, ⟨a_3_0, c_3_0, rfl, r_3_0⟩, ⟨rfl, i_3_1⟩⟩ := s
  refine gTup_intro rfl (uncons_intro (gSlice_intro rfl (uncons_intro (gInt_intro rfl (unnil_intro (?_))))))
  have r_3_0 := r_3_0.from k0.le
  have m_3 := k_3.tame
  have k0 := k0.trans k_3
  have kh := kh.trans k_3
  refine hc_intro (nat_MulWord.hv (r_1_0.tame (m_2.trans m_3)).rd64 rfl (show In .u64 (2 : Int) by decide)) fun v h_4 ⟨k_4, s⟩ => ?_
  obtain ⟨p_4, hp_4⟩ : ∃ p, p = mulWS p_1.1 (Int.toNat (2 : Int)) := ⟨_, rfl⟩
  rw [← hp_4] at s
  replace g := lift_let2 hp_4 g
  obtain ⟨_, _, rfl, ⟨a_4_0, c_4_0, rfl, r_4_0⟩, ⟨rfl, i_4_1⟩⟩ := s
  refine gTup_intro rfl (uncons_intro (gSlice_intro rfl (uncons_intro (gInt_intro rfl (unnil_intro (?_))))))
  have r_4_0 := r_4_0.from k0.le
  have m_4 := k_4.tame
  have k0 := k0.trans k_4
  have kh := kh.trans k_4
  refine lift_eq g (fun q_5 g => ?_) (fun q_5 g => ?_)
  · refine lift_eq g (fun q_6 g => ?_) (fun q_6 g => ?_)
    · refine lift_eq g (fun q_7 g => ?_) (fun q_7 g => ?_)
      · refine lift_eq g (fun q_8 g => ?_) (fun q_8 g => ?_)
        · refine hc_intro (gnomontop_same.hv (r_3_0.tame (m_4)).rd64 rfl (r0.tame (m_1.trans (m_2.trans (m_3.trans m_4)))) rfl) fun v h_5 ⟨k_5, s⟩ => ?_
          obtain rfl := s
          refine gBool_intro rfl (?_)
          have m_5 := k_5.tame
          have k0 := k0.trans k_5
          have kh := kh.trans k_5
          refine lift_dec g (fun q_10 g => ?_) (fun q_10 g => ?_)
          · refine hc_intro (nat_Cmp.hv (r_1_1.tame (m_2.trans (m_3.trans (m_4.trans m_5)))).rd64 rfl (r_4_0.tame (m_5)).rd64 rfl) fun v h_6 ⟨k_6, s⟩ => ?_
            obtain ⟨rfl, i_11⟩ := s
            refine gInt_intro rfl (?_)
            have m_6 := k_6.tame
            have k0 := k0.trans k_6
            have kh := kh.trans k_6
            exact g _ _ k0 rfl
          · exact g _ _ k0 rfl
        · exact g _ _ k0 rfl
      · exact g _ _ k0 rfl
    · exact g _ _ k0 rfl
  · exact g _ _ k0 rfl
def v (xs0 : List Nat) : Bool := D1.v xs0
theorem hv {h : Hp} {a0 : Option Addr} {c0 l0 : Nat} {xs0 : List Nat} (r0 : Rd h a0 c0 xs0) (e0 : l0 = xs0.length) : HC id #[.slice a0 l0 c0] h fun v_ h_ => Keep h h_ ∧ sBool h h_ v_ (v xs0) :=
  ok (D1.hv (Keep.refl _) r0 e0 fun v h' k s => ⟨k, s⟩)
end gnomontop_roots

end Go.Proofs.YtabkkcbpckcfnaaDoor.G

/- Whole numbers that are alike. -/
namespace Go.Proofs.YtabkkcbpckcfnaaDoor.G
open Go.Gv
set_option linter.unusedVariables false
set_option maxRecDepth 100000
section
variable {a b : Option Addr} {c d l m : Nat} {xs ys : List Nat} {h : Hp} {x : Int} {p q : Bool}
theorem sameInt_v (b c : Bool) (xs ys : List Nat) : gnomontop_sameInt.v b xs c ys = decide ((b, xs) = (c, ys)) := by
  unfold gnomontop_sameInt.v gnomontop_sameInt.D1.v
  by_cases h : b = c
  · subst h; simp
  · simp [h]
theorem gnomontop_sameInt.hs (r : Rd h a c xs) (e : l = xs.length) (s : Rd h b d ys) (f : m = ys.length) : HC gnomontop_sameInt.id #[.agg #[.bool p, .slice a l c], .agg #[.bool q, .slice b m d]] h fun v h' => Keep h h' ∧ sBool h h' v (decide ((p, xs) = (q, ys))) := by rw [← sameInt_v]; exact gnomontop_sameInt.hv r e s f
end
end Go.Proofs.YtabkkcbpckcfnaaDoor.G
