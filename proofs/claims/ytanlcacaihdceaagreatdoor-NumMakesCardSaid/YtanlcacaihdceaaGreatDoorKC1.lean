/- Texts of this work, joined: ZPlayT, ZPlayT2, ZPlayM, ZPlayM2, ZPlayML, ZAllC, ZAllM. -/
import Derived.Test.YtanlcacaihdceaaGreatDoorKC0
/- Functions without loops as functions of values. Written by a program of this work. -/
namespace Go.Proofs.YtanlcacaihdceaaGreatDoor.G
open Go.Gv
set_option linter.unusedVariables false
set_option maxRecDepth 100000
namespace gnomonlaw04_twin
def D1.v (b0_0 : Bool) (xs0_1 : List Nat) : (Bool × List Nat) :=
  (b0_0, (xs0_1))
theorem D1.hv {R : Rt} {h0 h : Hp} (k0 : Keep h0 h) {b0_0 : Bool} {a0_1 : Option Addr} {c0_1 l0_1 : Nat} {xs0_1 : List Nat} (r0_1 : Rd h a0_1 c0_1 xs0_1) (e0_1 : l0_1 = xs0_1.length) (g : Post sZW h0 R (D1.v b0_0 xs0_1)) : D1.t R b0_0 a0_1 l0_1 c0_1 h := by
  subst e0_1
  unfold D1.v at g
  unfold D1.t
  refine boxV fun h_1 bx_1 k_1 => ?_
  have o_1 := k0.le
  have lt_1 := bx_1.lt
  have m_1 := k_1.tame
  refine boxV fun h_2 bx_2 k_2 => ?_
  have o_2 := (k0.trans k_1).le
  have lt_2 := bx_2.lt
  have m_2 := k_2.tame
  have bx_1 := (bx_1.keep k_2)
  refine ⟨blkLt (base_add _ _) ((m_2).lt lt_1), ?_⟩
  refine ldA bx_1 (base_add _ _) rfl (gBool_intro rfl ?_)
  refine ⟨blkLt (base_add _ _) ((m_2).lt lt_1), ?_⟩
  refine ldA bx_1 (base_add _ _) rfl (gSlice_intro rfl ?_)
  refine hc_intro (gnomonref01_Twin.hv (r0_1.tame (m_1.trans m_2)) rfl) fun v h_3 ⟨k_3, s⟩ => ?_
  obtain ⟨a_3, c_3, rfl, r_3⟩ := s
  refine gSlice_intro rfl (?_)
  have m_3 := k_3.tame
  refine ⟨k_3.preLe (Nat.le_refl _), ?_⟩
  have bx_2 := (bx_2.keep k_3)
  refine stA bx_2 (base_add _ _) rfl fun h_4 bx_2 k_4 m_4 => ?_
  refine stA bx_2 (base_add _ _) rfl fun h_5 bx_2 k_5 m_5 => ?_
  refine ldA bx_2 (base_add _ _) rfl (gBool_intro rfl ?_)
  refine ldA bx_2 (base_add _ _) rfl (gSlice_intro rfl ?_)
  exact g _ _ (KeepB.keep (KeepB.keep (((k0.trans k_1).trans k_2).trans k_3) k_4 o_2) k_5 o_2) ⟨_, _, rfl, ((r_3.tame (m_4.trans m_5)).from ((k0.trans k_1).trans k_2).le)⟩
def v (b0_0 : Bool) (xs0_1 : List Nat) : (Bool × List Nat) := D1.v b0_0 xs0_1
theorem hv {h : Hp} {b0_0 : Bool} {a0_1 : Option Addr} {c0_1 l0_1 : Nat} {xs0_1 : List Nat} (r0_1 : Rd h a0_1 c0_1 xs0_1) (e0_1 : l0_1 = xs0_1.length) : HC id #[.agg #[.bool b0_0, .slice a0_1 l0_1 c0_1]] h fun v_ h_ => Keep h h_ ∧ sZW h h_ v_ (v b0_0 xs0_1) :=
  ok (D1.hv (Keep.refl _) r0_1 e0_1 fun v h' k s => ⟨k, s⟩)
end gnomonlaw04_twin

namespace gnomonlaw04_told
def D1.v (b0_0 : Bool) (xs0_1 : List Nat) (x1 : Int) (b2_0 : Bool) (xs2_1 : List Nat) (x3 : Int) : Bool :=
  bif (decide ((b0_0, xs0_1) = (b2_0, xs2_1))) then
    (x1 == x3)
  else
    false
theorem D1.hv {R : Rt} {h0 h : Hp} (k0 : Keep h0 h) {b0_0 : Bool} {a0_1 : Option Addr} {c0_1 l0_1 : Nat} {xs0_1 : List Nat} (r0_1 : Rd h a0_1 c0_1 xs0_1) (e0_1 : l0_1 = xs0_1.length) {x1 : Int} (i1 : In .i64 x1) {b2_0 : Bool} {a2_1 : Option Addr} {c2_1 l2_1 : Nat} {xs2_1 : List Nat} (r2_1 : Rd h a2_1 c2_1 xs2_1) (e2_1 : l2_1 = xs2_1.length) {x3 : Int} (i3 : In .i64 x3) (g : Post sBool h0 R (D1.v b0_0 xs0_1 x1 b2_0 xs2_1 x3)) : D1.t R b0_0 a0_1 l0_1 c0_1 x1 b2_0 a2_1 l2_1 c2_1 x3 h := by
  subst e0_1 e2_1
  unfold D1.v at g
  unfold D1.t
  refine boxV fun h_1 bx_1 k_1 => ?_
  have o_1 := k0.le
  have lt_1 := bx_1.lt
  have m_1 := k_1.tame
  refine boxV fun h_2 bx_2 k_2 => ?_
  have o_2 := (k0.trans k_1).le
  have lt_2 := bx_2.lt
  have m_2 := k_2.tame
  have bx_1 := (bx_1.keep k_2)
  refine ldA bx_1 (base_add _ _) rfl (gBool_intro rfl ?_)
  refine ldA bx_1 (base_add _ _) rfl (gSlice_intro rfl ?_)
  refine ldA bx_2 (base_add _ _) rfl (gBool_intro rfl ?_)
  refine ldA bx_2 (base_add _ _) rfl (gSlice_intro rfl ?_)
  refine hc_intro (gnomonlaw04_same.hs (r0_1.tame (m_1.trans m_2)) rfl (r2_1.tame (m_1.trans m_2)) rfl) fun v h_3 ⟨k_3, s⟩ => ?_
  obtain rfl := s
  refine gBool_intro rfl (?_)
  have m_3 := k_3.tame
  refine lift_dec g (fun q_4 g => ?_) (fun q_4 g => ?_)
  · exact g _ _ (((k0.trans k_1).trans k_2).trans k_3) rfl
  exact g _ _ (((k0.trans k_1).trans k_2).trans k_3) rfl
def v (b0_0 : Bool) (xs0_1 : List Nat) (x1 : Int) (b2_0 : Bool) (xs2_1 : List Nat) (x3 : Int) : Bool := D1.v b0_0 xs0_1 x1 b2_0 xs2_1 x3
theorem hv {h : Hp} {b0_0 : Bool} {a0_1 : Option Addr} {c0_1 l0_1 : Nat} {xs0_1 : List Nat} (r0_1 : Rd h a0_1 c0_1 xs0_1) (e0_1 : l0_1 = xs0_1.length) {x1 : Int} (i1 : In .i64 x1) {b2_0 : Bool} {a2_1 : Option Addr} {c2_1 l2_1 : Nat} {xs2_1 : List Nat} (r2_1 : Rd h a2_1 c2_1 xs2_1) (e2_1 : l2_1 = xs2_1.length) {x3 : Int} (i3 : In .i64 x3) : HC id #[.agg #[.bool b0_0, .slice a0_1 l0_1 c0_1], .int .i64 x1, .agg #[.bool b2_0, .slice a2_1 l2_1 c2_1], .int .i64 x3] h fun v_ h_ => Keep h h_ ∧ sBool h h_ v_ (v b0_0 xs0_1 x1 b2_0 xs2_1 x3) :=
  ok (D1.hv (Keep.refl _) r0_1 e0_1 i1 r2_1 e2_1 i3 fun v h' k s => ⟨k, s⟩)
end gnomonlaw04_told

end Go.Proofs.YtanlcacaihdceaaGreatDoor.G

/- Copies of numbers; what the document answers. -/
namespace Go.Proofs.YtanlcacaihdceaaGreatDoor.G
open Go.Gv
set_option linter.unusedVariables false
set_option maxRecDepth 100000
section
variable {a : Option Addr} {c l : Nat} {xs : List Nat} {h : Hp} {p : Bool}
theorem gnomonlaw04_twin.hs (r : Rd h a c xs) (e : l = xs.length) : HC gnomonlaw04_twin.id #[.agg #[.bool p, .slice a l c]] h fun v h' => Keep h h' ∧ sZW h h' v (p, xs) := gnomonlaw04_twin.hv r e
end
theorem told4_same (x : Zw) (e : Int) : gnomonlaw04_told.v x.1 x.2 e x.1 x.2 e = true := by
  unfold gnomonlaw04_told.v gnomonlaw04_told.D1.v; simp
end Go.Proofs.YtanlcacaihdceaaGreatDoor.G

/- Functions without loops as functions of values. Written by a program of this work. -/
namespace Go.Proofs.YtanlcacaihdceaaGreatDoor.G
open Go.Gv
set_option linter.unusedVariables false
set_option maxRecDepth 100000
namespace gnomonlaw04_doc
def D1.v (x0_0 : Int) (b0_1_0 : Bool) (xs0_1_1 : List Nat) (b0_2_0 : Bool) (xs0_2_1 : List Nat) (x0_3 : Int) : ((Bool × List Nat) × Int) :=
  letV (zz x0_3) fun p_3 =>
  ((p_3.1, p_3.2), (0 : Int))
theorem D1.hv {R : Rt} {h0 h : Hp} (k0 : Keep h0 h) {x0_0 : Int} (i0_0 : In .i64 x0_0) (rl0_0 : 1 ≤ x0_0) (rh0_0 : x0_0 ≤ 1) {b0_1_0 : Bool} {a0_1_1 : Option Addr} {c0_1_1 l0_1_1 : Nat} {xs0_1_1 : List Nat} (r0_1_1 : Rd h a0_1_1 c0_1_1 xs0_1_1) (e0_1_1 : l0_1_1 = xs0_1_1.length) {b0_2_0 : Bool} {a0_2_1 : Option Addr} {c0_2_1 l0_2_1 : Nat} {xs0_2_1 : List Nat} (r0_2_1 : Rd h a0_2_1 c0_2_1 xs0_2_1) (e0_2_1 : l0_2_1 = xs0_2_1.length) {x0_3 : Int} (i0_3 : In .i64 x0_3) (g : Post (s2 sZW (sI .i64)) h0 R (D1.v x0_0 b0_1_0 xs0_1_1 b0_2_0 xs0_2_1 x0_3)) : D1.t R x0_0 b0_1_0 a0_1_1 l0_1_1 c0_1_1 b0_2_0 a0_2_1 l0_2_1 c0_2_1 x0_3 h := by
  subst e0_1_1 e0_2_1
  unfold D1.v at g
  unfold D1.t
  refine boxV fun h_1 bx_1 k_1 => ?_
  have o_1 := k0.le
  have lt_1 := bx_1.lt
  have m_1 := k_1.tame
  refine boxV fun h_2 bx_2 k_2 => ?_
  have o_2 := (k0.trans k_1).le
  have lt_2 := bx_2.lt
  have m_2 := k_2.tame
  have bx_1 := (bx_1.keep k_2)
  refine ldA bx_1 (base_add _ _) rfl (gInt_intro rfl ?_)
  refine c_eq (fun _ => ?_) fun q => absurd (by omega) q
  refine ldA bx_1 (base_add _ _) rfl (gInt_intro rfl ?_)
  refine hc_intro (gnomonref04_DocOf.hs i0_3) fun v h_3 ⟨k_3, s⟩ => ?_
  obtain ⟨p_3, hp_3⟩ : ∃ p, p = zz x0_3 := ⟨_, rfl⟩
  rw [← hp_3] at s
  replace g := lift_let2 hp_3 g
  obtain ⟨a_3, c_3, rfl, r_3⟩ := s
  refine gAgg_intro rfl (uncons_intro (gBool_intro rfl (uncons_intro (gSlice_intro rfl (unnil_intro (?_))))))
  have m_3 := k_3.tame
  have bx_2 := (bx_2.keep k_3)
  refine stA bx_2 (base_add _ _) rfl fun h_4 bx_2 k_4 m_4 => ?_
  refine stA bx_2 (base_add _ _) rfl fun h_5 bx_2 k_5 m_5 => ?_
  refine ldA bx_2 (base_add _ _) rfl (gBool_intro rfl ?_)
  refine ldA bx_2 (base_add _ _) rfl (gSlice_intro rfl ?_)
  exact g _ _ (KeepB.keep (KeepB.keep (((k0.trans k_1).trans k_2).trans k_3) k_4 o_2) k_5 o_2) ⟨_, _, rfl, ⟨_, _, rfl, ((r_3.tame (m_4.trans m_5)).from ((k0.trans k_1).trans k_2).le)⟩, ⟨rfl, (show In .i64 (0 : Int) by decide)⟩⟩
def v (x0_0 : Int) (b0_1_0 : Bool) (xs0_1_1 : List Nat) (b0_2_0 : Bool) (xs0_2_1 : List Nat) (x0_3 : Int) : ((Bool × List Nat) × Int) := D1.v x0_0 b0_1_0 xs0_1_1 b0_2_0 xs0_2_1 x0_3
theorem hv {h : Hp} {x0_0 : Int} (i0_0 : In .i64 x0_0) (rl0_0 : 1 ≤ x0_0) (rh0_0 : x0_0 ≤ 1) {b0_1_0 : Bool} {a0_1_1 : Option Addr} {c0_1_1 l0_1_1 : Nat} {xs0_1_1 : List Nat} (r0_1_1 : Rd h a0_1_1 c0_1_1 xs0_1_1) (e0_1_1 : l0_1_1 = xs0_1_1.length) {b0_2_0 : Bool} {a0_2_1 : Option Addr} {c0_2_1 l0_2_1 : Nat} {xs0_2_1 : List Nat} (r0_2_1 : Rd h a0_2_1 c0_2_1 xs0_2_1) (e0_2_1 : l0_2_1 = xs0_2_1.length) {x0_3 : Int} (i0_3 : In .i64 x0_3) : HC id #[.agg #[.int .i64 x0_0, .bool b0_1_0, .slice a0_1_1 l0_1_1 c0_1_1, .bool b0_2_0, .slice a0_2_1 l0_2_1 c0_2_1, .int .i64 x0_3]] h fun v_ h_ => Keep h h_ ∧ (s2 sZW (sI .i64)) h h_ v_ (v x0_0 b0_1_0 xs0_1_1 b0_2_0 xs0_2_1 x0_3) :=
  ok (D1.hv (Keep.refl _) i0_0 rl0_0 rh0_0 r0_1_1 e0_1_1 r0_2_1 e0_2_1 i0_3 fun v h' k s => ⟨k, s⟩)
end gnomonlaw04_doc

namespace gnomonlaw04_number
def D2.v (b2_0 : Bool) (xs2_1 : List Nat) (b4_0 : Bool) (xs4_1 : List Nat) (x5 : Int) : ((Bool × List Nat) × Int) :=
  ((b4_0, xs4_1), x5)
theorem D2.hv {R : Rt} {h0 h : Hp} (k0 : Keep h0 h) {b2_0 : Bool} {a2_1 : Option Addr} {c2_1 : Nat} {xs2_1 : List Nat} (r2_1 : GotE eU64 h0 h a2_1 c2_1 xs2_1) {B2 : Nat} (bx2 : BlkV h B2 [.bool b2_0, .slice a2_1 xs2_1.length c2_1]) (o2 : h0.size ≤ B2) {b4_0 : Bool} {a4_1 : Option Addr} {c4_1 : Nat} {xs4_1 : List Nat} (r4_1 : GotE eU64 h0 h a4_1 c4_1 xs4_1) {B4 : Nat} (bx4 : BlkV h B4 [.bool b4_0, .slice a4_1 xs4_1.length c4_1]) (o4 : h0.size ≤ B4) {x5 : Int} (i5 : In .i64 x5) (d2q4 : B2 ≠ B4) (tb : Tab h) (g : Post (s2 sZW (sI .i64)) h0 R (D2.v b2_0 xs2_1 b4_0 xs4_1 x5)) : D2.t R (⟨B2, 0, none⟩ : Addr) (⟨B4, 0, none⟩ : Addr) x5 h := by
  have lt2 := bx2.lt
  have lt4 := bx4.lt
  unfold D2.v at g
  unfold D2.t
  refine ldA bx4 (base_add _ _) rfl (gBool_intro rfl ?_)
  refine ldA bx4 (base_add _ _) rfl (gSlice_intro rfl ?_)
  refine stA bx2 (base_add _ _) rfl fun h_1 bx2 k_1 m_1 => ?_
  refine stA bx2 (base_add _ _) rfl fun h_2 bx2 k_2 m_2 => ?_
  refine ldA bx2 (base_add _ _) rfl (gBool_intro rfl ?_)
  refine ldA bx2 (base_add _ _) rfl (gSlice_intro rfl ?_)
  exact g _ _ (KeepB.keep (KeepB.keep k0 k_1 o2) k_2 o2) ⟨_, _, rfl, ⟨_, _, rfl, (r4_1.tame (m_1.trans m_2))⟩, ⟨rfl, i5⟩⟩
def D1.v (x0_0 : Int) (b0_1_0 : Bool) (xs0_1_1 : List Nat) (b0_2_0 : Bool) (xs0_2_1 : List Nat) (x0_3 : Int) : ((Bool × List Nat) × Int) :=
  letV (zz x0_3) fun p_4 =>
  D2.v false ([] : List Nat) p_4.1 p_4.2 (0 : Int)
theorem D1.hv {R : Rt} {h0 h : Hp} (k0 : Keep h0 h) {x0_0 : Int} (i0_0 : In .i64 x0_0) (rl0_0 : 1 ≤ x0_0) (rh0_0 : x0_0 ≤ 1) {b0_1_0 : Bool} {a0_1_1 : Option Addr} {c0_1_1 l0_1_1 : Nat} {xs0_1_1 : List Nat} (r0_1_1 : Rd h a0_1_1 c0_1_1 xs0_1_1) (e0_1_1 : l0_1_1 = xs0_1_1.length) {b0_2_0 : Bool} {a0_2_1 : Option Addr} {c0_2_1 l0_2_1 : Nat} {xs0_2_1 : List Nat} (r0_2_1 : Rd h a0_2_1 c0_2_1 xs0_2_1) (e0_2_1 : l0_2_1 = xs0_2_1.length) {x0_3 : Int} (i0_3 : In .i64 x0_3) (tb : Tab h) (g : Post (s2 sZW (sI .i64)) h0 R (D1.v x0_0 b0_1_0 xs0_1_1 b0_2_0 xs0_2_1 x0_3)) : D1.t R x0_0 b0_1_0 a0_1_1 l0_1_1 c0_1_1 b0_2_0 a0_2_1 l0_2_1 c0_2_1 x0_3 h := by
  subst e0_1_1 e0_2_1
  unfold D1.v at g
  unfold D1.t
  refine boxV fun h_1 bx_1 k_1 => ?_
  have o_1 := k0.le
  have lt_1 := bx_1.lt
  have m_1 := k_1.tame
  refine boxV fun h_2 bx_2 k_2 => ?_
  have o_2 := (k0.trans k_1).le
  have lt_2 := bx_2.lt
  have m_2 := k_2.tame
  refine boxV fun h_3 bx_3 k_3 => ?_
  have o_3 := ((k0.trans k_1).trans k_2).le
  have lt_3 := bx_3.lt
  have m_3 := k_3.tame
  have bx_1 := ((bx_1.keep k_2).keep k_3)
  refine ldA bx_1 (base_add _ _) rfl (gInt_intro rfl ?_)
  refine c_eq (fun _ => ?_) fun q => absurd (by omega) q
  refine ldA bx_1 (base_add _ _) rfl (gInt_intro rfl ?_)
  refine hc_intro (num_Of.hs i0_3) fun v h_4 ⟨k_4, s⟩ => ?_
  obtain ⟨p_4, hp_4⟩ : ∃ p, p = zz x0_3 := ⟨_, rfl⟩
  rw [← hp_4] at s
  replace g := lift_let2 hp_4 g
  obtain ⟨a_4, c_4, rfl, r_4⟩ := s
  refine gAgg_intro rfl (uncons_intro (gBool_intro rfl (uncons_intro (gSlice_intro rfl (unnil_intro (?_))))))
  have m_4 := k_4.tame
  have bx_3 := (bx_3.keep k_4)
  refine stA bx_3 (base_add _ _) rfl fun h_5 bx_3 k_5 m_5 => ?_
  refine stA bx_3 (base_add _ _) rfl fun h_6 bx_3 k_6 m_6 => ?_
  have bx_2 := ((((bx_2.keep k_3).keep k_4).keepB (Nat.ne_of_lt lt_2) k_5).keepB (Nat.ne_of_lt lt_2) k_6)
  exact D2.hv (KeepB.keep (KeepB.keep ((((k0.trans k_1).trans k_2).trans k_3).trans k_4) k_5 o_3) k_6 o_3) (GotE.nil _ _) bx_2 o_2 ((r_4.tame (m_5.trans m_6)).from (((k0.trans k_1).trans k_2).trans k_3).le) bx_3 o_3 (show In .i64 (0 : Int) by decide) (Nat.ne_of_lt lt_2) (tb.tame (m_1.trans (m_2.trans (m_3.trans (m_4.trans (m_5.trans m_6)))))) g
def v (x0_0 : Int) (b0_1_0 : Bool) (xs0_1_1 : List Nat) (b0_2_0 : Bool) (xs0_2_1 : List Nat) (x0_3 : Int) : ((Bool × List Nat) × Int) := D1.v x0_0 b0_1_0 xs0_1_1 b0_2_0 xs0_2_1 x0_3
theorem hv {h : Hp} {x0_0 : Int} (i0_0 : In .i64 x0_0) (rl0_0 : 1 ≤ x0_0) (rh0_0 : x0_0 ≤ 1) {b0_1_0 : Bool} {a0_1_1 : Option Addr} {c0_1_1 l0_1_1 : Nat} {xs0_1_1 : List Nat} (r0_1_1 : Rd h a0_1_1 c0_1_1 xs0_1_1) (e0_1_1 : l0_1_1 = xs0_1_1.length) {b0_2_0 : Bool} {a0_2_1 : Option Addr} {c0_2_1 l0_2_1 : Nat} {xs0_2_1 : List Nat} (r0_2_1 : Rd h a0_2_1 c0_2_1 xs0_2_1) (e0_2_1 : l0_2_1 = xs0_2_1.length) {x0_3 : Int} (i0_3 : In .i64 x0_3) (tb : Tab h) : HC id #[.agg #[.int .i64 x0_0, .bool b0_1_0, .slice a0_1_1 l0_1_1 c0_1_1, .bool b0_2_0, .slice a0_2_1 l0_2_1 c0_2_1, .int .i64 x0_3]] h fun v_ h_ => Keep h h_ ∧ (s2 sZW (sI .i64)) h h_ v_ (v x0_0 b0_1_0 xs0_1_1 b0_2_0 xs0_2_1 x0_3) :=
  ok (D1.hv (Keep.refl _) i0_0 rl0_0 rh0_0 r0_1_1 e0_1_1 r0_2_1 e0_2_1 i0_3 tb fun v h' k s => ⟨k, s⟩)
end gnomonlaw04_number

end Go.Proofs.YtanlcacaihdceaaGreatDoor.G

/- The program's answer and the document's are one. -/
namespace Go.Proofs.YtanlcacaihdceaaGreatDoor.G
open Go.Gv
set_option linter.unusedVariables false
set_option maxRecDepth 100000
theorem doc_number {k : Int} (h1 : 1 ≤ k) (h2 : k ≤ 1) (b : Bool) (xs : List Nat) (c : Bool) (ys : List Nat) (n : Int) : gnomonlaw04_doc.v k b xs c ys n = gnomonlaw04_number.v k b xs c ys n := by
  unfold gnomonlaw04_doc.v gnomonlaw04_doc.D1.v gnomonlaw04_number.v gnomonlaw04_number.D1.v gnomonlaw04_number.D2.v
  rfl
end Go.Proofs.YtanlcacaihdceaaGreatDoor.G

/- Functions without loops as functions of values. Written by a program of this work. -/
namespace Go.Proofs.YtanlcacaihdceaaGreatDoor.G
open Go.Gv
set_option linter.unusedVariables false
set_option maxRecDepth 100000
namespace gnomonlaw04_plays
def D3.v (b11_0 : Bool) (xs11_1 : List Nat) (x12 : Int) (b13_0 : Bool) (xs13_1 : List Nat) (x14 : Int) : Bool :=
  letV (gnomonlaw04_told.v b13_0 xs13_1 x14 b11_0 xs11_1 x12) fun p_21 =>
  p_21
theorem D3.hv {R : Rt} {h0 h : Hp} (k0 : Keep h0 h) {b11_0 : Bool} {a11_1 : Option Addr} {c11_1 : Nat} {xs11_1 : List Nat} (r11_1 : GotE eU64 h0 h a11_1 c11_1 xs11_1) {B11 : Nat} (bx11 : BlkV h B11 [.bool b11_0, .slice a11_1 xs11_1.length c11_1]) (o11 : h0.size ≤ B11) {x12 : Int} (i12 : In .i64 x12) {b13_0 : Bool} {a13_1 : Option Addr} {c13_1 : Nat} {xs13_1 : List Nat} (r13_1 : GotE eU64 h0 h a13_1 c13_1 xs13_1) {B13 : Nat} (bx13 : BlkV h B13 [.bool b13_0, .slice a13_1 xs13_1.length c13_1]) (o13 : h0.size ≤ B13) {x14 : Int} (i14 : In .i64 x14) (d11q13 : B11 ≠ B13) (tb : Tab h) (g : Post sBool h0 R (D3.v b11_0 xs11_1 x12 b13_0 xs13_1 x14)) : D3.t R (⟨B11, 0, none⟩ : Addr) x12 (⟨B13, 0, none⟩ : Addr) x14 h := by
  have lt11 := bx11.lt
  have lt13 := bx13.lt
  unfold D3.v at g
  unfold D3.t
  refine ldA bx13 (base_add _ _) rfl (gBool_intro rfl ?_)
  refine ldA bx13 (base_add _ _) rfl (gSlice_intro rfl ?_)
  refine ldA bx11 (base_add _ _) rfl (gBool_intro rfl ?_)
  refine ldA bx11 (base_add _ _) rfl (gSlice_intro rfl ?_)
  refine hc_intro (gnomonlaw04_told.hv r13_1.rd64 rfl i14 r11_1.rd64 rfl i12) fun v h_1 ⟨k_1, s⟩ => ?_
  obtain ⟨p_21, hp_21⟩ : ∃ p, p = gnomonlaw04_told.v b13_0 xs13_1 x14 b11_0 xs11_1 x12 := ⟨_, rfl⟩
  rw [← hp_21] at s
  replace g := lift_let2 hp_21 g
  obtain rfl := s
  refine gBool_intro rfl (?_)
  have m_1 := k_1.tame
  exact g _ _ (k0.trans k_1) rfl
def D2.v (x1_0 : Int) (b1_1 : Bool) (xs1_2 : List Nat) (b1_3 : Bool) (xs1_4 : List Nat) (x1_5 : Int) : Bool :=
  letV (gnomonlaw04_doc.v x1_0 b1_1 xs1_2 b1_3 xs1_4 x1_5) fun p_15 =>
  letV (gnomonlaw04_number.v x1_0 (((b1_1, xs1_2)).1) (((b1_1, xs1_2)).2) (((b1_3, xs1_4)).1) (((b1_3, xs1_4)).2) x1_5) fun p_19 =>
  D3.v p_15.1.1 p_15.1.2 p_15.2 p_19.1.1 p_19.1.2 p_19.2
theorem D2.hv {R : Rt} {h0 h : Hp} (k0 : Keep h0 h) {x1_0 : Int} (i1_0 : In .i64 x1_0) (rl1_0 : 1 ≤ x1_0) (rh1_0 : x1_0 ≤ 1) {b1_1 : Bool} {a1_2 : Option Addr} {c1_2 : Nat} {xs1_2 : List Nat} (r1_2 : Rd h a1_2 c1_2 xs1_2) {b1_3 : Bool} {a1_4 : Option Addr} {c1_4 : Nat} {xs1_4 : List Nat} (r1_4 : Rd h a1_4 c1_4 xs1_4) {x1_5 : Int} (i1_5 : In .i64 x1_5) {B1 : Nat} (bx1 : BlkV h B1 [.int .i64 x1_0, .bool b1_1, .slice a1_2 xs1_2.length c1_2, .bool b1_3, .slice a1_4 xs1_4.length c1_4, .int .i64 x1_5]) (o1 : h0.size ≤ B1) (v1 : 1 ≤ x1_0) (v2 : x1_0 ≤ 1) (tb : Tab h) (g : Post sBool h0 R (D2.v x1_0 b1_1 xs1_2 b1_3 xs1_4 x1_5)) : D2.t R (⟨B1, 0, none⟩ : Addr) h := by
  have lt1 := bx1.lt
  unfold D2.v at g
  unfold D2.t
  refine ldA bx1 (base_add _ _) rfl (gInt_intro rfl ?_)
  refine ldA bx1 (base_add _ _) rfl (gBool_intro rfl ?_)
  refine ldA bx1 (base_add _ _) rfl (gSlice_intro rfl ?_)
  refine ldA bx1 (base_add _ _) rfl (gBool_intro rfl ?_)
  refine ldA bx1 (base_add _ _) rfl (gSlice_intro rfl ?_)
  refine ldA bx1 (base_add _ _) rfl (gInt_intro rfl ?_)
  refine hc_intro (gnomonlaw04_doc.hv i1_0 (by first | assumption | decide | omega) (by first | assumption | decide | omega) r1_2 rfl r1_4 rfl i1_5) fun v h_1 ⟨k_1, s⟩ => ?_
  obtain ⟨p_15, hp_15⟩ : ∃ p, p = gnomonlaw04_doc.v x1_0 b1_1 xs1_2 b1_3 xs1_4 x1_5 := ⟨_, rfl⟩
  rw [← hp_15] at s
  replace g := lift_let2 hp_15 g
  obtain ⟨_, _, rfl, ⟨a_15_0, c_15_0, rfl, r_15_0⟩, ⟨rfl, i_15_1⟩⟩ := s
  refine gTup_intro rfl (uncons_intro (gAgg_intro rfl (uncons_intro (gBool_intro rfl (uncons_intro (gSlice_intro rfl (unnil_intro (uncons_intro (gInt_intro rfl (unnil_intro (?_)))))))))))
  have m_1 := k_1.tame
  refine boxV fun h_2 bx_16 k_2 => ?_
  have o_16 := (k0.trans k_1).le
  have lt_16 := bx_16.lt
  have m_2 := k_2.tame
  refine stA bx_16 (base_add _ _) rfl fun h_3 bx_16 k_3 m_3 => ?_
  refine stA bx_16 (base_add _ _) rfl fun h_4 bx_16 k_4 m_4 => ?_
  have bx1 := ((((bx1.keep k_1).keep k_2).keepB (Nat.ne_of_lt ((m_1).lt lt1)) k_3).keepB (Nat.ne_of_lt ((m_1).lt lt1)) k_4)
  refine ⟨blkLt (base_add _ _) ((m_1.trans (m_2.trans (m_3.trans m_4))).lt lt1), ?_⟩
  refine ldA bx1 (base_add _ _) rfl (gInt_intro rfl ?_)
  refine ⟨blkLt (base_add _ _) ((m_1.trans (m_2.trans (m_3.trans m_4))).lt lt1), ?_⟩
  refine ldA bx1 (add2 _ _ _) rfl (gBool_intro rfl ?_)
  refine ldA bx1 (add2 _ _ _) rfl (gSlice_intro rfl ?_)
  refine ⟨blkLt (base_add _ _) ((m_1.trans (m_2.trans (m_3.trans m_4))).lt lt1), ?_⟩
  refine ldA bx1 (add2 _ _ _) rfl (gBool_intro rfl ?_)
  refine ldA bx1 (add2 _ _ _) rfl (gSlice_intro rfl ?_)
  refine ⟨blkLt (base_add _ _) ((m_1.trans (m_2.trans (m_3.trans m_4))).lt lt1), ?_⟩
  refine ldA bx1 (base_add _ _) rfl (gInt_intro rfl ?_)
  refine ⟨?_, ?_⟩
  · refine hc_intro (gnomonlaw04_twin.hs (r1_2.tame (m_1.trans (m_2.trans (m_3.trans m_4)))) rfl) fun v h_5 ⟨k_5, s⟩ => ?_
    obtain ⟨a_17, c_17, rfl, r_17⟩ := s
    refine gAgg_intro rfl (uncons_intro (gBool_intro rfl (uncons_intro (gSlice_intro rfl (unnil_intro (?_))))))
    have m_5 := k_5.tame
    refine ⟨k_5.preLe (Nat.le_refl _), ?_⟩
    refine ⟨?_, ?_⟩
    · refine hc_intro (gnomonlaw04_twin.hs (r1_4.tame (m_1.trans (m_2.trans (m_3.trans (m_4.trans m_5))))) rfl) fun v h_6 ⟨k_6, s⟩ => ?_
      obtain ⟨a_18, c_18, rfl, r_18⟩ := s
      refine gAgg_intro rfl (uncons_intro (gBool_intro rfl (uncons_intro (gSlice_intro rfl (unnil_intro (?_))))))
      have m_6 := k_6.tame
      refine ⟨k_6.preLe (m_5).le, ?_⟩
      refine ⟨?_, ?_⟩
      · refine hc_intro (gnomonlaw04_number.hv i1_0 (by first | assumption | decide | omega) (by first | assumption | decide | omega) (r_17.tame (m_6)).rd64 rfl r_18.rd64 rfl i1_5 (tb.tame (m_1.trans (m_2.trans (m_3.trans (m_4.trans (m_5.trans m_6))))))) fun v h_7 ⟨k_7, s⟩ => ?_
        obtain ⟨p_19, hp_19⟩ : ∃ p, p = gnomonlaw04_number.v x1_0 (((b1_1, xs1_2)).1) (((b1_1, xs1_2)).2) (((b1_3, xs1_4)).1) (((b1_3, xs1_4)).2) x1_5 := ⟨_, rfl⟩
        rw [← hp_19] at s
        replace g := lift_let2 hp_19 g
        obtain ⟨_, _, rfl, ⟨a_19_0, c_19_0, rfl, r_19_0⟩, ⟨rfl, i_19_1⟩⟩ := s
        refine gTup_intro rfl (uncons_intro (gAgg_intro rfl (uncons_intro (gBool_intro rfl (uncons_intro (gSlice_intro rfl (unnil_intro (uncons_intro (gInt_intro rfl (unnil_intro (?_)))))))))))
        have m_7 := k_7.tame
        refine ⟨k_7.preLe (m_5.trans m_6).le, ?_⟩
        refine boxV fun h_8 bx_20 k_8 => ?_
        have o_20 := ((((KeepB.keep (KeepB.keep ((k0.trans k_1).trans k_2) k_3 o_16) k_4 o_16).trans k_5).trans k_6).trans k_7).le
        have lt_20 := bx_20.lt
        have m_8 := k_8.tame
        refine ⟨k_8.preLe (m_5.trans (m_6.trans m_7)).le, ?_⟩
        refine stA bx_20 (base_add _ _) rfl fun h_9 bx_20 k_9 m_9 => ?_
        refine stA bx_20 (base_add _ _) rfl fun h_10 bx_20 k_10 m_10 => ?_
        have bx_16 := ((((((bx_16.keep k_5).keep k_6).keep k_7).keep k_8).keepB (Nat.ne_of_lt ((m_3.trans (m_4.trans (m_5.trans (m_6.trans m_7)))).lt lt_16)) k_9).keepB (Nat.ne_of_lt ((m_3.trans (m_4.trans (m_5.trans (m_6.trans m_7)))).lt lt_16)) k_10)
        exact D3.hv (KeepB.keep (KeepB.keep (((((KeepB.keep (KeepB.keep ((k0.trans k_1).trans k_2) k_3 o_16) k_4 o_16).trans k_5).trans k_6).trans k_7).trans k_8) k_9 o_20) k_10 o_20) ((r_15_0.tame (m_2.trans (m_3.trans (m_4.trans (m_5.trans (m_6.trans (m_7.trans (m_8.trans (m_9.trans m_10))))))))).from k0.le) bx_16 o_16 i_15_1 ((r_19_0.tame (m_8.trans (m_9.trans m_10))).from (((KeepB.keep (KeepB.keep ((k0.trans k_1).trans k_2) k_3 o_16) k_4 o_16).trans k_5).trans k_6).le) bx_20 o_20 i_19_1 (Nat.ne_of_lt ((m_3.trans (m_4.trans (m_5.trans (m_6.trans m_7)))).lt lt_16)) (tb.tame (m_1.trans (m_2.trans (m_3.trans (m_4.trans (m_5.trans (m_6.trans (m_7.trans (m_8.trans (m_9.trans m_10)))))))))) g
      refine boxV fun h_7 bx_22 k_7 => ?_
      have o_22 := (((KeepB.keep (KeepB.keep ((k0.trans k_1).trans k_2) k_3 o_16) k_4 o_16).trans k_5).trans k_6).le
      have lt_22 := bx_22.lt
      have m_7 := k_7.tame
      refine ⟨k_7.preLe (m_5.trans m_6).le, ?_⟩
      refine hc_intro (gnomonlaw04_number.hv i1_0 (by first | assumption | decide | omega) (by first | assumption | decide | omega) (r_17.tame (m_6.trans m_7)).rd64 rfl (r_18.tame (m_7)).rd64 rfl i1_5 (tb.tame (m_1.trans (m_2.trans (m_3.trans (m_4.trans (m_5.trans (m_6.trans m_7)))))))) fun v h_8 ⟨k_8, s⟩ => ?_
      obtain ⟨p_23, hp_23⟩ : ∃ p, p = gnomonlaw04_number.v x1_0 (((b1_1, xs1_2)).1) (((b1_1, xs1_2)).2) (((b1_3, xs1_4)).1) (((b1_3, xs1_4)).2) x1_5 := ⟨_, rfl⟩
      rw [← hp_23] at s
      replace g := lift_let2 hp_23 g
      obtain ⟨_, _, rfl, ⟨a_23_0, c_23_0, rfl, r_23_0⟩, ⟨rfl, i_23_1⟩⟩ := s
      refine gTup_intro rfl (uncons_intro (gAgg_intro rfl (uncons_intro (gBool_intro rfl (uncons_intro (gSlice_intro rfl (unnil_intro (uncons_intro (gInt_intro rfl (unnil_intro (?_)))))))))))
      have m_8 := k_8.tame
      refine ⟨k_8.preLe (m_5.trans (m_6.trans m_7)).le, ?_⟩
      have bx_22 := (bx_22.keep k_8)
      refine stA bx_22 (base_add _ _) rfl fun h_9 bx_22 k_9 m_9 => ?_
      refine stA bx_22 (base_add _ _) rfl fun h_10 bx_22 k_10 m_10 => ?_
      have bx_16 := ((((((bx_16.keep k_5).keep k_6).keep k_7).keep k_8).keepB (Nat.ne_of_lt ((m_3.trans (m_4.trans (m_5.trans m_6))).lt lt_16)) k_9).keepB (Nat.ne_of_lt ((m_3.trans (m_4.trans (m_5.trans m_6))).lt lt_16)) k_10)
      exact D3.hv (KeepB.keep (KeepB.keep (((((KeepB.keep (KeepB.keep ((k0.trans k_1).trans k_2) k_3 o_16) k_4 o_16).trans k_5).trans k_6).trans k_7).trans k_8) k_9 o_22) k_10 o_22) ((r_15_0.tame (m_2.trans (m_3.trans (m_4.trans (m_5.trans (m_6.trans (m_7.trans (m_8.trans (m_9.trans m_10))))))))).from k0.le) bx_16 o_16 i_15_1 ((r_23_0.tame (m_9.trans m_10)).from ((((KeepB.keep (KeepB.keep ((k0.trans k_1).trans k_2) k_3 o_16) k_4 o_16).trans k_5).trans k_6).trans k_7).le) bx_22 o_22 i_23_1 (Nat.ne_of_lt ((m_3.trans (m_4.trans (m_5.trans m_6))).lt lt_16)) (tb.tame (m_1.trans (m_2.trans (m_3.trans (m_4.trans (m_5.trans (m_6.trans (m_7.trans (m_8.trans (m_9.trans m_10)))))))))) g
    refine boxV fun h_6 bx_24 k_6 => ?_
    have o_24 := ((KeepB.keep (KeepB.keep ((k0.trans k_1).trans k_2) k_3 o_16) k_4 o_16).trans k_5).le
    have lt_24 := bx_24.lt
    have m_6 := k_6.tame
    refine ⟨k_6.preLe (m_5).le, ?_⟩
    refine hc_intro (gnomonlaw04_twin.hs (r1_4.tame (m_1.trans (m_2.trans (m_3.trans (m_4.trans (m_5.trans m_6)))))) rfl) fun v h_7 ⟨k_7, s⟩ => ?_
    obtain ⟨a_25, c_25, rfl, r_25⟩ := s
    refine gAgg_intro rfl (uncons_intro (gBool_intro rfl (uncons_intro (gSlice_intro rfl (unnil_intro (?_))))))
    have m_7 := k_7.tame
    refine ⟨k_7.preLe (m_5.trans m_6).le, ?_⟩
    refine hc_intro (gnomonlaw04_number.hv i1_0 (by first | assumption | decide | omega) (by first | assumption | decide | omega) (r_17.tame (m_6.trans m_7)).rd64 rfl r_25.rd64 rfl i1_5 (tb.tame (m_1.trans (m_2.trans (m_3.trans (m_4.trans (m_5.trans (m_6.trans m_7)))))))) fun v h_8 ⟨k_8, s⟩ => ?_
    obtain ⟨p_26, hp_26⟩ : ∃ p, p = gnomonlaw04_number.v x1_0 (((b1_1, xs1_2)).1) (((b1_1, xs1_2)).2) (((b1_3, xs1_4)).1) (((b1_3, xs1_4)).2) x1_5 := ⟨_, rfl⟩
    rw [← hp_26] at s
    replace g := lift_let2 hp_26 g
    obtain ⟨_, _, rfl, ⟨a_26_0, c_26_0, rfl, r_26_0⟩, ⟨rfl, i_26_1⟩⟩ := s
    refine gTup_intro rfl (uncons_intro (gAgg_intro rfl (uncons_intro (gBool_intro rfl (uncons_intro (gSlice_intro rfl (unnil_intro (uncons_intro (gInt_intro rfl (unnil_intro (?_)))))))))))
    have m_8 := k_8.tame
    refine ⟨k_8.preLe (m_5.trans (m_6.trans m_7)).le, ?_⟩
    have bx_24 := ((bx_24.keep k_7).keep k_8)
    refine stA bx_24 (base_add _ _) rfl fun h_9 bx_24 k_9 m_9 => ?_
    refine stA bx_24 (base_add _ _) rfl fun h_10 bx_24 k_10 m_10 => ?_
    have bx_16 := ((((((bx_16.keep k_5).keep k_6).keep k_7).keep k_8).keepB (Nat.ne_of_lt ((m_3.trans (m_4.trans m_5)).lt lt_16)) k_9).keepB (Nat.ne_of_lt ((m_3.trans (m_4.trans m_5)).lt lt_16)) k_10)
    exact D3.hv (KeepB.keep (KeepB.keep (((((KeepB.keep (KeepB.keep ((k0.trans k_1).trans k_2) k_3 o_16) k_4 o_16).trans k_5).trans k_6).trans k_7).trans k_8) k_9 o_24) k_10 o_24) ((r_15_0.tame (m_2.trans (m_3.trans (m_4.trans (m_5.trans (m_6.trans (m_7.trans (m_8.trans (m_9.trans m_10))))))))).from k0.le) bx_16 o_16 i_15_1 ((r_26_0.tame (m_9.trans m_10)).from ((((KeepB.keep (KeepB.keep ((k0.trans k_1).trans k_2) k_3 o_16) k_4 o_16).trans k_5).trans k_6).trans k_7).le) bx_24 o_24 i_26_1 (Nat.ne_of_lt ((m_3.trans (m_4.trans m_5)).lt lt_16)) (tb.tame (m_1.trans (m_2.trans (m_3.trans (m_4.trans (m_5.trans (m_6.trans (m_7.trans (m_8.trans (m_9.trans m_10)))))))))) g
  refine boxV fun h_5 bx_27 k_5 => ?_
  have o_27 := (KeepB.keep (KeepB.keep ((k0.trans k_1).trans k_2) k_3 o_16) k_4 o_16).le
  have lt_27 := bx_27.lt
  have m_5 := k_5.tame
  refine ⟨k_5.preLe (Nat.le_refl _), ?_⟩
  refine hc_intro (gnomonlaw04_twin.hs (r1_2.tame (m_1.trans (m_2.trans (m_3.trans (m_4.trans m_5))))) rfl) fun v h_6 ⟨k_6, s⟩ => ?_
  obtain ⟨a_28, c_28, rfl, r_28⟩ := s
  refine gAgg_intro rfl (uncons_intro (gBool_intro rfl (uncons_intro (gSlice_intro rfl (unnil_intro (?_))))))
  have m_6 := k_6.tame
  refine ⟨k_6.preLe (m_5).le, ?_⟩
  refine hc_intro (gnomonlaw04_twin.hs (r1_4.tame (m_1.trans (m_2.trans (m_3.trans (m_4.trans (m_5.trans m_6)))))) rfl) fun v h_7 ⟨k_7, s⟩ => ?_
  obtain ⟨a_29, c_29, rfl, r_29⟩ := s
  refine gAgg_intro rfl (uncons_intro (gBool_intro rfl (uncons_intro (gSlice_intro rfl (unnil_intro (?_))))))
  have m_7 := k_7.tame
  refine ⟨k_7.preLe (m_5.trans m_6).le, ?_⟩
  refine hc_intro (gnomonlaw04_number.hv i1_0 (by first | assumption | decide | omega) (by first | assumption | decide | omega) (r_28.tame (m_7)).rd64 rfl r_29.rd64 rfl i1_5 (tb.tame (m_1.trans (m_2.trans (m_3.trans (m_4.trans (m_5.trans (m_6.trans m_7)))))))) fun v h_8 ⟨k_8, s⟩ => ?_
  obtain ⟨p_30, hp_30⟩ : ∃ p, p = gnomonlaw04_number.v x1_0 (((b1_1, xs1_2)).1) (((b1_1, xs1_2)).2) (((b1_3, xs1_4)).1) (((b1_3, xs1_4)).2) x1_5 := ⟨_, rfl⟩
  rw [← hp_30] at s
  replace g := lift_let2 hp_30 g
  obtain ⟨_, _, rfl, ⟨a_30_0, c_30_0, rfl, r_30_0⟩, ⟨rfl, i_30_1⟩⟩ := s
  refine gTup_intro rfl (uncons_intro (gAgg_intro rfl (uncons_intro (gBool_intro rfl (uncons_intro (gSlice_intro rfl (unnil_intro (uncons_intro (gInt_intro rfl (unnil_intro (?_)))))))))))
  have m_8 := k_8.tame
  refine ⟨k_8.preLe (m_5.trans (m_6.trans m_7)).le, ?_⟩
  have bx_27 := (((bx_27.keep k_6).keep k_7).keep k_8)
  refine stA bx_27 (base_add _ _) rfl fun h_9 bx_27 k_9 m_9 => ?_
  refine stA bx_27 (base_add _ _) rfl fun h_10 bx_27 k_10 m_10 => ?_
  have bx_16 := ((((((bx_16.keep k_5).keep k_6).keep k_7).keep k_8).keepB (Nat.ne_of_lt ((m_3.trans m_4).lt lt_16)) k_9).keepB (Nat.ne_of_lt ((m_3.trans m_4).lt lt_16)) k_10)
  exact D3.hv (KeepB.keep (KeepB.keep (((((KeepB.keep (KeepB.keep ((k0.trans k_1).trans k_2) k_3 o_16) k_4 o_16).trans k_5).trans k_6).trans k_7).trans k_8) k_9 o_27) k_10 o_27) ((r_15_0.tame (m_2.trans (m_3.trans (m_4.trans (m_5.trans (m_6.trans (m_7.trans (m_8.trans (m_9.trans m_10))))))))).from k0.le) bx_16 o_16 i_15_1 ((r_30_0.tame (m_9.trans m_10)).from ((((KeepB.keep (KeepB.keep ((k0.trans k_1).trans k_2) k_3 o_16) k_4 o_16).trans k_5).trans k_6).trans k_7).le) bx_27 o_27 i_30_1 (Nat.ne_of_lt ((m_3.trans m_4).lt lt_16)) (tb.tame (m_1.trans (m_2.trans (m_3.trans (m_4.trans (m_5.trans (m_6.trans (m_7.trans (m_8.trans (m_9.trans m_10)))))))))) g
def D1.v (x0_0 : Int) (b0_1_0 : Bool) (xs0_1_1 : List Nat) (b0_2_0 : Bool) (xs0_2_1 : List Nat) (x0_3 : Int) : Bool :=
  bif (x0_0 == (2 : Int)) then
    letV (decide (FrmZ (b0_1_0, xs0_1_1))) fun p_5 =>
    ((decide (FrmZ ((((b0_1_0, xs0_1_1)).1), (((b0_1_0, xs0_1_1)).2)))) == p_5)
  else
    bif (x0_0 == (3 : Int)) then
      (((cmpZ (zi ((((b0_1_0, xs0_1_1)).1), (((b0_1_0, xs0_1_1)).2))) 0)) == ((cmpZ (zi (b0_1_0, xs0_1_1)) 0)))
    else
      bif (x0_0 == (4 : Int)) then
        letV (smaS ((((b0_1_0, xs0_1_1)).1), (((b0_1_0, xs0_1_1)).2))) fun p_12 =>
        letV (smaS (b0_1_0, xs0_1_1)) fun p_13 =>
        bif (p_12.1 == p_13.1) then
          (p_12.2 == p_13.2)
        else
          false
      else
        D2.v x0_0 b0_1_0 xs0_1_1 b0_2_0 xs0_2_1 x0_3
theorem D1.hv {R : Rt} {h0 h : Hp} (k0 : Keep h0 h) {x0_0 : Int} (i0_0 : In .i64 x0_0) (rl0_0 : 1 ≤ x0_0) (rh0_0 : x0_0 ≤ 4) {b0_1_0 : Bool} {a0_1_1 : Option Addr} {c0_1_1 l0_1_1 : Nat} {xs0_1_1 : List Nat} (r0_1_1 : Rd h a0_1_1 c0_1_1 xs0_1_1) (e0_1_1 : l0_1_1 = xs0_1_1.length) {b0_2_0 : Bool} {a0_2_1 : Option Addr} {c0_2_1 l0_2_1 : Nat} {xs0_2_1 : List Nat} (r0_2_1 : Rd h a0_2_1 c0_2_1 xs0_2_1) (e0_2_1 : l0_2_1 = xs0_2_1.length) {x0_3 : Int} (i0_3 : In .i64 x0_3) (tb : Tab h) (g : Post sBool h0 R (D1.v x0_0 b0_1_0 xs0_1_1 b0_2_0 xs0_2_1 x0_3)) : D1.t R x0_0 b0_1_0 a0_1_1 l0_1_1 c0_1_1 b0_2_0 a0_2_1 l0_2_1 c0_2_1 x0_3 h := by
  subst e0_1_1 e0_2_1
  unfold D1.v at g
  unfold D1.t
  refine boxV fun h_1 bx_1 k_1 => ?_
  have o_1 := k0.le
  have lt_1 := bx_1.lt
  have m_1 := k_1.tame
  refine ldA bx_1 (base_add _ _) rfl (gInt_intro rfl ?_)
  refine lift_eq g (fun q_2 g => ?_) (fun q_2 g => ?_)
  · have gq := g
    subst q_2
    have g := gq
    clear gq
    refine ⟨blkLt (base_add _ _) (lt_1), ?_⟩
    refine ldA bx_1 (add2 _ _ _) rfl (gBool_intro rfl ?_)
    refine ldA bx_1 (add2 _ _ _) rfl (gSlice_intro rfl ?_)
    refine hc_intro (gnomonlaw04_twin.hs (r0_1_1.tame (m_1)) rfl) fun v h_2 ⟨k_2, s⟩ => ?_
    obtain ⟨a_3, c_3, rfl, r_3⟩ := s
    refine gAgg_intro rfl (uncons_intro (gBool_intro rfl (uncons_intro (gSlice_intro rfl (unnil_intro (?_))))))
    have m_2 := k_2.tame
    refine ⟨k_2.preLe (Nat.le_refl _), ?_⟩
    refine hc_intro (num_Form.hs r_3.rd64 rfl) fun v h_3 ⟨k_3, s⟩ => ?_
    obtain rfl := s
    refine gBool_intro rfl (?_)
    have m_3 := k_3.tame
    refine ⟨k_3.preLe (m_2).le, ?_⟩
    have bx_1 := ((bx_1.keep k_2).keep k_3)
    refine ⟨blkLt (base_add _ _) (lt_1), ?_⟩
    refine ldA bx_1 (add2 _ _ _) rfl (gBool_intro rfl ?_)
    refine ldA bx_1 (add2 _ _ _) rfl (gSlice_intro rfl ?_)
    refine hc_intro (gnomonref04_DocForm.hs (r0_1_1.tame (m_1.trans (m_2.trans m_3))) rfl) fun v h_4 ⟨k_4, s⟩ => ?_
    obtain ⟨p_5, hp_5⟩ : ∃ p, p = decide (FrmZ (b0_1_0, xs0_1_1)) := ⟨_, rfl⟩
    rw [← hp_5] at s
    replace g := lift_let2 hp_5 g
    have u_5 := frmZ_len b0_1_0 xs0_1_1
    rw [← hp_5] at u_5
    obtain rfl := s
    refine gBool_intro rfl (?_)
    have m_4 := k_4.tame
    refine ⟨k_4.preLe (m_2.trans m_3).le, ?_⟩
    exact g _ _ ((((k0.trans k_1).trans k_2).trans k_3).trans k_4) rfl
  refine lift_eq g (fun q_6 g => ?_) (fun q_6 g => ?_)
  · have gq := g
    subst q_6
    have g := gq
    clear gq
    refine ⟨blkLt (base_add _ _) (lt_1), ?_⟩
    refine ldA bx_1 (add2 _ _ _) rfl (gBool_intro rfl ?_)
    refine ldA bx_1 (add2 _ _ _) rfl (gSlice_intro rfl ?_)
    refine hc_intro (gnomonlaw04_twin.hs (r0_1_1.tame (m_1)) rfl) fun v h_2 ⟨k_2, s⟩ => ?_
    obtain ⟨a_7, c_7, rfl, r_7⟩ := s
    refine gAgg_intro rfl (uncons_intro (gBool_intro rfl (uncons_intro (gSlice_intro rfl (unnil_intro (?_))))))
    have m_2 := k_2.tame
    refine ⟨k_2.preLe (Nat.le_refl _), ?_⟩
    refine hc_intro (num_Sign.hs r_7.rd64 rfl) fun v h_3 ⟨k_3, s⟩ => ?_
    obtain ⟨rfl, i_8⟩ := s
    refine gInt_intro rfl (?_)
    have m_3 := k_3.tame
    refine ⟨k_3.preLe (m_2).le, ?_⟩
    have bx_1 := ((bx_1.keep k_2).keep k_3)
    refine ⟨blkLt (base_add _ _) (lt_1), ?_⟩
    refine ldA bx_1 (add2 _ _ _) rfl (gBool_intro rfl ?_)
    refine ldA bx_1 (add2 _ _ _) rfl (gSlice_intro rfl ?_)
    refine hc_intro (gnomonref04_DocSign.hs (r0_1_1.tame (m_1.trans (m_2.trans m_3))) rfl) fun v h_4 ⟨k_4, s⟩ => ?_
    obtain ⟨rfl, i_9⟩ := s
    refine gInt_intro rfl (?_)
    have m_4 := k_4.tame
    refine ⟨k_4.preLe (m_2.trans m_3).le, ?_⟩
    exact g _ _ ((((k0.trans k_1).trans k_2).trans k_3).trans k_4) rfl
  refine lift_eq g (fun q_10 g => ?_) (fun q_10 g => ?_)
  · have gq := g
    subst q_10
    have g := gq
    clear gq
    refine ldA bx_1 (add2 _ _ _) rfl (gBool_intro rfl ?_)
    refine ldA bx_1 (add2 _ _ _) rfl (gSlice_intro rfl ?_)
    refine hc_intro (gnomonlaw04_twin.hs (r0_1_1.tame (m_1)) rfl) fun v h_2 ⟨k_2, s⟩ => ?_
    obtain ⟨a_11, c_11, rfl, r_11⟩ := s
    refine gAgg_intro rfl (uncons_intro (gBool_intro rfl (uncons_intro (gSlice_intro rfl (unnil_intro (?_))))))
    have m_2 := k_2.tame
    refine hc_intro (num_Small.hs r_11.rd64 rfl) fun v h_3 ⟨k_3, s⟩ => ?_
    obtain ⟨p_12, hp_12⟩ : ∃ p, p = smaS ((((b0_1_0, xs0_1_1)).1), (((b0_1_0, xs0_1_1)).2)) := ⟨_, rfl⟩
    rw [← hp_12] at s
    replace g := lift_let2 hp_12 g
    obtain ⟨_, _, rfl, ⟨rfl, i_12_0⟩, ⟨rfl, i_12_1⟩⟩ := s
    refine gTup_intro rfl (uncons_intro (gInt_intro rfl (uncons_intro (gInt_intro rfl (unnil_intro (?_))))))
    have m_3 := k_3.tame
    have bx_1 := ((bx_1.keep k_2).keep k_3)
    refine ldA bx_1 (add2 _ _ _) rfl (gBool_intro rfl ?_)
    refine ldA bx_1 (add2 _ _ _) rfl (gSlice_intro rfl ?_)
    refine hc_intro (gnomonref04_DocSmall.hs (r0_1_1.tame (m_1.trans (m_2.trans m_3))) rfl) fun v h_4 ⟨k_4, s⟩ => ?_
    obtain ⟨p_13, hp_13⟩ : ∃ p, p = smaS (b0_1_0, xs0_1_1) := ⟨_, rfl⟩
    rw [← hp_13] at s
    replace g := lift_let2 hp_13 g
    obtain ⟨_, _, rfl, ⟨rfl, i_13_0⟩, ⟨rfl, i_13_1⟩⟩ := s
    refine gTup_intro rfl (uncons_intro (gInt_intro rfl (uncons_intro (gInt_intro rfl (unnil_intro (?_))))))
    have m_4 := k_4.tame
    refine lift_eq g (fun q_14 g => ?_) (fun q_14 g => ?_)
    · exact g _ _ ((((k0.trans k_1).trans k_2).trans k_3).trans k_4) rfl
    exact g _ _ ((((k0.trans k_1).trans k_2).trans k_3).trans k_4) rfl
  refine c_eq (fun q => absurd q (by omega)) fun _ => ?_
  refine ldA bx_1 (base_add _ _) rfl (gInt_intro rfl ?_)
  refine c_dec (fun q => absurd q (by omega)) fun _ => ?_
  refine ldA bx_1 (base_add _ _) rfl (gInt_intro rfl ?_)
  refine c_dec (fun q => absurd q (by omega)) fun _ => ?_
  exact D2.hv (k0.trans k_1) i0_0 (by first | assumption | decide | omega) (by first | assumption | decide | omega) (r0_1_1.tame (m_1)) (r0_2_1.tame (m_1)) i0_3 bx_1 o_1 (by first | assumption | decide | omega) (by first | assumption | decide | omega) (tb.tame (m_1)) g
def v (x0_0 : Int) (b0_1_0 : Bool) (xs0_1_1 : List Nat) (b0_2_0 : Bool) (xs0_2_1 : List Nat) (x0_3 : Int) : Bool := D1.v x0_0 b0_1_0 xs0_1_1 b0_2_0 xs0_2_1 x0_3
theorem hv {h : Hp} {x0_0 : Int} (i0_0 : In .i64 x0_0) (rl0_0 : 1 ≤ x0_0) (rh0_0 : x0_0 ≤ 4) {b0_1_0 : Bool} {a0_1_1 : Option Addr} {c0_1_1 l0_1_1 : Nat} {xs0_1_1 : List Nat} (r0_1_1 : Rd h a0_1_1 c0_1_1 xs0_1_1) (e0_1_1 : l0_1_1 = xs0_1_1.length) {b0_2_0 : Bool} {a0_2_1 : Option Addr} {c0_2_1 l0_2_1 : Nat} {xs0_2_1 : List Nat} (r0_2_1 : Rd h a0_2_1 c0_2_1 xs0_2_1) (e0_2_1 : l0_2_1 = xs0_2_1.length) {x0_3 : Int} (i0_3 : In .i64 x0_3) (tb : Tab h) : HC id #[.agg #[.int .i64 x0_0, .bool b0_1_0, .slice a0_1_1 l0_1_1 c0_1_1, .bool b0_2_0, .slice a0_2_1 l0_2_1 c0_2_1, .int .i64 x0_3]] h fun v_ h_ => Keep h h_ ∧ sBool h h_ v_ (v x0_0 b0_1_0 xs0_1_1 b0_2_0 xs0_2_1 x0_3) :=
  ok (D1.hv (Keep.refl _) i0_0 rl0_0 rh0_0 r0_1_1 e0_1_1 r0_2_1 e0_2_1 i0_3 tb fun v h' k s => ⟨k, s⟩)
end gnomonlaw04_plays

end Go.Proofs.YtanlcacaihdceaaGreatDoor.G

/- A script of calls of layer 4: what it reads as. -/
namespace Go.Proofs.YtanlcacaihdceaaGreatDoor.G
open Go.Gv
set_option linter.unusedVariables false
set_option maxRecDepth 100000
abbrev I4 := Bool × List Nat × Unit
abbrev Op4 := Int × (I4 × (I4 × (Int × Unit)))
abbrev saysOp4 : Says Op4 := saysCons (saysInt .i64) 1 (saysCons saysInt4 2 (saysCons saysInt4 2 (saysCons (saysInt .i64) 1 saysEnd)))
abbrev RdOps4 (h : Hp) (a : Option Addr) (c : Nat) (os : List Op4) : Prop := RdList saysOp4 6 1759218604390 h a c os
theorem saysBool_lasts : Lasts saysBool := fun _ _ _ _ z _ => z
theorem saysInt4_lasts : Lasts saysInt4 := saysCons_lasts saysBool_lasts (saysCons_lasts saysWords_lasts saysEnd_lasts 1) 1
theorem saysOp4_lasts : Lasts saysOp4 := saysCons_lasts (saysInt_lasts _) (saysCons_lasts saysInt4_lasts (saysCons_lasts saysInt4_lasts (saysCons_lasts (saysInt_lasts _) saysEnd_lasts 1) 2) 2) 1
theorem RdOps4.keep {h h' : Hp} {a : Option Addr} {c : Nat} {os : List Op4} (r : RdOps4 h a c os) (k : Keep h h') : RdOps4 h' a c os := RdList.keep saysOp4_lasts r k
theorem says_twoZ {α β : Type} {S : Says α} {T : Says β} {h : Hp} {cs : List Value} {p : α × β} (z : saysCons S 2 T h cs p) : ∃ c d rest, cs = c :: d :: rest ∧ S h [c, d] p.1 ∧ T h rest p.2 := by
  obtain ⟨l, s, t⟩ := z
  match cs with
  | [] => simp at l
  | [_] => simp at l
  | c :: d :: r => exact ⟨c, d, r, rfl, s, t⟩
theorem int4_list {h : Hp} {v w : Value} {x : I4} (z : saysInt4 h [v, w] x) : ∃ a c, v = .bool x.1 ∧ w = .slice a x.2.1.length c ∧ Rd h a c x.2.1 := by
  obtain ⟨a, c, e, r⟩ := int4_open (cs := #[v, w]) z
  have e := congrArg Array.toList e
  simp only [List.cons.injEq, and_true] at e
  exact ⟨a, c, e.1, e.2, r⟩
/-- What one call of a script reads as. -/
theorem op4_open {h : Hp} {q : Addr} {vs : List Value} {o : Op4} (rl : RdL h q 0 vs) (s : saysOp4 h vs o) :
    ∃ a c b d, cellH h (q.add 0) = some (.int .i64 o.1) ∧ cellH h (q.add 1) = some (.bool o.2.1.1) ∧ cellH h (q.add 2) = some (.slice a o.2.1.2.1.length c) ∧ cellH h (q.add 3) = some (.bool o.2.2.1.1) ∧ cellH h (q.add 4) = some (.slice b o.2.2.1.2.1.length d) ∧ cellH h (q.add 5) = some (.int .i64 o.2.2.2.1) ∧
      In .i64 o.1 ∧ Rd h a c o.2.1.2.1 ∧ Rd h b d o.2.2.1.2.1 ∧ In .i64 o.2.2.2.1 := by
  obtain ⟨v0, t0, e0, ⟨f0, w0⟩, s⟩ := says_oneZ s
  obtain ⟨v1, v2, t1, e1, z1, s⟩ := says_twoZ s
  obtain ⟨v3, v4, t2, e2, z2, s⟩ := says_twoZ s
  obtain ⟨v5, t3, e3, ⟨f5, w5⟩, s⟩ := says_oneZ s
  have s : t3 = [] := s
  obtain ⟨a, c, g1, g2, r1⟩ := int4_list z1
  obtain ⟨b, d, g3, g4, r2⟩ := int4_list z2
  simp only [List.cons.injEq, and_true] at f0 f5
  subst s e3 e2 e1 e0 f0 f5 g1 g2 g3 g4
  exact ⟨a, c, b, d, rl.1, rl.2.1, rl.2.2.1, rl.2.2.2.1, rl.2.2.2.2.1, rl.2.2.2.2.2.1, in_wf w0, r1, r2, in_wf w5⟩
end Go.Proofs.YtanlcacaihdceaaGreatDoor.G

/- The law NumMakes of the translation answers true. -/
namespace Go.Proofs.YtanlcacaihdceaaGreatDoor.G
open Go.Gv
set_option linter.unusedVariables false
set_option maxRecDepth 100000
theorem plays4_true {k : Int} (h1 : 1 ≤ k) (h2 : k ≤ 4) (b : Bool) (xs : List Nat) (c : Bool) (ys : List Nat) (n : Int) : gnomonlaw04_plays.v k b xs c ys n = true := by
  have d2 : ∀ {k : Int}, 1 ≤ k → k ≤ 1 → gnomonlaw04_plays.D2.v k b xs c ys n = true := by
    intro k h1 h2
    unfold gnomonlaw04_plays.D2.v gnomonlaw04_plays.D3.v
    simp only [letV, doc_number h1 h2]
    exact told4_same _ _
  unfold gnomonlaw04_plays.v gnomonlaw04_plays.D1.v
  rcases (show k = 1 ∨ k = 2 ∨ k = 3 ∨ k = 4 by omega) with rfl | rfl | rfl | rfl
  · exact d2 (by decide) (by decide)
  · simp [letV]
  · simp [letV]
  · simp [letV]
theorem all4_walk {R : Rt} {a : Option Addr} {c : Nat} {os : List Op4} {h0 : Hp} (r : RdOps4 h0 a c os) (tb : Tab h0) (post : ∀ h', Keep h0 h' → R (.bool true) h') :
    ∀ (k i : Nat) (h : Hp), i + k = os.length → Keep h0 h → gnomonlaw04_all.L4.t R (k + 1) 1 4 a os.length c (os.length : Int) (i : Int) h := by
  have h1 : os.length ≤ 1759218604390 := r.len
  intro k
  induction k with
  | zero =>
    intro i h hik kp
    unfold gnomonlaw04_all.L4.t gnomonlaw04_all.D5.t
    refine c_dec (fun hb => absurd hb (by omega)) fun _ => ?_
    unfold gnomonlaw04_all.D2.t
    exact post _ kp
  | succ k ih =>
    intro i h hik kp
    unfold gnomonlaw04_all.L4.t gnomonlaw04_all.D5.t
    refine c_dec (fun _ => ?_) fun hb => absurd (by omega) hb
    obtain ⟨o, ho⟩ : ∃ o, os[i]? = some o := ⟨os[i]'(by omega), by simp⟩
    refine at_list (r.keep kp) rfl rfl ho fun q vs hvs rl s => ?_
    obtain ⟨a1, c1, b1, d1, e0, e1, e2, e3, e4, e5, i0, r1, r2, i5⟩ := op4_open rl s
    refine ldC e0 ?_
    refine gInt_intro rfl ?_
    refine ldC e1 ?_
    refine gBool_intro rfl ?_
    refine ldC e2 ?_
    refine gSlice_intro rfl ?_
    refine ldC e3 ?_
    refine gBool_intro rfl ?_
    refine ldC e4 ?_
    refine gSlice_intro rfl ?_
    refine ldC e5 ?_
    refine gInt_intro rfl ?_
    refine boxV fun h2 o2 k2 => ?_
    refine stV o2 (Nat.le_of_ble_eq_true rfl) fun h3 o3 k3 => ?_
    refine stV o3 (Nat.le_of_ble_eq_true rfl) fun h4 o4 k4 => ?_
    refine stV o4 (Nat.le_of_ble_eq_true rfl) fun h5 o5 k5 => ?_
    refine stV o5 (Nat.le_of_ble_eq_true rfl) fun h6 o6 k6 => ?_
    refine stV o6 (Nat.le_of_ble_eq_true rfl) fun h7 o7 k7 => ?_
    refine stV o7 (Nat.le_of_ble_eq_true rfl) fun h8 o8 k8 => ?_
    have kh : Keep h h8 := (k3.trans (k4.trans (k5.trans (k6.trans (k7.trans k8))))).keep k2 (Nat.le_refl _)
    have k07 := kp.trans kh
    have next : ∀ h', Keep h0 h' → letK (IntKind.i64.wrap ((i : Int) + 1)) fun n36 => gnomonlaw04_all.L4.t R (k + 1) 1 4 a os.length c (os.length : Int) n36 h' := by
      intro h' k'
      refine k_i64 ((i + 1 : Nat) : Int) (by omega) (by omega) (by omega) ?_
      exact ih (i + 1) h' (by omega) k'
    refine ldV o8 rfl ?_
    refine gInt_intro rfl ?_
    refine c_dec (fun hlo => ?_) fun _ => next _ k07
    refine ldV o8 rfl ?_
    refine gInt_intro rfl ?_
    refine c_dec (fun hhi => ?_) fun _ => next _ k07
    refine ldV o8 rfl ?_
    refine gInt_intro rfl ?_
    refine ldV o8 rfl ?_
    refine gBool_intro rfl ?_
    refine ldV o8 rfl ?_
    refine gSlice_intro rfl ?_
    refine ldV o8 rfl ?_
    refine gBool_intro rfl ?_
    refine ldV o8 rfl ?_
    refine gSlice_intro rfl ?_
    refine ldV o8 rfl ?_
    refine gInt_intro rfl ?_
    refine hc_intro (gnomonlaw04_plays.hv i0 (by omega) (by omega) (r1.keep kh) rfl (r2.keep kh) rfl i5 (tb.keep k07)) fun v h9 ⟨k9, e9⟩ => ?_
    rw [plays4_true (by omega) (by omega)] at e9
    have e9 : v = .bool true := e9
    subst e9
    refine gBool_intro rfl ?_
    refine c_not (fun hh => absurd hh (by simp)) fun _ => ?_
    exact next _ (k07.trans k9)
theorem gnomonlaw04_all.hv {h : Hp} {a : Option Addr} {c l : Nat} {os : List Op4} (r : RdOps4 h a c os) (e : l = os.length) (tb : Tab h) :
    HC gnomonlaw04_all.id #[.slice a l c, .int .i64 1, .int .i64 4] h fun v h' => Keep h h' ∧ sBool h h' v true := by
  subst e
  refine gnomonlaw04_all.ok ?_
  unfold gnomonlaw04_all.t gnomonlaw04_all.D1.t gnomonlaw04_all.D3.t
  refine ⟨os.length + 1, ?_⟩
  exact all4_walk r tb (fun h' k => ⟨k, rfl⟩) os.length 0 h (by omega) (Keep.refl _)
section
variable {h : Hp} {a : Option Addr} {c l : Nat} {os : List Op4}
theorem NumMakes_law (r : RdOps4 h a c os) (e : l = os.length) (tb : Tab h) : HC gnomonlaw04_NumMakes.id #[.slice a l c] h fun v h' => Keep h h' ∧ v = .bool true := by
  refine gnomonlaw04_NumMakes.ok ?_
  unfold gnomonlaw04_NumMakes.t gnomonlaw04_NumMakes.D1.t
  refine hc_intro awake_hs fun v h' ⟨k, s⟩ => ?_
  have s : v = .bool true := s
  subst s
  refine gBool_intro rfl ?_
  refine c_bool (fun _ => ?_) fun hh => absurd hh (by decide)
  refine hc_intro (gnomonlaw04_all.hv (r.keep k) e (tb.keep k)) fun v h2 ⟨k2, s⟩ => ?_
  have s : v = .bool true := s
  subst s
  exact gBool_intro rfl ⟨k.trans k2, rfl⟩
end
end Go.Proofs.YtanlcacaihdceaaGreatDoor.G
