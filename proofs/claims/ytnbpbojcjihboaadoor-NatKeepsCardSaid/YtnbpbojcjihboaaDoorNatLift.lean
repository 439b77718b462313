/- Functions without loops as functions of values. Written by a program of this work. -/
import Derived.Test.YtnbpbojcjihboaaDoorNatTwin
namespace Go.Proofs.YtnbpbojcjihboaaDoor.G
open Go.Gv
set_option linter.unusedVariables false
set_option maxRecDepth 100000
namespace gnomonlaw01_told
def D1.v (xs0 : List Nat) (x1 : Int) (xs2 : List Nat) (x3 : Int) : Bool :=
  bif (decide (xs0 = xs2)) then
    (x1 == x3)
  else
    false
theorem D1.hv {R : Rt} {h0 h : Hp} (k0 : Keep h0 h) {a0 : Option Addr} {c0 l0 : Nat} {xs0 : List Nat} (r0 : Rd h a0 c0 xs0) (e0 : l0 = xs0.length) {x1 : Int} (i1 : In .i64 x1) {a2 : Option Addr} {c2 l2 : Nat} {xs2 : List Nat} (r2 : Rd h a2 c2 xs2) (e2 : l2 = xs2.length) {x3 : Int} (i3 : In .i64 x3) (g : Post sBool h0 R (D1.v xs0 x1 xs2 x3)) : D1.t R a0 l0 c0 x1 a2 l2 c2 x3 h := by
  subst e0 e2
  unfold D1.v at g
  unfold D1.t
  refine hq_intro (gnomonref01_Same.hq r0 rfl r2 rfl) fun v s => ?_
  obtain rfl := s
  refine gBool_intro rfl (?_)
  refine lift_dec g (fun q_2 g => ?_) (fun q_2 g => ?_)
  · exact g _ _ (k0) rfl
  · exact g _ _ (k0) rfl
def v (xs0 : List Nat) (x1 : Int) (xs2 : List Nat) (x3 : Int) : Bool := D1.v xs0 x1 xs2 x3
theorem hv {h : Hp} {a0 : Option Addr} {c0 l0 : Nat} {xs0 : List Nat} (r0 : Rd h a0 c0 xs0) (e0 : l0 = xs0.length) {x1 : Int} (i1 : In .i64 x1) {a2 : Option Addr} {c2 l2 : Nat} {xs2 : List Nat} (r2 : Rd h a2 c2 xs2) (e2 : l2 = xs2.length) {x3 : Int} (i3 : In .i64 x3) : HC id #[.slice a0 l0 c0, .int .i64 x1, .slice a2 l2 c2, .int .i64 x3] h fun v_ h_ => Keep h h_ ∧ sBool h h_ v_ (v xs0 x1 xs2 x3) :=
  ok (D1.hv (Keep.refl _) r0 e0 i1 r2 e2 i3 fun v h' k s => ⟨k, s⟩)
end gnomonlaw01_told

namespace gnomonlaw01_list
def D2.v (xs5 : List Nat) (x6 : Int) (x7 : Int) : (List Nat × Int × Int) :=
  (xs5, x6, x7)
theorem D2.hv {R : Rt} {h0 h : Hp} (k0 : Keep h0 h) {a5 : Option Addr} {c5 l5 : Nat} {xs5 : List Nat} (r5 : GotE eU64 h0 h a5 c5 xs5) (e5 : l5 = xs5.length) {x6 : Int} (i6 : In .u64 x6) {x7 : Int} (i7 : In .i64 x7) (g : Post (s3 sW (sI .u64) (sI .i64)) h0 R (D2.v xs5 x6 x7)) : D2.t R a5 l5 c5 x6 x7 h := by
  subst e5
  unfold D2.v at g
  unfold D2.t
  exact g _ _ (k0) ⟨_, _, _, rfl, ⟨_, _, rfl, r5⟩, ⟨rfl, i6⟩, ⟨rfl, i7⟩⟩
def D1.v (x0_0 : Int) (xs0_1 : List Nat) (xs0_2 : List Nat) (x0_3 : Int) (x0_4 : Int) : (List Nat × Int × Int) :=
  bif (x0_0 == (2 : Int)) then
    letV (lim (val xs0_1)) fun p_3 =>
    D2.v p_3.1 (0 : Int) p_3.2
  else
    bif (x0_0 == (3 : Int)) then
      letV (digs (Int.toNat x0_4)) fun p_5 =>
      D2.v p_5 (0 : Int) (0 : Int)
    else
      bif (x0_0 == (8 : Int)) then
        letV (addS xs0_1 xs0_2) fun p_7 =>
        D2.v p_7.1 (0 : Int) p_7.2
      else
        bif (x0_0 == (9 : Int)) then
          letV (subS xs0_1 xs0_2) fun p_9 =>
          D2.v p_9.1 (0 : Int) p_9.2
        else
          bif (x0_0 == (10 : Int)) then
            letV (shlS xs0_1 x0_3) fun p_11 =>
            D2.v p_11.1 (0 : Int) p_11.2
          else
            bif (x0_0 == (11 : Int)) then
              letV (shrS xs0_1 x0_3) fun p_13 =>
              D2.v p_13.1 (0 : Int) p_13.2
            else
              bif (x0_0 == (12 : Int)) then
                letV (lowS xs0_1 x0_3) fun p_15 =>
                D2.v p_15.1 (0 : Int) p_15.2
              else
                bif (x0_0 == (13 : Int)) then
                  letV (mulWS xs0_1 (Int.toNat x0_4)) fun p_17 =>
                  D2.v p_17.1 (0 : Int) p_17.2
                else
                  bif (x0_0 == (14 : Int)) then
                    letV (divWS xs0_1 (Int.toNat x0_4)) fun p_19 =>
                    D2.v p_19.1 p_19.2.1 p_19.2.2
                  else
                    D2.v ([] : List Nat) (0 : Int) (0 : Int)
theorem D1.hv {R : Rt} {h0 h : Hp} (k0 : Keep h0 h) {x0_0 : Int} (i0_0 : In .i64 x0_0) {a0_1 : Option Addr} {c0_1 l0_1 : Nat} {xs0_1 : List Nat} (r0_1 : Rd h a0_1 c0_1 xs0_1) (e0_1 : l0_1 = xs0_1.length) {a0_2 : Option Addr} {c0_2 l0_2 : Nat} {xs0_2 : List Nat} (r0_2 : Rd h a0_2 c0_2 xs0_2) (e0_2 : l0_2 = xs0_2.length) {x0_3 : Int} (i0_3 : In .i64 x0_3) {x0_4 : Int} (i0_4 : In .u64 x0_4) (g : Post (s3 sW (sI .u64) (sI .i64)) h0 R (D1.v x0_0 xs0_1 xs0_2 x0_3 x0_4)) : D1.t R x0_0 a0_1 l0_1 c0_1 a0_2 l0_2 c0_2 x0_3 x0_4 h := by
  subst e0_1 e0_2
  unfold D1.v at g
  unfold D1.t
  refine boxV fun h_1 b_1 k_1 => ?_
  refine ldV b_1 rfl ?_
  refine gInt_intro rfl ?_
  refine lift_eq g (fun q_2 g => ?_) (fun q_2 g => ?_)
  · refine ldV b_1 rfl ?_
    refine gSlice_intro rfl ?_
    refine hc_intro (nat_Norm.hv (r0_1.keep (k_1)) rfl) fun v h_2 ⟨k_2, s⟩ => ?_
    replace g := lift_let g
    generalize hp_3 : lim (val xs0_1) = p_3 at s g
    obtain ⟨_, _, rfl, ⟨a_3_0, c_3_0, rfl, r_3_0⟩, ⟨rfl, i_3_1⟩⟩ := s
    refine gTup_intro rfl (uncons_intro (gSlice_intro rfl (uncons_intro (gInt_intro rfl (unnil_intro (?_))))))
    exact D2.hv (k0.trans (k_1.trans k_2)) (r_3_0.from (k0.trans (k_1)).le) rfl (by decide) i_3_1 g
  · refine lift_eq g (fun q_4 g => ?_) (fun q_4 g => ?_)
    · refine ldV b_1 rfl ?_
      refine gInt_intro rfl ?_
      refine hc_intro (nat_Word.hv i0_4) fun v h_2 ⟨k_2, s⟩ => ?_
      replace g := lift_let g
      generalize hp_5 : digs (Int.toNat x0_4) = p_5 at s g
      obtain ⟨a_5, c_5, rfl, r_5⟩ := s
      refine gSlice_intro rfl (?_)
      exact D2.hv (k0.trans (k_1.trans k_2)) (r_5.from (k0.trans (k_1)).le) rfl (by decide) (by decide) g
    · refine lift_eq g (fun q_6 g => ?_) (fun q_6 g => ?_)
      · refine ldV b_1 rfl ?_
        refine gSlice_intro rfl ?_
        refine ldV b_1 rfl ?_
        refine gSlice_intro rfl ?_
        refine hc_intro (nat_Add.hv (r0_1.keep (k_1)) rfl (r0_2.keep (k_1)) rfl) fun v h_2 ⟨k_2, s⟩ => ?_
        replace g := lift_let g
        generalize hp_7 : addS xs0_1 xs0_2 = p_7 at s g
        obtain ⟨_, _, rfl, ⟨a_7_0, c_7_0, rfl, r_7_0⟩, ⟨rfl, i_7_1⟩⟩ := s
        refine gTup_intro rfl (uncons_intro (gSlice_intro rfl (uncons_intro (gInt_intro rfl (unnil_intro (?_))))))
        exact D2.hv (k0.trans (k_1.trans k_2)) (r_7_0.from (k0.trans (k_1)).le) rfl (by decide) i_7_1 g
      · refine lift_eq g (fun q_8 g => ?_) (fun q_8 g => ?_)
        · refine ldV b_1 rfl ?_
          refine gSlice_intro rfl ?_
          refine ldV b_1 rfl ?_
          refine gSlice_intro rfl ?_
          refine hc_intro (nat_Sub.hv (r0_1.keep (k_1)) rfl (r0_2.keep (k_1)) rfl) fun v h_2 ⟨k_2, s⟩ => ?_
          replace g := lift_let g
          generalize hp_9 : subS xs0_1 xs0_2 = p_9 at s g
          obtain ⟨_, _, rfl, ⟨a_9_0, c_9_0, rfl, r_9_0⟩, ⟨rfl, i_9_1⟩⟩ := s
          refine gTup_intro rfl (uncons_intro (gSlice_intro rfl (uncons_intro (gInt_intro rfl (unnil_intro (?_))))))
          exact D2.hv (k0.trans (k_1.trans k_2)) (r_9_0.from (k0.trans (k_1)).le) rfl (by decide) i_9_1 g
        · refine lift_eq g (fun q_10 g => ?_) (fun q_10 g => ?_)
          · refine ldV b_1 rfl ?_
            refine gSlice_intro rfl ?_
            refine ldV b_1 rfl ?_
            refine gInt_intro rfl ?_
            refine hc_intro (nat_Shl.hv (r0_1.keep (k_1)) rfl i0_3) fun v h_2 ⟨k_2, s⟩ => ?_
            replace g := lift_let g
            generalize hp_11 : shlS xs0_1 x0_3 = p_11 at s g
            obtain ⟨_, _, rfl, ⟨a_11_0, c_11_0, rfl, r_11_0⟩, ⟨rfl, i_11_1⟩⟩ := s
            refine gTup_intro rfl (uncons_intro (gSlice_intro rfl (uncons_intro (gInt_intro rfl (unnil_intro (?_))))))
            exact D2.hv (k0.trans (k_1.trans k_2)) (r_11_0.from (k0.trans (k_1)).le) rfl (by decide) i_11_1 g
          · refine lift_eq g (fun q_12 g => ?_) (fun q_12 g => ?_)
            · refine ldV b_1 rfl ?_
              refine gSlice_intro rfl ?_
              refine ldV b_1 rfl ?_
              refine gInt_intro rfl ?_
              refine hc_intro (nat_Shr.hv (r0_1.keep (k_1)) rfl i0_3) fun v h_2 ⟨k_2, s⟩ => ?_
              replace g := lift_let g
              generalize hp_13 : shrS xs0_1 x0_3 = p_13 at s g
              obtain ⟨_, _, rfl, ⟨a_13_0, c_13_0, rfl, r_13_0⟩, ⟨rfl, i_13_1⟩⟩ := s
              refine gTup_intro rfl (uncons_intro (gSlice_intro rfl (uncons_intro (gInt_intro rfl (unnil_intro (?_))))))
              exact D2.hv (k0.trans (k_1.trans k_2)) (r_13_0.from (k0.trans (k_1)).le) rfl (by decide) i_13_1 g
            · refine lift_eq g (fun q_14 g => ?_) (fun q_14 g => ?_)
              · refine ldV b_1 rfl ?_
                refine gSlice_intro rfl ?_
                refine ldV b_1 rfl ?_
                refine gInt_intro rfl ?_
                refine hc_intro (nat_Low.hv (r0_1.keep (k_1)) rfl i0_3) fun v h_2 ⟨k_2, s⟩ => ?_
                replace g := lift_let g
                generalize hp_15 : lowS xs0_1 x0_3 = p_15 at s g
                obtain ⟨_, _, rfl, ⟨a_15_0, c_15_0, rfl, r_15_0⟩, ⟨rfl, i_15_1⟩⟩ := s
                refine gTup_intro rfl (uncons_intro (gSlice_intro rfl (uncons_intro (gInt_intro rfl (unnil_intro (?_))))))
                exact D2.hv (k0.trans (k_1.trans k_2)) (r_15_0.from (k0.trans (k_1)).le) rfl (by decide) i_15_1 g
              · refine lift_eq g (fun q_16 g => ?_) (fun q_16 g => ?_)
                · refine ldV b_1 rfl ?_
                  refine gSlice_intro rfl ?_
                  refine ldV b_1 rfl ?_
                  refine gInt_intro rfl ?_
                  refine hc_intro (nat_MulWord.hv (r0_1.keep (k_1)) rfl i0_4) fun v h_2 ⟨k_2, s⟩ => ?_
                  replace g := lift_let g
                  generalize hp_17 : mulWS xs0_1 (Int.toNat x0_4) = p_17 at s g
                  obtain ⟨_, _, rfl, ⟨a_17_0, c_17_0, rfl, r_17_0⟩, ⟨rfl, i_17_1⟩⟩ := s
                  refine gTup_intro rfl (uncons_intro (gSlice_intro rfl (uncons_intro (gInt_intro rfl (unnil_intro (?_))))))
                  exact D2.hv (k0.trans (k_1.trans k_2)) (r_17_0.from (k0.trans (k_1)).le) rfl (by decide) i_17_1 g
                · refine lift_eq g (fun q_18 g => ?_) (fun q_18 g => ?_)
                  · refine ldV b_1 rfl ?_
                    refine gSlice_intro rfl ?_
                    refine ldV b_1 rfl ?_
                    refine gInt_intro rfl ?_
                    refine hc_intro (nat_DivWord.hv (r0_1.keep (k_1)) rfl i0_4) fun v h_2 ⟨k_2, s⟩ => ?_
                    replace g := lift_let g
                    generalize hp_19 : divWS xs0_1 (Int.toNat x0_4) = p_19 at s g
                    obtain ⟨_, _, _, rfl, ⟨a_19_0, c_19_0, rfl, r_19_0⟩, ⟨rfl, i_19_1⟩, ⟨rfl, i_19_2⟩⟩ := s
                    refine gTup_intro rfl (uncons_intro (gSlice_intro rfl (uncons_intro (gInt_intro rfl (uncons_intro (gInt_intro rfl (unnil_intro (?_))))))))
                    exact D2.hv (k0.trans (k_1.trans k_2)) (r_19_0.from (k0.trans (k_1)).le) rfl i_19_1 i_19_2 g
                  · exact D2.hv (k0.trans (k_1)) (GotE.nil _ _) (by rfl) (by decide) (by decide) g
def v (x0_0 : Int) (xs0_1 : List Nat) (xs0_2 : List Nat) (x0_3 : Int) (x0_4 : Int) : (List Nat × Int × Int) := D1.v x0_0 xs0_1 xs0_2 x0_3 x0_4
theorem hv {h : Hp} {x0_0 : Int} (i0_0 : In .i64 x0_0) {a0_1 : Option Addr} {c0_1 l0_1 : Nat} {xs0_1 : List Nat} (r0_1 : Rd h a0_1 c0_1 xs0_1) (e0_1 : l0_1 = xs0_1.length) {a0_2 : Option Addr} {c0_2 l0_2 : Nat} {xs0_2 : List Nat} (r0_2 : Rd h a0_2 c0_2 xs0_2) (e0_2 : l0_2 = xs0_2.length) {x0_3 : Int} (i0_3 : In .i64 x0_3) {x0_4 : Int} (i0_4 : In .u64 x0_4) : HC id #[.agg #[.int .i64 x0_0, .slice a0_1 l0_1 c0_1, .slice a0_2 l0_2 c0_2, .int .i64 x0_3, .int .u64 x0_4]] h fun v_ h_ => Keep h h_ ∧ (s3 sW (sI .u64) (sI .i64)) h h_ v_ (v x0_0 xs0_1 xs0_2 x0_3 x0_4) :=
  ok (D1.hv (Keep.refl _) i0_0 r0_1 e0_1 r0_2 e0_2 i0_3 i0_4 fun v h' k s => ⟨k, s⟩)
end gnomonlaw01_list

namespace gnomonlaw01_doc
def D2.v (xs5 : List Nat) (x6 : Int) (x7 : Int) : (List Nat × Int × Int) :=
  (xs5, x6, x7)
theorem D2.hv {R : Rt} {h0 h : Hp} (k0 : Keep h0 h) {a5 : Option Addr} {c5 l5 : Nat} {xs5 : List Nat} (r5 : GotE eU64 h0 h a5 c5 xs5) (e5 : l5 = xs5.length) {x6 : Int} (i6 : In .u64 x6) {x7 : Int} (i7 : In .i64 x7) (g : Post (s3 sW (sI .u64) (sI .i64)) h0 R (D2.v xs5 x6 x7)) : D2.t R a5 l5 c5 x6 x7 h := by
  subst e5
  unfold D2.v at g
  unfold D2.t
  exact g _ _ (k0) ⟨_, _, _, rfl, ⟨_, _, rfl, r5⟩, ⟨rfl, i6⟩, ⟨rfl, i7⟩⟩
def D1.v (x0_0 : Int) (xs0_1 : List Nat) (xs0_2 : List Nat) (x0_3 : Int) (x0_4 : Int) : (List Nat × Int × Int) :=
  bif (x0_0 == (2 : Int)) then
    letV (lim (val xs0_1)) fun p_3 =>
    D2.v p_3.1 (0 : Int) p_3.2
  else
    bif (x0_0 == (3 : Int)) then
      letV (digs (Int.toNat x0_4)) fun p_5 =>
      D2.v p_5 (0 : Int) (0 : Int)
    else
      bif (x0_0 == (8 : Int)) then
        letV (addS xs0_1 xs0_2) fun p_7 =>
        D2.v p_7.1 (0 : Int) p_7.2
      else
        bif (x0_0 == (9 : Int)) then
          letV (subS xs0_1 xs0_2) fun p_9 =>
          D2.v p_9.1 (0 : Int) p_9.2
        else
          bif (x0_0 == (10 : Int)) then
            letV (shlS xs0_1 x0_3) fun p_11 =>
            D2.v p_11.1 (0 : Int) p_11.2
          else
            bif (x0_0 == (11 : Int)) then
              letV (shrS xs0_1 x0_3) fun p_13 =>
              D2.v p_13.1 (0 : Int) p_13.2
            else
              bif (x0_0 == (12 : Int)) then
                letV (lowS xs0_1 x0_3) fun p_15 =>
                D2.v p_15.1 (0 : Int) p_15.2
              else
                bif (x0_0 == (13 : Int)) then
                  letV (mulWS xs0_1 (Int.toNat x0_4)) fun p_17 =>
                  D2.v p_17.1 (0 : Int) p_17.2
                else
                  bif (x0_0 == (14 : Int)) then
                    letV (divWS xs0_1 (Int.toNat x0_4)) fun p_19 =>
                    D2.v p_19.1 p_19.2.1 p_19.2.2
                  else
                    D2.v ([] : List Nat) (0 : Int) (0 : Int)
theorem D1.hv {R : Rt} {h0 h : Hp} (k0 : Keep h0 h) {x0_0 : Int} (i0_0 : In .i64 x0_0) {a0_1 : Option Addr} {c0_1 l0_1 : Nat} {xs0_1 : List Nat} (r0_1 : Rd h a0_1 c0_1 xs0_1) (e0_1 : l0_1 = xs0_1.length) {a0_2 : Option Addr} {c0_2 l0_2 : Nat} {xs0_2 : List Nat} (r0_2 : Rd h a0_2 c0_2 xs0_2) (e0_2 : l0_2 = xs0_2.length) {x0_3 : Int} (i0_3 : In .i64 x0_3) {x0_4 : Int} (i0_4 : In .u64 x0_4) (g : Post (s3 sW (sI .u64) (sI .i64)) h0 R (D1.v x0_0 xs0_1 xs0_2 x0_3 x0_4)) : D1.t R x0_0 a0_1 l0_1 c0_1 a0_2 l0_2 c0_2 x0_3 x0_4 h := by
  subst e0_1 e0_2
  unfold D1.v at g
  unfold D1.t
  refine boxV fun h_1 b_1 k_1 => ?_
  refine ldV b_1 rfl ?_
  refine gInt_intro rfl ?_
  refine lift_eq g (fun q_2 g => ?_) (fun q_2 g => ?_)
  · refine ldV b_1 rfl ?_
    refine gSlice_intro rfl ?_
    refine hc_intro (gnomonref01_DocNorm.hv (r0_1.keep (k_1)) rfl) fun v h_2 ⟨k_2, s⟩ => ?_
    replace g := lift_let g
    generalize hp_3 : lim (val xs0_1) = p_3 at s g
    obtain ⟨_, _, rfl, ⟨a_3_0, c_3_0, rfl, r_3_0⟩, ⟨rfl, i_3_1⟩⟩ := s
    refine gTup_intro rfl (uncons_intro (gSlice_intro rfl (uncons_intro (gInt_intro rfl (unnil_intro (?_))))))
    exact D2.hv (k0.trans (k_1.trans k_2)) (r_3_0.from (k0.trans (k_1)).le) rfl (by decide) i_3_1 g
  · refine lift_eq g (fun q_4 g => ?_) (fun q_4 g => ?_)
    · refine ldV b_1 rfl ?_
      refine gInt_intro rfl ?_
      refine hc_intro (gnomonref01_DocWord.hv i0_4) fun v h_2 ⟨k_2, s⟩ => ?_
      replace g := lift_let g
      generalize hp_5 : digs (Int.toNat x0_4) = p_5 at s g
      obtain ⟨a_5, c_5, rfl, r_5⟩ := s
      refine gSlice_intro rfl (?_)
      exact D2.hv (k0.trans (k_1.trans k_2)) (r_5.from (k0.trans (k_1)).le) rfl (by decide) (by decide) g
    · refine lift_eq g (fun q_6 g => ?_) (fun q_6 g => ?_)
      · refine ldV b_1 rfl ?_
        refine gSlice_intro rfl ?_
        refine ldV b_1 rfl ?_
        refine gSlice_intro rfl ?_
        refine hc_intro (gnomonref01_DocAdd.hv (r0_1.keep (k_1)) rfl (r0_2.keep (k_1)) rfl) fun v h_2 ⟨k_2, s⟩ => ?_
        replace g := lift_let g
        generalize hp_7 : addS xs0_1 xs0_2 = p_7 at s g
        obtain ⟨_, _, rfl, ⟨a_7_0, c_7_0, rfl, r_7_0⟩, ⟨rfl, i_7_1⟩⟩ := s
        refine gTup_intro rfl (uncons_intro (gSlice_intro rfl (uncons_intro (gInt_intro rfl (unnil_intro (?_))))))
        exact D2.hv (k0.trans (k_1.trans k_2)) (r_7_0.from (k0.trans (k_1)).le) rfl (by decide) i_7_1 g
      · refine lift_eq g (fun q_8 g => ?_) (fun q_8 g => ?_)
        · refine ldV b_1 rfl ?_
          refine gSlice_intro rfl ?_
          refine ldV b_1 rfl ?_
          refine gSlice_intro rfl ?_
          refine hc_intro (gnomonref01_DocSub.hv (r0_1.keep (k_1)) rfl (r0_2.keep (k_1)) rfl) fun v h_2 ⟨k_2, s⟩ => ?_
          replace g := lift_let g
          generalize hp_9 : subS xs0_1 xs0_2 = p_9 at s g
          obtain ⟨_, _, rfl, ⟨a_9_0, c_9_0, rfl, r_9_0⟩, ⟨rfl, i_9_1⟩⟩ := s
          refine gTup_intro rfl (uncons_intro (gSlice_intro rfl (uncons_intro (gInt_intro rfl (unnil_intro (?_))))))
          exact D2.hv (k0.trans (k_1.trans k_2)) (r_9_0.from (k0.trans (k_1)).le) rfl (by decide) i_9_1 g
        · refine lift_eq g (fun q_10 g => ?_) (fun q_10 g => ?_)
          · refine ldV b_1 rfl ?_
            refine gSlice_intro rfl ?_
            refine ldV b_1 rfl ?_
            refine gInt_intro rfl ?_
            refine hc_intro (gnomonref01_DocShl.hv (r0_1.keep (k_1)) rfl i0_3) fun v h_2 ⟨k_2, s⟩ => ?_
            replace g := lift_let g
            generalize hp_11 : shlS xs0_1 x0_3 = p_11 at s g
            obtain ⟨_, _, rfl, ⟨a_11_0, c_11_0, rfl, r_11_0⟩, ⟨rfl, i_11_1⟩⟩ := s
            refine gTup_intro rfl (uncons_intro (gSlice_intro rfl (uncons_intro (gInt_intro rfl (unnil_intro (?_))))))
            exact D2.hv (k0.trans (k_1.trans k_2)) (r_11_0.from (k0.trans (k_1)).le) rfl (by decide) i_11_1 g
          · refine lift_eq g (fun q_12 g => ?_) (fun q_12 g => ?_)
            · refine ldV b_1 rfl ?_
              refine gSlice_intro rfl ?_
              refine ldV b_1 rfl ?_
              refine gInt_intro rfl ?_
              refine hc_intro (gnomonref01_DocShr.hv (r0_1.keep (k_1)) rfl i0_3) fun v h_2 ⟨k_2, s⟩ => ?_
              replace g := lift_let g
              generalize hp_13 : shrS xs0_1 x0_3 = p_13 at s g
              obtain ⟨_, _, rfl, ⟨a_13_0, c_13_0, rfl, r_13_0⟩, ⟨rfl, i_13_1⟩⟩ := s
              refine gTup_intro rfl (uncons_intro (gSlice_intro rfl (uncons_intro (gInt_intro rfl (unnil_intro (?_))))))
              exact D2.hv (k0.trans (k_1.trans k_2)) (r_13_0.from (k0.trans (k_1)).le) rfl (by decide) i_13_1 g
            · refine lift_eq g (fun q_14 g => ?_) (fun q_14 g => ?_)
              · refine ldV b_1 rfl ?_
                refine gSlice_intro rfl ?_
                refine ldV b_1 rfl ?_
                refine gInt_intro rfl ?_
                refine hc_intro (gnomonref01_DocLow.hv (r0_1.keep (k_1)) rfl i0_3) fun v h_2 ⟨k_2, s⟩ => ?_
                replace g := lift_let g
                generalize hp_15 : lowS xs0_1 x0_3 = p_15 at s g
                obtain ⟨_, _, rfl, ⟨a_15_0, c_15_0, rfl, r_15_0⟩, ⟨rfl, i_15_1⟩⟩ := s
                refine gTup_intro rfl (uncons_intro (gSlice_intro rfl (uncons_intro (gInt_intro rfl (unnil_intro (?_))))))
                exact D2.hv (k0.trans (k_1.trans k_2)) (r_15_0.from (k0.trans (k_1)).le) rfl (by decide) i_15_1 g
              · refine lift_eq g (fun q_16 g => ?_) (fun q_16 g => ?_)
                · refine ldV b_1 rfl ?_
                  refine gSlice_intro rfl ?_
                  refine ldV b_1 rfl ?_
                  refine gInt_intro rfl ?_
                  refine hc_intro (gnomonref01_DocMulWord.hv (r0_1.keep (k_1)) rfl i0_4) fun v h_2 ⟨k_2, s⟩ => ?_
                  replace g := lift_let g
                  generalize hp_17 : mulWS xs0_1 (Int.toNat x0_4) = p_17 at s g
                  obtain ⟨_, _, rfl, ⟨a_17_0, c_17_0, rfl, r_17_0⟩, ⟨rfl, i_17_1⟩⟩ := s
                  refine gTup_intro rfl (uncons_intro (gSlice_intro rfl (uncons_intro (gInt_intro rfl (unnil_intro (?_))))))
                  exact D2.hv (k0.trans (k_1.trans k_2)) (r_17_0.from (k0.trans (k_1)).le) rfl (by decide) i_17_1 g
                · refine lift_eq g (fun q_18 g => ?_) (fun q_18 g => ?_)
                  · refine ldV b_1 rfl ?_
                    refine gSlice_intro rfl ?_
                    refine ldV b_1 rfl ?_
                    refine gInt_intro rfl ?_
                    refine hc_intro (gnomonref01_DocDivWord.hv (r0_1.keep (k_1)) rfl i0_4) fun v h_2 ⟨k_2, s⟩ => ?_
                    replace g := lift_let g
                    generalize hp_19 : divWS xs0_1 (Int.toNat x0_4) = p_19 at s g
                    obtain ⟨_, _, _, rfl, ⟨a_19_0, c_19_0, rfl, r_19_0⟩, ⟨rfl, i_19_1⟩, ⟨rfl, i_19_2⟩⟩ := s
                    refine gTup_intro rfl (uncons_intro (gSlice_intro rfl (uncons_intro (gInt_intro rfl (uncons_intro (gInt_intro rfl (unnil_intro (?_))))))))
                    exact D2.hv (k0.trans (k_1.trans k_2)) (r_19_0.from (k0.trans (k_1)).le) rfl i_19_1 i_19_2 g
                  · exact D2.hv (k0.trans (k_1)) (GotE.nil _ _) (by rfl) (by decide) (by decide) g
def v (x0_0 : Int) (xs0_1 : List Nat) (xs0_2 : List Nat) (x0_3 : Int) (x0_4 : Int) : (List Nat × Int × Int) := D1.v x0_0 xs0_1 xs0_2 x0_3 x0_4
theorem hv {h : Hp} {x0_0 : Int} (i0_0 : In .i64 x0_0) {a0_1 : Option Addr} {c0_1 l0_1 : Nat} {xs0_1 : List Nat} (r0_1 : Rd h a0_1 c0_1 xs0_1) (e0_1 : l0_1 = xs0_1.length) {a0_2 : Option Addr} {c0_2 l0_2 : Nat} {xs0_2 : List Nat} (r0_2 : Rd h a0_2 c0_2 xs0_2) (e0_2 : l0_2 = xs0_2.length) {x0_3 : Int} (i0_3 : In .i64 x0_3) {x0_4 : Int} (i0_4 : In .u64 x0_4) : HC id #[.agg #[.int .i64 x0_0, .slice a0_1 l0_1 c0_1, .slice a0_2 l0_2 c0_2, .int .i64 x0_3, .int .u64 x0_4]] h fun v_ h_ => Keep h h_ ∧ (s3 sW (sI .u64) (sI .i64)) h h_ v_ (v x0_0 xs0_1 xs0_2 x0_3 x0_4) :=
  ok (D1.hv (Keep.refl _) i0_0 r0_1 e0_1 r0_2 e0_2 i0_3 i0_4 fun v h' k s => ⟨k, s⟩)
end gnomonlaw01_doc

namespace gnomonlaw01_asks
def D1.v (x0_0 : Int) (xs0_1 : List Nat) (xs0_2 : List Nat) (x0_3 : Int) (x0_4 : Int) : Bool :=
  bif (x0_0 == (1 : Int)) then
    ((decide (Frm (xs0_1))) == (decide (Frm xs0_1)))
  else
    bif (x0_0 == (4 : Int)) then
      (((((blen (val (xs0_1)) : Nat) : Int))) == ((((blen (val xs0_1) : Nat) : Int))))
    else
      bif (x0_0 == (5 : Int)) then
        (((((ctz (val (xs0_1)) : Nat) : Int))) == ((((ctz (val xs0_1) : Nat) : Int))))
      else
        bif (x0_0 == (6 : Int)) then
          ((bitS (val (xs0_1)) x0_3 == 1) == (bitS (val xs0_1) x0_3 == 1))
        else
          (((cmpI (val (xs0_1)) (val (xs0_2)))) == ((cmpI (val xs0_1) (val xs0_2))))
theorem D1.hv {R : Rt} {h0 h : Hp} (k0 : Keep h0 h) {x0_0 : Int} (i0_0 : In .i64 x0_0) {a0_1 : Option Addr} {c0_1 l0_1 : Nat} {xs0_1 : List Nat} (r0_1 : Rd h a0_1 c0_1 xs0_1) (e0_1 : l0_1 = xs0_1.length) {a0_2 : Option Addr} {c0_2 l0_2 : Nat} {xs0_2 : List Nat} (r0_2 : Rd h a0_2 c0_2 xs0_2) (e0_2 : l0_2 = xs0_2.length) {x0_3 : Int} (i0_3 : In .i64 x0_3) {x0_4 : Int} (i0_4 : In .u64 x0_4) (tb : Tab h) (g : Post sBool h0 R (D1.v x0_0 xs0_1 xs0_2 x0_3 x0_4)) : D1.t R x0_0 a0_1 l0_1 c0_1 a0_2 l0_2 c0_2 x0_3 x0_4 h := by
  subst e0_1 e0_2
  unfold D1.v at g
  unfold D1.t
  refine boxV fun h_1 b_1 k_1 => ?_
  refine ldV b_1 rfl ?_
  refine gInt_intro rfl ?_
  refine lift_eq g (fun q_2 g => ?_) (fun q_2 g => ?_)
  · refine ⟨BlkV.addLt b_1 _, ?_⟩
    refine ldV b_1 rfl ?_
    refine gSlice_intro rfl ?_
    refine hc_intro (gnomonref01_Twin.hv (r0_1.keep (k_1)) rfl) fun v h_2 ⟨k_2, s⟩ => ?_
    obtain ⟨a_3, c_3, rfl, r_3⟩ := s
    refine gSlice_intro rfl (?_)
    refine ⟨k_2.preLe (Nat.le_refl _), ?_⟩
    refine hc_intro (nat_Form.hv r_3.rd64 rfl) fun v h_3 ⟨k_3, s⟩ => ?_
    obtain rfl := s
    refine gBool_intro rfl (?_)
    refine ⟨k_3.preLe (k_2).le, ?_⟩
    refine ⟨BlkV.addLt b_1 _, ?_⟩
    refine ldV (b_1.keep (k_2.trans k_3)) rfl ?_
    refine gSlice_intro rfl ?_
    refine hc_intro (gnomonref01_DocForm.hv (r0_1.keep (k_1.trans (k_2.trans k_3))) rfl) fun v h_4 ⟨k_4, s⟩ => ?_
    obtain rfl := s
    refine gBool_intro rfl (?_)
    refine ⟨k_4.preLe (k_2.trans k_3).le, ?_⟩
    exact g _ _ (k0.trans (k_1.trans (k_2.trans (k_3.trans k_4)))) rfl
  · refine lift_eq g (fun q_6 g => ?_) (fun q_6 g => ?_)
    · refine ⟨BlkV.addLt b_1 _, ?_⟩
      refine ldV b_1 rfl ?_
      refine gSlice_intro rfl ?_
      refine hc_intro (gnomonref01_Twin.hv (r0_1.keep (k_1)) rfl) fun v h_2 ⟨k_2, s⟩ => ?_
      obtain ⟨a_7, c_7, rfl, r_7⟩ := s
      refine gSlice_intro rfl (?_)
      refine ⟨k_2.preLe (Nat.le_refl _), ?_⟩
      refine hc_intro (nat_Bits.hv r_7.rd64 rfl) fun v h_3 ⟨k_3, s⟩ => ?_
      obtain ⟨rfl, i_8⟩ := s
      refine gInt_intro rfl (?_)
      refine ⟨k_3.preLe (k_2).le, ?_⟩
      refine ⟨BlkV.addLt b_1 _, ?_⟩
      refine ldV (b_1.keep (k_2.trans k_3)) rfl ?_
      refine gSlice_intro rfl ?_
      refine hc_intro (gnomonref01_DocBits.hv (r0_1.keep (k_1.trans (k_2.trans k_3))) rfl) fun v h_4 ⟨k_4, s⟩ => ?_
      obtain ⟨rfl, i_9⟩ := s
      refine gInt_intro rfl (?_)
      refine ⟨k_4.preLe (k_2.trans k_3).le, ?_⟩
      exact g _ _ (k0.trans (k_1.trans (k_2.trans (k_3.trans k_4)))) rfl
    · refine lift_eq g (fun q_10 g => ?_) (fun q_10 g => ?_)
      · refine ⟨BlkV.addLt b_1 _, ?_⟩
        refine ldV b_1 rfl ?_
        refine gSlice_intro rfl ?_
        refine hc_intro (gnomonref01_Twin.hv (r0_1.keep (k_1)) rfl) fun v h_2 ⟨k_2, s⟩ => ?_
        obtain ⟨a_11, c_11, rfl, r_11⟩ := s
        refine gSlice_intro rfl (?_)
        refine ⟨k_2.preLe (Nat.le_refl _), ?_⟩
        refine hc_intro (nat_Trail.hv r_11.rd64 rfl (tb.keep (k_1.trans k_2))) fun v h_3 ⟨k_3, s⟩ => ?_
        obtain ⟨rfl, i_12⟩ := s
        refine gInt_intro rfl (?_)
        refine ⟨k_3.preLe (k_2).le, ?_⟩
        refine ⟨BlkV.addLt b_1 _, ?_⟩
        refine ldV (b_1.keep (k_2.trans k_3)) rfl ?_
        refine gSlice_intro rfl ?_
        refine hc_intro (gnomonref01_DocTrail.hv (r0_1.keep (k_1.trans (k_2.trans k_3))) rfl) fun v h_4 ⟨k_4, s⟩ => ?_
        obtain ⟨rfl, i_13⟩ := s
        refine gInt_intro rfl (?_)
        refine ⟨k_4.preLe (k_2.trans k_3).le, ?_⟩
        exact g _ _ (k0.trans (k_1.trans (k_2.trans (k_3.trans k_4)))) rfl
      · refine lift_eq g (fun q_14 g => ?_) (fun q_14 g => ?_)
        · refine ⟨BlkV.addLt b_1 _, ?_⟩
          refine ldV b_1 rfl ?_
          refine gSlice_intro rfl ?_
          refine hc_intro (gnomonref01_Twin.hv (r0_1.keep (k_1)) rfl) fun v h_2 ⟨k_2, s⟩ => ?_
          obtain ⟨a_15, c_15, rfl, r_15⟩ := s
          refine gSlice_intro rfl (?_)
          refine ⟨k_2.preLe (Nat.le_refl _), ?_⟩
          refine ⟨BlkV.addLt b_1 _, ?_⟩
          refine ldV (b_1.keep (k_2)) rfl ?_
          refine gInt_intro rfl ?_
          refine hc_intro (nat_Bit.hv r_15.rd64 rfl i0_3) fun v h_3 ⟨k_3, s⟩ => ?_
          obtain rfl := s
          refine gBool_intro rfl (?_)
          refine ⟨k_3.preLe (k_2).le, ?_⟩
          refine ⟨BlkV.addLt b_1 _, ?_⟩
          refine ldV (b_1.keep (k_2.trans k_3)) rfl ?_
          refine gSlice_intro rfl ?_
          refine ⟨BlkV.addLt b_1 _, ?_⟩
          refine ldV (b_1.keep (k_2.trans k_3)) rfl ?_
          refine gInt_intro rfl ?_
          refine hc_intro (gnomonref01_DocBit.hv (r0_1.keep (k_1.trans (k_2.trans k_3))) rfl i0_3) fun v h_4 ⟨k_4, s⟩ => ?_
          obtain rfl := s
          refine gBool_intro rfl (?_)
          refine ⟨k_4.preLe (k_2.trans k_3).le, ?_⟩
          exact g _ _ (k0.trans (k_1.trans (k_2.trans (k_3.trans k_4)))) rfl
        · refine ⟨BlkV.addLt b_1 _, ?_⟩
          refine ldV b_1 rfl ?_
          refine gSlice_intro rfl ?_
          refine hc_intro (gnomonref01_Twin.hv (r0_1.keep (k_1)) rfl) fun v h_2 ⟨k_2, s⟩ => ?_
          obtain ⟨a_18, c_18, rfl, r_18⟩ := s
          refine gSlice_intro rfl (?_)
          refine ⟨k_2.preLe (Nat.le_refl _), ?_⟩
          refine ⟨BlkV.addLt b_1 _, ?_⟩
          refine ldV (b_1.keep (k_2)) rfl ?_
          refine gSlice_intro rfl ?_
          refine hc_intro (gnomonref01_Twin.hv (r0_2.keep (k_1.trans k_2)) rfl) fun v h_3 ⟨k_3, s⟩ => ?_
          obtain ⟨a_19, c_19, rfl, r_19⟩ := s
          refine gSlice_intro rfl (?_)
          refine ⟨k_3.preLe (k_2).le, ?_⟩
          refine hc_intro (nat_Cmp.hv (r_18.keep (k_3)).rd64 rfl r_19.rd64 rfl) fun v h_4 ⟨k_4, s⟩ => ?_
          obtain ⟨rfl, i_20⟩ := s
          refine gInt_intro rfl (?_)
          refine ⟨k_4.preLe (k_2.trans k_3).le, ?_⟩
          refine ⟨BlkV.addLt b_1 _, ?_⟩
          refine ldV (b_1.keep (k_2.trans (k_3.trans k_4))) rfl ?_
          refine gSlice_intro rfl ?_
          refine ⟨BlkV.addLt b_1 _, ?_⟩
          refine ldV (b_1.keep (k_2.trans (k_3.trans k_4))) rfl ?_
          refine gSlice_intro rfl ?_
          refine hc_intro (gnomonref01_DocCmp.hv (r0_1.keep (k_1.trans (k_2.trans (k_3.trans k_4)))) rfl (r0_2.keep (k_1.trans (k_2.trans (k_3.trans k_4)))) rfl) fun v h_5 ⟨k_5, s⟩ => ?_
          obtain ⟨rfl, i_21⟩ := s
          refine gInt_intro rfl (?_)
          refine ⟨k_5.preLe (k_2.trans (k_3.trans k_4)).le, ?_⟩
          exact g _ _ (k0.trans (k_1.trans (k_2.trans (k_3.trans (k_4.trans k_5))))) rfl
def v (x0_0 : Int) (xs0_1 : List Nat) (xs0_2 : List Nat) (x0_3 : Int) (x0_4 : Int) : Bool := D1.v x0_0 xs0_1 xs0_2 x0_3 x0_4
theorem hv {h : Hp} {x0_0 : Int} (i0_0 : In .i64 x0_0) {a0_1 : Option Addr} {c0_1 l0_1 : Nat} {xs0_1 : List Nat} (r0_1 : Rd h a0_1 c0_1 xs0_1) (e0_1 : l0_1 = xs0_1.length) {a0_2 : Option Addr} {c0_2 l0_2 : Nat} {xs0_2 : List Nat} (r0_2 : Rd h a0_2 c0_2 xs0_2) (e0_2 : l0_2 = xs0_2.length) {x0_3 : Int} (i0_3 : In .i64 x0_3) {x0_4 : Int} (i0_4 : In .u64 x0_4) (tb : Tab h) : HC id #[.agg #[.int .i64 x0_0, .slice a0_1 l0_1 c0_1, .slice a0_2 l0_2 c0_2, .int .i64 x0_3, .int .u64 x0_4]] h fun v_ h_ => Keep h h_ ∧ sBool h h_ v_ (v x0_0 xs0_1 xs0_2 x0_3 x0_4) :=
  ok (D1.hv (Keep.refl _) i0_0 r0_1 e0_1 r0_2 e0_2 i0_3 i0_4 tb fun v h' k s => ⟨k, s⟩)
end gnomonlaw01_asks

namespace gnomonlaw01_awake
def D3.v  : Bool :=
  bif (((((blen (val ([0, 1])) : Nat) : Int))) == (65 : Int)) then
    (((cmpI (val ([2])) (val ([1])))) == (1 : Int))
  else
    false
theorem D3.hv {R : Rt} {h0 h : Hp} (k0 : Keep h0 h)  (g : Post sBool h0 R (D3.v )) : D3.t R  h := by
  unfold D3.v at g
  unfold D3.t
  refine boxE eU64 [0, 1] (by rfl) (by decide) fun h_1 o_14 k_1 => ?_
  have r_14 := o_14.got' (h0 := h) (c := 2) (Nat.le_refl _) (by decide) rfl
  refine hc_intro (nat_Bits.hv r_14.rd64 (by rfl)) fun v h_2 ⟨k_2, s⟩ => ?_
  obtain ⟨rfl, i_15⟩ := s
  refine gInt_intro rfl (?_)
  refine lift_eq g (fun q_16 g => ?_) (fun q_16 g => ?_)
  · refine boxE eU64 [2] (by rfl) (by decide) fun h_3 o_17 k_3 => ?_
    have r_17 := o_17.got' (h0 := h_2) (c := 1) (Nat.le_refl _) (by decide) rfl
    refine boxE eU64 [1] (by rfl) (by decide) fun h_4 o_18 k_4 => ?_
    have r_18 := o_18.got' (h0 := h_3) (c := 1) (Nat.le_refl _) (by decide) rfl
    refine hc_intro (nat_Cmp.hv (r_17.keep (k_4)).rd64 (by rfl) r_18.rd64 (by rfl)) fun v h_5 ⟨k_5, s⟩ => ?_
    obtain ⟨rfl, i_19⟩ := s
    refine gInt_intro rfl (?_)
    exact g _ _ (k0.trans (k_1.trans (k_2.trans (k_3.trans (k_4.trans k_5))))) rfl
  · exact g _ _ (k0.trans (k_1.trans k_2)) rfl
def D2.v (xs1 : List Nat) : Bool :=
  letV (subS xs1 ([1])) fun p_9 =>
  bif (p_9.2 != (0 : Int)) then
    false
  else
    bif (!(decide (p_9.1 = ([18446744073709551615])))) then
      false
    else
      D3.v
theorem D2.hv {R : Rt} {h0 h : Hp} (k0 : Keep h0 h) {a1 : Option Addr} {c1 l1 : Nat} {xs1 : List Nat} (r1 : GotE eU64 h0 h a1 c1 xs1) (e1 : l1 = xs1.length) (g : Post sBool h0 R (D2.v xs1)) : D2.t R a1 l1 c1 h := by
  subst e1
  unfold D2.v at g
  unfold D2.t
  refine boxE eU64 [1] (by rfl) (by decide) fun h_1 o_8 k_1 => ?_
  have r_8 := o_8.got' (h0 := h) (c := 1) (Nat.le_refl _) (by decide) rfl
  refine hc_intro (nat_Sub.hv (r1.keep (k_1)).rd64 rfl r_8.rd64 (by rfl)) fun v h_2 ⟨k_2, s⟩ => ?_
  replace g := lift_let g
  generalize hp_9 : subS xs1 ([1]) = p_9 at s g
  obtain ⟨_, _, rfl, ⟨a_9_0, c_9_0, rfl, r_9_0⟩, ⟨rfl, i_9_1⟩⟩ := s
  refine gTup_intro rfl (uncons_intro (gSlice_intro rfl (uncons_intro (gInt_intro rfl (unnil_intro (?_))))))
  refine lift_ne g (fun q_10 g => ?_) (fun q_10 g => ?_)
  · exact g _ _ (k0.trans (k_1.trans k_2)) rfl
  · refine boxE eU64 [18446744073709551615] (by rfl) (by decide) fun h_3 o_11 k_3 => ?_
    have r_11 := o_11.got' (h0 := h_2) (c := 1) (Nat.le_refl _) (by decide) rfl
    refine hq_intro (gnomonref01_Same.hq (r_9_0.keep (k_3)).rd64 rfl r_11.rd64 (by rfl)) fun v s => ?_
    obtain rfl := s
    refine gBool_intro rfl (?_)
    refine lift_not g (fun q_13 g => ?_) (fun q_13 g => ?_)
    · exact g _ _ (k0.trans (k_1.trans (k_2.trans k_3))) rfl
    · exact D3.hv (k0.trans (k_1.trans (k_2.trans k_3)))  g
def D1.v  : Bool :=
  letV (addS ([18446744073709551615]) ([1])) fun p_3 =>
  bif (p_3.2 != (0 : Int)) then
    false
  else
    bif (!(decide (p_3.1 = ([0, 1])))) then
      false
    else
      D2.v p_3.1
theorem D1.hv {R : Rt} {h0 h : Hp} (k0 : Keep h0 h)  (g : Post sBool h0 R (D1.v )) : D1.t R  h := by
  unfold D1.v at g
  unfold D1.t
  refine boxE eU64 [18446744073709551615] (by rfl) (by decide) fun h_1 o_1 k_1 => ?_
  have r_1 := o_1.got' (h0 := h) (c := 1) (Nat.le_refl _) (by decide) rfl
  refine boxE eU64 [1] (by rfl) (by decide) fun h_2 o_2 k_2 => ?_
  have r_2 := o_2.got' (h0 := h_1) (c := 1) (Nat.le_refl _) (by decide) rfl
  refine hc_intro (nat_Add.hv (r_1.keep (k_2)).rd64 (by rfl) r_2.rd64 (by rfl)) fun v h_3 ⟨k_3, s⟩ => ?_
  replace g := lift_let g
  generalize hp_3 : addS ([18446744073709551615]) ([1]) = p_3 at s g
  obtain ⟨_, _, rfl, ⟨a_3_0, c_3_0, rfl, r_3_0⟩, ⟨rfl, i_3_1⟩⟩ := s
  refine gTup_intro rfl (uncons_intro (gSlice_intro rfl (uncons_intro (gInt_intro rfl (unnil_intro (?_))))))
  refine lift_ne g (fun q_4 g => ?_) (fun q_4 g => ?_)
  · exact g _ _ (k0.trans (k_1.trans (k_2.trans k_3))) rfl
  · refine boxE eU64 [0, 1] (by rfl) (by decide) fun h_4 o_5 k_4 => ?_
    have r_5 := o_5.got' (h0 := h_3) (c := 2) (Nat.le_refl _) (by decide) rfl
    refine hq_intro (gnomonref01_Same.hq (r_3_0.keep (k_4)).rd64 rfl r_5.rd64 (by rfl)) fun v s => ?_
    obtain rfl := s
    refine gBool_intro rfl (?_)
    refine lift_not g (fun q_7 g => ?_) (fun q_7 g => ?_)
    · exact g _ _ (k0.trans (k_1.trans (k_2.trans (k_3.trans k_4)))) rfl
    · exact D2.hv (k0.trans (k_1.trans (k_2.trans (k_3.trans k_4)))) ((r_3_0.from (k0.trans (k_1.trans k_2)).le).keep (k_4)) rfl g
def v  : Bool := D1.v 
theorem hv {h : Hp}  : HC id #[] h fun v_ h_ => Keep h h_ ∧ sBool h h_ v_ (v) :=
  ok (D1.hv (Keep.refl _)  fun v h' k s => ⟨k, s⟩)
end gnomonlaw01_awake

namespace gnomonlaw01_plays
def D1.v (x0_0 : Int) (xs0_1 : List Nat) (xs0_2 : List Nat) (x0_3 : Int) (x0_4 : Int) : Bool :=
  bif (x0_0 == (1 : Int)) then
    letV (gnomonlaw01_asks.v x0_0 xs0_1 xs0_2 x0_3 x0_4) fun p_3 =>
    p_3
  else
    bif (x0_0 == (4 : Int)) then
      letV (gnomonlaw01_asks.v x0_0 xs0_1 xs0_2 x0_3 x0_4) fun p_5 =>
      p_5
    else
      bif (x0_0 == (5 : Int)) then
        letV (gnomonlaw01_asks.v x0_0 xs0_1 xs0_2 x0_3 x0_4) fun p_7 =>
        p_7
      else
        bif (x0_0 == (6 : Int)) then
          letV (gnomonlaw01_asks.v x0_0 xs0_1 xs0_2 x0_3 x0_4) fun p_9 =>
          p_9
        else
          bif (x0_0 == (7 : Int)) then
            letV (gnomonlaw01_asks.v x0_0 xs0_1 xs0_2 x0_3 x0_4) fun p_11 =>
            p_11
          else
            bif (x0_0 == (2 : Int)) then
              letV (gnomonlaw01_list.v (((x0_0, xs0_1, xs0_2, x0_3, x0_4)).1) (((x0_0, xs0_1, xs0_2, x0_3, x0_4)).2.1) (((x0_0, xs0_1, xs0_2, x0_3, x0_4)).2.2.1) (((x0_0, xs0_1, xs0_2, x0_3, x0_4)).2.2.2.1) (((x0_0, xs0_1, xs0_2, x0_3, x0_4)).2.2.2.2)) fun p_14 =>
              letV (gnomonlaw01_doc.v x0_0 xs0_1 xs0_2 x0_3 x0_4) fun p_15 =>
              letV (gnomonlaw01_told.v p_14.1 p_14.2.2 p_15.1 p_15.2.2) fun p_16 =>
              bif p_16 then
                (p_14.2.1 == p_15.2.1)
              else
                false
            else
              bif (x0_0 == (3 : Int)) then
                letV (gnomonlaw01_list.v (((x0_0, xs0_1, xs0_2, x0_3, x0_4)).1) (((x0_0, xs0_1, xs0_2, x0_3, x0_4)).2.1) (((x0_0, xs0_1, xs0_2, x0_3, x0_4)).2.2.1) (((x0_0, xs0_1, xs0_2, x0_3, x0_4)).2.2.2.1) (((x0_0, xs0_1, xs0_2, x0_3, x0_4)).2.2.2.2)) fun p_20 =>
                letV (gnomonlaw01_doc.v x0_0 xs0_1 xs0_2 x0_3 x0_4) fun p_21 =>
                letV (gnomonlaw01_told.v p_20.1 p_20.2.2 p_21.1 p_21.2.2) fun p_22 =>
                bif p_22 then
                  (p_20.2.1 == p_21.2.1)
                else
                  false
              else
                bif (x0_0 == (8 : Int)) then
                  letV (gnomonlaw01_list.v (((x0_0, xs0_1, xs0_2, x0_3, x0_4)).1) (((x0_0, xs0_1, xs0_2, x0_3, x0_4)).2.1) (((x0_0, xs0_1, xs0_2, x0_3, x0_4)).2.2.1) (((x0_0, xs0_1, xs0_2, x0_3, x0_4)).2.2.2.1) (((x0_0, xs0_1, xs0_2, x0_3, x0_4)).2.2.2.2)) fun p_26 =>
                  letV (gnomonlaw01_doc.v x0_0 xs0_1 xs0_2 x0_3 x0_4) fun p_27 =>
                  letV (gnomonlaw01_told.v p_26.1 p_26.2.2 p_27.1 p_27.2.2) fun p_28 =>
                  bif p_28 then
                    (p_26.2.1 == p_27.2.1)
                  else
                    false
                else
                  bif (x0_0 == (9 : Int)) then
                    letV (gnomonlaw01_list.v (((x0_0, xs0_1, xs0_2, x0_3, x0_4)).1) (((x0_0, xs0_1, xs0_2, x0_3, x0_4)).2.1) (((x0_0, xs0_1, xs0_2, x0_3, x0_4)).2.2.1) (((x0_0, xs0_1, xs0_2, x0_3, x0_4)).2.2.2.1) (((x0_0, xs0_1, xs0_2, x0_3, x0_4)).2.2.2.2)) fun p_32 =>
                    letV (gnomonlaw01_doc.v x0_0 xs0_1 xs0_2 x0_3 x0_4) fun p_33 =>
                    letV (gnomonlaw01_told.v p_32.1 p_32.2.2 p_33.1 p_33.2.2) fun p_34 =>
                    bif p_34 then
                      (p_32.2.1 == p_33.2.1)
                    else
                      false
                  else
                    bif (x0_0 == (10 : Int)) then
                      letV (gnomonlaw01_list.v (((x0_0, xs0_1, xs0_2, x0_3, x0_4)).1) (((x0_0, xs0_1, xs0_2, x0_3, x0_4)).2.1) (((x0_0, xs0_1, xs0_2, x0_3, x0_4)).2.2.1) (((x0_0, xs0_1, xs0_2, x0_3, x0_4)).2.2.2.1) (((x0_0, xs0_1, xs0_2, x0_3, x0_4)).2.2.2.2)) fun p_38 =>
                      letV (gnomonlaw01_doc.v x0_0 xs0_1 xs0_2 x0_3 x0_4) fun p_39 =>
                      letV (gnomonlaw01_told.v p_38.1 p_38.2.2 p_39.1 p_39.2.2) fun p_40 =>
                      bif p_40 then
                        (p_38.2.1 == p_39.2.1)
                      else
                        false
                    else
                      bif (x0_0 == (11 : Int)) then
                        letV (gnomonlaw01_list.v (((x0_0, xs0_1, xs0_2, x0_3, x0_4)).1) (((x0_0, xs0_1, xs0_2, x0_3, x0_4)).2.1) (((x0_0, xs0_1, xs0_2, x0_3, x0_4)).2.2.1) (((x0_0, xs0_1, xs0_2, x0_3, x0_4)).2.2.2.1) (((x0_0, xs0_1, xs0_2, x0_3, x0_4)).2.2.2.2)) fun p_44 =>
                        letV (gnomonlaw01_doc.v x0_0 xs0_1 xs0_2 x0_3 x0_4) fun p_45 =>
                        letV (gnomonlaw01_told.v p_44.1 p_44.2.2 p_45.1 p_45.2.2) fun p_46 =>
                        bif p_46 then
                          (p_44.2.1 == p_45.2.1)
                        else
                          false
                      else
                        bif (x0_0 == (12 : Int)) then
                          letV (gnomonlaw01_list.v (((x0_0, xs0_1, xs0_2, x0_3, x0_4)).1) (((x0_0, xs0_1, xs0_2, x0_3, x0_4)).2.1) (((x0_0, xs0_1, xs0_2, x0_3, x0_4)).2.2.1) (((x0_0, xs0_1, xs0_2, x0_3, x0_4)).2.2.2.1) (((x0_0, xs0_1, xs0_2, x0_3, x0_4)).2.2.2.2)) fun p_50 =>
                          letV (gnomonlaw01_doc.v x0_0 xs0_1 xs0_2 x0_3 x0_4) fun p_51 =>
                          letV (gnomonlaw01_told.v p_50.1 p_50.2.2 p_51.1 p_51.2.2) fun p_52 =>
                          bif p_52 then
                            (p_50.2.1 == p_51.2.1)
                          else
                            false
                        else
                          bif (x0_0 == (13 : Int)) then
                            letV (gnomonlaw01_list.v (((x0_0, xs0_1, xs0_2, x0_3, x0_4)).1) (((x0_0, xs0_1, xs0_2, x0_3, x0_4)).2.1) (((x0_0, xs0_1, xs0_2, x0_3, x0_4)).2.2.1) (((x0_0, xs0_1, xs0_2, x0_3, x0_4)).2.2.2.1) (((x0_0, xs0_1, xs0_2, x0_3, x0_4)).2.2.2.2)) fun p_56 =>
                            letV (gnomonlaw01_doc.v x0_0 xs0_1 xs0_2 x0_3 x0_4) fun p_57 =>
                            letV (gnomonlaw01_told.v p_56.1 p_56.2.2 p_57.1 p_57.2.2) fun p_58 =>
                            bif p_58 then
                              (p_56.2.1 == p_57.2.1)
                            else
                              false
                          else
                            bif (x0_0 == (14 : Int)) then
                              letV (gnomonlaw01_list.v (((x0_0, xs0_1, xs0_2, x0_3, x0_4)).1) (((x0_0, xs0_1, xs0_2, x0_3, x0_4)).2.1) (((x0_0, xs0_1, xs0_2, x0_3, x0_4)).2.2.1) (((x0_0, xs0_1, xs0_2, x0_3, x0_4)).2.2.2.1) (((x0_0, xs0_1, xs0_2, x0_3, x0_4)).2.2.2.2)) fun p_62 =>
                              letV (gnomonlaw01_doc.v x0_0 xs0_1 xs0_2 x0_3 x0_4) fun p_63 =>
                              letV (gnomonlaw01_told.v p_62.1 p_62.2.2 p_63.1 p_63.2.2) fun p_64 =>
                              bif p_64 then
                                (p_62.2.1 == p_63.2.1)
                              else
                                false
                            else
                              true
theorem D1.hv {R : Rt} {h0 h : Hp} (k0 : Keep h0 h) {x0_0 : Int} (i0_0 : In .i64 x0_0) {a0_1 : Option Addr} {c0_1 l0_1 : Nat} {xs0_1 : List Nat} (r0_1 : Rd h a0_1 c0_1 xs0_1) (e0_1 : l0_1 = xs0_1.length) {a0_2 : Option Addr} {c0_2 l0_2 : Nat} {xs0_2 : List Nat} (r0_2 : Rd h a0_2 c0_2 xs0_2) (e0_2 : l0_2 = xs0_2.length) {x0_3 : Int} (i0_3 : In .i64 x0_3) {x0_4 : Int} (i0_4 : In .u64 x0_4) (tb : Tab h) (g : Post sBool h0 R (D1.v x0_0 xs0_1 xs0_2 x0_3 x0_4)) : D1.t R x0_0 a0_1 l0_1 c0_1 a0_2 l0_2 c0_2 x0_3 x0_4 h := by
  subst e0_1 e0_2
  unfold D1.v at g
  unfold D1.t
  refine boxV fun h_1 b_1 k_1 => ?_
  refine ldV b_1 rfl ?_
  refine gInt_intro rfl ?_
  refine lift_eq g (fun q_2 g => ?_) (fun q_2 g => ?_)
  · refine ldV b_1 rfl ?_
    refine gInt_intro rfl ?_
    refine ldV b_1 rfl ?_
    refine gSlice_intro rfl ?_
    refine ldV b_1 rfl ?_
    refine gSlice_intro rfl ?_
    refine ldV b_1 rfl ?_
    refine gInt_intro rfl ?_
    refine ldV b_1 rfl ?_
    refine gInt_intro rfl ?_
    refine hc_intro (gnomonlaw01_asks.hv i0_0 (r0_1.keep (k_1)) rfl (r0_2.keep (k_1)) rfl i0_3 i0_4 (tb.keep (k_1))) fun v h_2 ⟨k_2, s⟩ => ?_
    replace g := lift_let g
    generalize hp_3 : gnomonlaw01_asks.v x0_0 xs0_1 xs0_2 x0_3 x0_4 = p_3 at s g
    obtain rfl := s
    refine gBool_intro rfl (?_)
    exact g _ _ (k0.trans (k_1.trans k_2)) rfl
  · refine lift_eq g (fun q_4 g => ?_) (fun q_4 g => ?_)
    · refine ldV b_1 rfl ?_
      refine gInt_intro rfl ?_
      refine ldV b_1 rfl ?_
      refine gSlice_intro rfl ?_
      refine ldV b_1 rfl ?_
      refine gSlice_intro rfl ?_
      refine ldV b_1 rfl ?_
      refine gInt_intro rfl ?_
      refine ldV b_1 rfl ?_
      refine gInt_intro rfl ?_
      refine hc_intro (gnomonlaw01_asks.hv i0_0 (r0_1.keep (k_1)) rfl (r0_2.keep (k_1)) rfl i0_3 i0_4 (tb.keep (k_1))) fun v h_2 ⟨k_2, s⟩ => ?_
      replace g := lift_let g
      generalize hp_5 : gnomonlaw01_asks.v x0_0 xs0_1 xs0_2 x0_3 x0_4 = p_5 at s g
      obtain rfl := s
      refine gBool_intro rfl (?_)
      exact g _ _ (k0.trans (k_1.trans k_2)) rfl
    · refine lift_eq g (fun q_6 g => ?_) (fun q_6 g => ?_)
      · refine ldV b_1 rfl ?_
        refine gInt_intro rfl ?_
        refine ldV b_1 rfl ?_
        refine gSlice_intro rfl ?_
        refine ldV b_1 rfl ?_
        refine gSlice_intro rfl ?_
        refine ldV b_1 rfl ?_
        refine gInt_intro rfl ?_
        refine ldV b_1 rfl ?_
        refine gInt_intro rfl ?_
        refine hc_intro (gnomonlaw01_asks.hv i0_0 (r0_1.keep (k_1)) rfl (r0_2.keep (k_1)) rfl i0_3 i0_4 (tb.keep (k_1))) fun v h_2 ⟨k_2, s⟩ => ?_
        replace g := lift_let g
        generalize hp_7 : gnomonlaw01_asks.v x0_0 xs0_1 xs0_2 x0_3 x0_4 = p_7 at s g
        obtain rfl := s
        refine gBool_intro rfl (?_)
        exact g _ _ (k0.trans (k_1.trans k_2)) rfl
      · refine lift_eq g (fun q_8 g => ?_) (fun q_8 g => ?_)
        · refine ldV b_1 rfl ?_
          refine gInt_intro rfl ?_
          refine ldV b_1 rfl ?_
          refine gSlice_intro rfl ?_
          refine ldV b_1 rfl ?_
          refine gSlice_intro rfl ?_
          refine ldV b_1 rfl ?_
          refine gInt_intro rfl ?_
          refine ldV b_1 rfl ?_
          refine gInt_intro rfl ?_
          refine hc_intro (gnomonlaw01_asks.hv i0_0 (r0_1.keep (k_1)) rfl (r0_2.keep (k_1)) rfl i0_3 i0_4 (tb.keep (k_1))) fun v h_2 ⟨k_2, s⟩ => ?_
          replace g := lift_let g
          generalize hp_9 : gnomonlaw01_asks.v x0_0 xs0_1 xs0_2 x0_3 x0_4 = p_9 at s g
          obtain rfl := s
          refine gBool_intro rfl (?_)
          exact g _ _ (k0.trans (k_1.trans k_2)) rfl
        · refine lift_eq g (fun q_10 g => ?_) (fun q_10 g => ?_)
          · refine ldV b_1 rfl ?_
            refine gInt_intro rfl ?_
            refine ldV b_1 rfl ?_
            refine gSlice_intro rfl ?_
            refine ldV b_1 rfl ?_
            refine gSlice_intro rfl ?_
            refine ldV b_1 rfl ?_
            refine gInt_intro rfl ?_
            refine ldV b_1 rfl ?_
            refine gInt_intro rfl ?_
            refine hc_intro (gnomonlaw01_asks.hv i0_0 (r0_1.keep (k_1)) rfl (r0_2.keep (k_1)) rfl i0_3 i0_4 (tb.keep (k_1))) fun v h_2 ⟨k_2, s⟩ => ?_
            replace g := lift_let g
            generalize hp_11 : gnomonlaw01_asks.v x0_0 xs0_1 xs0_2 x0_3 x0_4 = p_11 at s g
            obtain rfl := s
            refine gBool_intro rfl (?_)
            exact g _ _ (k0.trans (k_1.trans k_2)) rfl
          · refine lift_eq g (fun q_12 g => ?_) (fun q_12 g => ?_)
            · refine ldV b_1 rfl ?_
              refine gInt_intro rfl ?_
              refine ldV b_1 rfl ?_
              refine gSlice_intro rfl ?_
              refine ldV b_1 rfl ?_
              refine gSlice_intro rfl ?_
              refine ldV b_1 rfl ?_
              refine gInt_intro rfl ?_
              refine ldV b_1 rfl ?_
              refine gInt_intro rfl ?_
              refine hc_intro (gnomonlaw01_twin.hv i0_0 (r0_1.keep (k_1)) rfl (r0_2.keep (k_1)) rfl i0_3 i0_4) fun v h_2 ⟨k_2, s⟩ => ?_
              obtain ⟨a_13_1, c_13_1, a_13_2, c_13_2, rfl, i_13_0, r_13_1, r_13_2, i_13_3, i_13_4⟩ := s
              refine gAgg_intro rfl (uncons_intro (gInt_intro rfl (uncons_intro (gSlice_intro rfl (uncons_intro (gSlice_intro rfl (uncons_intro (gInt_intro rfl (uncons_intro (gInt_intro rfl (unnil_intro (?_))))))))))))
              refine hc_intro (gnomonlaw01_list.hv i_13_0 r_13_1.rd64 rfl r_13_2.rd64 rfl i_13_3 i_13_4) fun v h_3 ⟨k_3, s⟩ => ?_
              replace g := lift_let g
              generalize hp_14 : gnomonlaw01_list.v (((x0_0, xs0_1, xs0_2, x0_3, x0_4)).1) (((x0_0, xs0_1, xs0_2, x0_3, x0_4)).2.1) (((x0_0, xs0_1, xs0_2, x0_3, x0_4)).2.2.1) (((x0_0, xs0_1, xs0_2, x0_3, x0_4)).2.2.2.1) (((x0_0, xs0_1, xs0_2, x0_3, x0_4)).2.2.2.2) = p_14 at s g
              obtain ⟨_, _, _, rfl, ⟨a_14_0, c_14_0, rfl, r_14_0⟩, ⟨rfl, i_14_1⟩, ⟨rfl, i_14_2⟩⟩ := s
              refine gTup_intro rfl (uncons_intro (gSlice_intro rfl (uncons_intro (gInt_intro rfl (uncons_intro (gInt_intro rfl (unnil_intro (?_))))))))
              refine ldV (b_1.keep (k_2.trans k_3)) rfl ?_
              refine gInt_intro rfl ?_
              refine ldV (b_1.keep (k_2.trans k_3)) rfl ?_
              refine gSlice_intro rfl ?_
              refine ldV (b_1.keep (k_2.trans k_3)) rfl ?_
              refine gSlice_intro rfl ?_
              refine ldV (b_1.keep (k_2.trans k_3)) rfl ?_
              refine gInt_intro rfl ?_
              refine ldV (b_1.keep (k_2.trans k_3)) rfl ?_
              refine gInt_intro rfl ?_
              refine hc_intro (gnomonlaw01_doc.hv i0_0 (r0_1.keep (k_1.trans (k_2.trans k_3))) rfl (r0_2.keep (k_1.trans (k_2.trans k_3))) rfl i0_3 i0_4) fun v h_4 ⟨k_4, s⟩ => ?_
              replace g := lift_let g
              generalize hp_15 : gnomonlaw01_doc.v x0_0 xs0_1 xs0_2 x0_3 x0_4 = p_15 at s g
              obtain ⟨_, _, _, rfl, ⟨a_15_0, c_15_0, rfl, r_15_0⟩, ⟨rfl, i_15_1⟩, ⟨rfl, i_15_2⟩⟩ := s
              refine gTup_intro rfl (uncons_intro (gSlice_intro rfl (uncons_intro (gInt_intro rfl (uncons_intro (gInt_intro rfl (unnil_intro (?_))))))))
              refine hc_intro (gnomonlaw01_told.hv (r_14_0.keep (k_4)).rd64 rfl i_14_2 r_15_0.rd64 rfl i_15_2) fun v h_5 ⟨k_5, s⟩ => ?_
              replace g := lift_let g
              generalize hp_16 : gnomonlaw01_told.v p_14.1 p_14.2.2 p_15.1 p_15.2.2 = p_16 at s g
              obtain rfl := s
              refine gBool_intro rfl (?_)
              refine lift_bool g (fun q_17 g => ?_) (fun q_17 g => ?_)
              · exact g _ _ (k0.trans (k_1.trans (k_2.trans (k_3.trans (k_4.trans k_5))))) rfl
              · exact g _ _ (k0.trans (k_1.trans (k_2.trans (k_3.trans (k_4.trans k_5))))) rfl
            · refine lift_eq g (fun q_18 g => ?_) (fun q_18 g => ?_)
              · refine ldV b_1 rfl ?_
                refine gInt_intro rfl ?_
                refine ldV b_1 rfl ?_
                refine gSlice_intro rfl ?_
                refine ldV b_1 rfl ?_
                refine gSlice_intro rfl ?_
                refine ldV b_1 rfl ?_
                refine gInt_intro rfl ?_
                refine ldV b_1 rfl ?_
                refine gInt_intro rfl ?_
                refine hc_intro (gnomonlaw01_twin.hv i0_0 (r0_1.keep (k_1)) rfl (r0_2.keep (k_1)) rfl i0_3 i0_4) fun v h_2 ⟨k_2, s⟩ => ?_
                obtain ⟨a_19_1, c_19_1, a_19_2, c_19_2, rfl, i_19_0, r_19_1, r_19_2, i_19_3, i_19_4⟩ := s
                refine gAgg_intro rfl (uncons_intro (gInt_intro rfl (uncons_intro (gSlice_intro rfl (uncons_intro (gSlice_intro rfl (uncons_intro (gInt_intro rfl (uncons_intro (gInt_intro rfl (unnil_intro (?_))))))))))))
                refine hc_intro (gnomonlaw01_list.hv i_19_0 r_19_1.rd64 rfl r_19_2.rd64 rfl i_19_3 i_19_4) fun v h_3 ⟨k_3, s⟩ => ?_
                replace g := lift_let g
                generalize hp_20 : gnomonlaw01_list.v (((x0_0, xs0_1, xs0_2, x0_3, x0_4)).1) (((x0_0, xs0_1, xs0_2, x0_3, x0_4)).2.1) (((x0_0, xs0_1, xs0_2, x0_3, x0_4)).2.2.1) (((x0_0, xs0_1, xs0_2, x0_3, x0_4)).2.2.2.1) (((x0_0, xs0_1, xs0_2, x0_3, x0_4)).2.2.2.2) = p_20 at s g
                obtain ⟨_, _, _, rfl, ⟨a_20_0, c_20_0, rfl, r_20_0⟩, ⟨rfl, i_20_1⟩, ⟨rfl, i_20_2⟩⟩ := s
                refine gTup_intro rfl (uncons_intro (gSlice_intro rfl (uncons_intro (gInt_intro rfl (uncons_intro (gInt_intro rfl (unnil_intro (?_))))))))
                refine ldV (b_1.keep (k_2.trans k_3)) rfl ?_
                refine gInt_intro rfl ?_
                refine ldV (b_1.keep (k_2.trans k_3)) rfl ?_
                refine gSlice_intro rfl ?_
                refine ldV (b_1.keep (k_2.trans k_3)) rfl ?_
                refine gSlice_intro rfl ?_
                refine ldV (b_1.keep (k_2.trans k_3)) rfl ?_
                refine gInt_intro rfl ?_
                refine ldV (b_1.keep (k_2.trans k_3)) rfl ?_
                refine gInt_intro rfl ?_
                refine hc_intro (gnomonlaw01_doc.hv i0_0 (r0_1.keep (k_1.trans (k_2.trans k_3))) rfl (r0_2.keep (k_1.trans (k_2.trans k_3))) rfl i0_3 i0_4) fun v h_4 ⟨k_4, s⟩ => ?_
                replace g := lift_let g
                generalize hp_21 : gnomonlaw01_doc.v x0_0 xs0_1 xs0_2 x0_3 x0_4 = p_21 at s g
                obtain ⟨_, _, _, rfl, ⟨a_21_0, c_21_0, rfl, r_21_0⟩, ⟨rfl, i_21_1⟩, ⟨rfl, i_21_2⟩⟩ := s
                refine gTup_intro rfl (uncons_intro (gSlice_intro rfl (uncons_intro (gInt_intro rfl (uncons_intro (gInt_intro rfl (unnil_intro (?_))))))))
                refine hc_intro (gnomonlaw01_told.hv (r_20_0.keep (k_4)).rd64 rfl i_20_2 r_21_0.rd64 rfl i_21_2) fun v h_5 ⟨k_5, s⟩ => ?_
                replace g := lift_let g
                generalize hp_22 : gnomonlaw01_told.v p_20.1 p_20.2.2 p_21.1 p_21.2.2 = p_22 at s g
                obtain rfl := s
                refine gBool_intro rfl (?_)
                refine lift_bool g (fun q_23 g => ?_) (fun q_23 g => ?_)
                · exact g _ _ (k0.trans (k_1.trans (k_2.trans (k_3.trans (k_4.trans k_5))))) rfl
                · exact g _ _ (k0.trans (k_1.trans (k_2.trans (k_3.trans (k_4.trans k_5))))) rfl
              · refine lift_eq g (fun q_24 g => ?_) (fun q_24 g => ?_)
                · refine ldV b_1 rfl ?_
                  refine gInt_intro rfl ?_
                  refine ldV b_1 rfl ?_
                  refine gSlice_intro rfl ?_
                  refine ldV b_1 rfl ?_
                  refine gSlice_intro rfl ?_
                  refine ldV b_1 rfl ?_
                  refine gInt_intro rfl ?_
                  refine ldV b_1 rfl ?_
                  refine gInt_intro rfl ?_
                  refine hc_intro (gnomonlaw01_twin.hv i0_0 (r0_1.keep (k_1)) rfl (r0_2.keep (k_1)) rfl i0_3 i0_4) fun v h_2 ⟨k_2, s⟩ => ?_
                  obtain ⟨a_25_1, c_25_1, a_25_2, c_25_2, rfl, i_25_0, r_25_1, r_25_2, i_25_3, i_25_4⟩ := s
                  refine gAgg_intro rfl (uncons_intro (gInt_intro rfl (uncons_intro (gSlice_intro rfl (uncons_intro (gSlice_intro rfl (uncons_intro (gInt_intro rfl (uncons_intro (gInt_intro rfl (unnil_intro (?_))))))))))))
                  refine hc_intro (gnomonlaw01_list.hv i_25_0 r_25_1.rd64 rfl r_25_2.rd64 rfl i_25_3 i_25_4) fun v h_3 ⟨k_3, s⟩ => ?_
                  replace g := lift_let g
                  generalize hp_26 : gnomonlaw01_list.v (((x0_0, xs0_1, xs0_2, x0_3, x0_4)).1) (((x0_0, xs0_1, xs0_2, x0_3, x0_4)).2.1) (((x0_0, xs0_1, xs0_2, x0_3, x0_4)).2.2.1) (((x0_0, xs0_1, xs0_2, x0_3, x0_4)).2.2.2.1) (((x0_0, xs0_1, xs0_2, x0_3, x0_4)).2.2.2.2) = p_26 at s g
                  obtain ⟨_, _, _, rfl, ⟨a_26_0, c_26_0, rfl, r_26_0⟩, ⟨rfl, i_26_1⟩, ⟨rfl, i_26_2⟩⟩ := s
                  refine gTup_intro rfl (uncons_intro (gSlice_intro rfl (uncons_intro (gInt_intro rfl (uncons_intro (gInt_intro rfl (unnil_intro (?_))))))))
                  refine ldV (b_1.keep (k_2.trans k_3)) rfl ?_
                  refine gInt_intro rfl ?_
                  refine ldV (b_1.keep (k_2.trans k_3)) rfl ?_
                  refine gSlice_intro rfl ?_
                  refine ldV (b_1.keep (k_2.trans k_3)) rfl ?_
                  refine gSlice_intro rfl ?_
                  refine ldV (b_1.keep (k_2.trans k_3)) rfl ?_
                  refine gInt_intro rfl ?_
                  refine ldV (b_1.keep (k_2.trans k_3)) rfl ?_
                  refine gInt_intro rfl ?_
                  refine hc_intro (gnomonlaw01_doc.hv i0_0 (r0_1.keep (k_1.trans (k_2.trans k_3))) rfl (r0_2.keep (k_1.trans (k_2.trans k_3))) rfl i0_3 i0_4) fun v h_4 ⟨k_4, s⟩ => ?_
                  replace g := lift_let g
                  generalize hp_27 : gnomonlaw01_doc.v x0_0 xs0_1 xs0_2 x0_3 x0_4 = p_27 at s g
                  obtain ⟨_, _, _, rfl, ⟨a_27_0, c_27_0, rfl, r_27_0⟩, ⟨rfl, i_27_1⟩, ⟨rfl, i_27_2⟩⟩ := s
                  refine gTup_intro rfl (uncons_intro (gSlice_intro rfl (uncons_intro (gInt_intro rfl (uncons_intro (gInt_intro rfl (unnil_intro (?_))))))))
                  refine hc_intro (gnomonlaw01_told.hv (r_26_0.keep (k_4)).rd64 rfl i_26_2 r_27_0.rd64 rfl i_27_2) fun v h_5 ⟨k_5, s⟩ => ?_
                  replace g := lift_let g
                  generalize hp_28 : gnomonlaw01_told.v p_26.1 p_26.2.2 p_27.1 p_27.2.2 = p_28 at s g
                  obtain rfl := s
                  refine gBool_intro rfl (?_)
                  refine lift_bool g (fun q_29 g => ?_) (fun q_29 g => ?_)
                  · exact g _ _ (k0.trans (k_1.trans (k_2.trans (k_3.trans (k_4.trans k_5))))) rfl
                  · exact g _ _ (k0.trans (k_1.trans (k_2.trans (k_3.trans (k_4.trans k_5))))) rfl
                · refine lift_eq g (fun q_30 g => ?_) (fun q_30 g => ?_)
                  · refine ldV b_1 rfl ?_
                    refine gInt_intro rfl ?_
                    refine ldV b_1 rfl ?_
                    refine gSlice_intro rfl ?_
                    refine ldV b_1 rfl ?_
                    refine gSlice_intro rfl ?_
                    refine ldV b_1 rfl ?_
                    refine gInt_intro rfl ?_
                    refine ldV b_1 rfl ?_
                    refine gInt_intro rfl ?_
                    refine hc_intro (gnomonlaw01_twin.hv i0_0 (r0_1.keep (k_1)) rfl (r0_2.keep (k_1)) rfl i0_3 i0_4) fun v h_2 ⟨k_2, s⟩ => ?_
                    obtain ⟨a_31_1, c_31_1, a_31_2, c_31_2, rfl, i_31_0, r_31_1, r_31_2, i_31_3, i_31_4⟩ := s
                    refine gAgg_intro rfl (uncons_intro (gInt_intro rfl (uncons_intro (gSlice_intro rfl (uncons_intro (gSlice_intro rfl (uncons_intro (gInt_intro rfl (uncons_intro (gInt_intro rfl (unnil_intro (?_))))))))))))
                    refine hc_intro (gnomonlaw01_list.hv i_31_0 r_31_1.rd64 rfl r_31_2.rd64 rfl i_31_3 i_31_4) fun v h_3 ⟨k_3, s⟩ => ?_
                    replace g := lift_let g
                    generalize hp_32 : gnomonlaw01_list.v (((x0_0, xs0_1, xs0_2, x0_3, x0_4)).1) (((x0_0, xs0_1, xs0_2, x0_3, x0_4)).2.1) (((x0_0, xs0_1, xs0_2, x0_3, x0_4)).2.2.1) (((x0_0, xs0_1, xs0_2, x0_3, x0_4)).2.2.2.1) (((x0_0, xs0_1, xs0_2, x0_3, x0_4)).2.2.2.2) = p_32 at s g
                    obtain ⟨_, _, _, rfl, ⟨a_32_0, c_32_0, rfl, r_32_0⟩, ⟨rfl, i_32_1⟩, ⟨rfl, i_32_2⟩⟩ := s
                    refine gTup_intro rfl (uncons_intro (gSlice_intro rfl (uncons_intro (gInt_intro rfl (uncons_intro (gInt_intro rfl (unnil_intro (?_))))))))
                    refine ldV (b_1.keep (k_2.trans k_3)) rfl ?_
                    refine gInt_intro rfl ?_
                    refine ldV (b_1.keep (k_2.trans k_3)) rfl ?_
                    refine gSlice_intro rfl ?_
                    refine ldV (b_1.keep (k_2.trans k_3)) rfl ?_
                    refine gSlice_intro rfl ?_
                    refine ldV (b_1.keep (k_2.trans k_3)) rfl ?_
                    refine gInt_intro rfl ?_
                    refine ldV (b_1.keep (k_2.trans k_3)) rfl ?_
                    refine gInt_intro rfl ?_
                    refine hc_intro (gnomonlaw01_doc.hv i0_0 (r0_1.keep (k_1.trans (k_2.trans k_3))) rfl (r0_2.keep (k_1.trans (k_2.trans k_3))) rfl i0_3 i0_4) fun v h_4 ⟨k_4, s⟩ => ?_
                    replace g := lift_let g
                    generalize hp_33 : gnomonlaw01_doc.v x0_0 xs0_1 xs0_2 x0_3 x0_4 = p_33 at s g
                    obtain ⟨_, _, _, rfl, ⟨a_33_0, c_33_0, rfl, r_33_0⟩, ⟨rfl, i_33_1⟩, ⟨rfl, i_33_2⟩⟩ := s
                    refine gTup_intro rfl (uncons_intro (gSlice_intro rfl (uncons_intro (gInt_intro rfl (uncons_intro (gInt_intro rfl (unnil_intro (?_))))))))
                    refine hc_intro (gnomonlaw01_told.hv (r_32_0.keep (k_4)).rd64 rfl i_32_2 r_33_0.rd64 rfl i_33_2) fun v h_5 ⟨k_5, s⟩ => ?_
                    replace g := lift_let g
                    generalize hp_34 : gnomonlaw01_told.v p_32.1 p_32.2.2 p_33.1 p_33.2.2 = p_34 at s g
                    obtain rfl := s
                    refine gBool_intro rfl (?_)
                    refine lift_bool g (fun q_35 g => ?_) (fun q_35 g => ?_)
                    · exact g _ _ (k0.trans (k_1.trans (k_2.trans (k_3.trans (k_4.trans k_5))))) rfl
                    · exact g _ _ (k0.trans (k_1.trans (k_2.trans (k_3.trans (k_4.trans k_5))))) rfl
                  · refine lift_eq g (fun q_36 g => ?_) (fun q_36 g => ?_)
                    · refine ldV b_1 rfl ?_
                      refine gInt_intro rfl ?_
                      refine ldV b_1 rfl ?_
                      refine gSlice_intro rfl ?_
                      refine ldV b_1 rfl ?_
                      refine gSlice_intro rfl ?_
                      refine ldV b_1 rfl ?_
                      refine gInt_intro rfl ?_
                      refine ldV b_1 rfl ?_
                      refine gInt_intro rfl ?_
                      refine hc_intro (gnomonlaw01_twin.hv i0_0 (r0_1.keep (k_1)) rfl (r0_2.keep (k_1)) rfl i0_3 i0_4) fun v h_2 ⟨k_2, s⟩ => ?_
                      obtain ⟨a_37_1, c_37_1, a_37_2, c_37_2, rfl, i_37_0, r_37_1, r_37_2, i_37_3, i_37_4⟩ := s
                      refine gAgg_intro rfl (uncons_intro (gInt_intro rfl (uncons_intro (gSlice_intro rfl (uncons_intro (gSlice_intro rfl (uncons_intro (gInt_intro rfl (uncons_intro (gInt_intro rfl (unnil_intro (?_))))))))))))
                      refine hc_intro (gnomonlaw01_list.hv i_37_0 r_37_1.rd64 rfl r_37_2.rd64 rfl i_37_3 i_37_4) fun v h_3 ⟨k_3, s⟩ => ?_
                      replace g := lift_let g
                      generalize hp_38 : gnomonlaw01_list.v (((x0_0, xs0_1, xs0_2, x0_3, x0_4)).1) (((x0_0, xs0_1, xs0_2, x0_3, x0_4)).2.1) (((x0_0, xs0_1, xs0_2, x0_3, x0_4)).2.2.1) (((x0_0, xs0_1, xs0_2, x0_3, x0_4)).2.2.2.1) (((x0_0, xs0_1, xs0_2, x0_3, x0_4)).2.2.2.2) = p_38 at s g
                      obtain ⟨_, _, _, rfl, ⟨a_38_0, c_38_0, rfl, r_38_0⟩, ⟨rfl, i_38_1⟩, ⟨rfl, i_38_2⟩⟩ := s
                      refine gTup_intro rfl (uncons_intro (gSlice_intro rfl (uncons_intro (gInt_intro rfl (uncons_intro (gInt_intro rfl (unnil_intro (?_))))))))
                      refine ldV (b_1.keep (k_2.trans k_3)) rfl ?_
                      refine gInt_intro rfl ?_
                      refine ldV (b_1.keep (k_2.trans k_3)) rfl ?_
                      refine gSlice_intro rfl ?_
                      refine ldV (b_1.keep (k_2.trans k_3)) rfl ?_
                      refine gSlice_intro rfl ?_
                      refine ldV (b_1.keep (k_2.trans k_3)) rfl ?_
                      refine gInt_intro rfl ?_
                      refine ldV (b_1.keep (k_2.trans k_3)) rfl ?_
                      refine gInt_intro rfl ?_
                      refine hc_intro (gnomonlaw01_doc.hv i0_0 (r0_1.keep (k_1.trans (k_2.trans k_3))) rfl (r0_2.keep (k_1.trans (k_2.trans k_3))) rfl i0_3 i0_4) fun v h_4 ⟨k_4, s⟩ => ?_
                      replace g := lift_let g
                      generalize hp_39 : gnomonlaw01_doc.v x0_0 xs0_1 xs0_2 x0_3 x0_4 = p_39 at s g
                      obtain ⟨_, _, _, rfl, ⟨a_39_0, c_39_0, rfl, r_39_0⟩, ⟨rfl, i_39_1⟩, ⟨rfl, i_39_2⟩⟩ := s
                      refine gTup_intro rfl (uncons_intro (gSlice_intro rfl (uncons_intro (gInt_intro rfl (uncons_intro (gInt_intro rfl (unnil_intro (?_))))))))
                      refine hc_intro (gnomonlaw01_told.hv (r_38_0.keep (k_4)).rd64 rfl i_38_2 r_39_0.rd64 rfl i_39_2) fun v h_5 ⟨k_5, s⟩ => ?_
                      replace g := lift_let g
                      generalize hp_40 : gnomonlaw01_told.v p_38.1 p_38.2.2 p_39.1 p_39.2.2 = p_40 at s g
                      obtain rfl := s
                      refine gBool_intro rfl (?_)
                      refine lift_bool g (fun q_41 g => ?_) (fun q_41 g => ?_)
                      · exact g _ _ (k0.trans (k_1.trans (k_2.trans (k_3.trans (k_4.trans k_5))))) rfl
                      · exact g _ _ (k0.trans (k_1.trans (k_2.trans (k_3.trans (k_4.trans k_5))))) rfl
                    · refine lift_eq g (fun q_42 g => ?_) (fun q_42 g => ?_)
                      · refine ldV b_1 rfl ?_
                        refine gInt_intro rfl ?_
                        refine ldV b_1 rfl ?_
                        refine gSlice_intro rfl ?_
                        refine ldV b_1 rfl ?_
                        refine gSlice_intro rfl ?_
                        refine ldV b_1 rfl ?_
                        refine gInt_intro rfl ?_
                        refine ldV b_1 rfl ?_
                        refine gInt_intro rfl ?_
                        refine hc_intro (gnomonlaw01_twin.hv i0_0 (r0_1.keep (k_1)) rfl (r0_2.keep (k_1)) rfl i0_3 i0_4) fun v h_2 ⟨k_2, s⟩ => ?_
                        obtain ⟨a_43_1, c_43_1, a_43_2, c_43_2, rfl, i_43_0, r_43_1, r_43_2, i_43_3, i_43_4⟩ := s
                        refine gAgg_intro rfl (uncons_intro (gInt_intro rfl (uncons_intro (gSlice_intro rfl (uncons_intro (gSlice_intro rfl (uncons_intro (gInt_intro rfl (uncons_intro (gInt_intro rfl (unnil_intro (?_))))))))))))
                        refine hc_intro (gnomonlaw01_list.hv i_43_0 r_43_1.rd64 rfl r_43_2.rd64 rfl i_43_3 i_43_4) fun v h_3 ⟨k_3, s⟩ => ?_
                        replace g := lift_let g
                        generalize hp_44 : gnomonlaw01_list.v (((x0_0, xs0_1, xs0_2, x0_3, x0_4)).1) (((x0_0, xs0_1, xs0_2, x0_3, x0_4)).2.1) (((x0_0, xs0_1, xs0_2, x0_3, x0_4)).2.2.1) (((x0_0, xs0_1, xs0_2, x0_3, x0_4)).2.2.2.1) (((x0_0, xs0_1, xs0_2, x0_3, x0_4)).2.2.2.2) = p_44 at s g
                        obtain ⟨_, _, _, rfl, ⟨a_44_0, c_44_0, rfl, r_44_0⟩, ⟨rfl, i_44_1⟩, ⟨rfl, i_44_2⟩⟩ := s
                        refine gTup_intro rfl (uncons_intro (gSlice_intro rfl (uncons_intro (gInt_intro rfl (uncons_intro (gInt_intro rfl (unnil_intro (?_))))))))
                        refine ldV (b_1.keep (k_2.trans k_3)) rfl ?_
                        refine gInt_intro rfl ?_
                        refine ldV (b_1.keep (k_2.trans k_3)) rfl ?_
                        refine gSlice_intro rfl ?_
                        refine ldV (b_1.keep (k_2.trans k_3)) rfl ?_
                        refine gSlice_intro rfl ?_
                        refine ldV (b_1.keep (k_2.trans k_3)) rfl ?_
                        refine gInt_intro rfl ?_
                        refine ldV (b_1.keep (k_2.trans k_3)) rfl ?_
                        refine gInt_intro rfl ?_
                        refine hc_intro (gnomonlaw01_doc.hv i0_0 (r0_1.keep (k_1.trans (k_2.trans k_3))) rfl (r0_2.keep (k_1.trans (k_2.trans k_3))) rfl i0_3 i0_4) fun v h_4 ⟨k_4, s⟩ => ?_
                        replace g := lift_let g
                        generalize hp_45 : gnomonlaw01_doc.v x0_0 xs0_1 xs0_2 x0_3 x0_4 = p_45 at s g
                        obtain ⟨_, _, _, rfl, ⟨a_45_0, c_45_0, rfl, r_45_0⟩, ⟨rfl, i_45_1⟩, ⟨rfl, i_45_2⟩⟩ := s
                        refine gTup_intro rfl (uncons_intro (gSlice_intro rfl (uncons_intro (gInt_intro rfl (uncons_intro (gInt_intro rfl (unnil_intro (?_))))))))
                        refine hc_intro (gnomonlaw01_told.hv (r_44_0.keep (k_4)).rd64 rfl i_44_2 r_45_0.rd64 rfl i_45_2) fun v h_5 ⟨k_5, s⟩ => ?_
                        replace g := lift_let g
                        generalize hp_46 : gnomonlaw01_told.v p_44.1 p_44.2.2 p_45.1 p_45.2.2 = p_46 at s g
                        obtain rfl := s
                        refine gBool_intro rfl (?_)
                        refine lift_bool g (fun q_47 g => ?_) (fun q_47 g => ?_)
                        · exact g _ _ (k0.trans (k_1.trans (k_2.trans (k_3.trans (k_4.trans k_5))))) rfl
                        · exact g _ _ (k0.trans (k_1.trans (k_2.trans (k_3.trans (k_4.trans k_5))))) rfl
                      · refine lift_eq g (fun q_48 g => ?_) (fun q_48 g => ?_)
                        · refine ldV b_1 rfl ?_
                          refine gInt_intro rfl ?_
                          refine ldV b_1 rfl ?_
                          refine gSlice_intro rfl ?_
                          refine ldV b_1 rfl ?_
                          refine gSlice_intro rfl ?_
                          refine ldV b_1 rfl ?_
                          refine gInt_intro rfl ?_
                          refine ldV b_1 rfl ?_
                          refine gInt_intro rfl ?_
                          refine hc_intro (gnomonlaw01_twin.hv i0_0 (r0_1.keep (k_1)) rfl (r0_2.keep (k_1)) rfl i0_3 i0_4) fun v h_2 ⟨k_2, s⟩ => ?_
                          obtain ⟨a_49_1, c_49_1, a_49_2, c_49_2, rfl, i_49_0, r_49_1, r_49_2, i_49_3, i_49_4⟩ := s
                          refine gAgg_intro rfl (uncons_intro (gInt_intro rfl (uncons_intro (gSlice_intro rfl (uncons_intro (gSlice_intro rfl (uncons_intro (gInt_intro rfl (uncons_intro (gInt_intro rfl (unnil_intro (?_))))))))))))
                          refine hc_intro (gnomonlaw01_list.hv i_49_0 r_49_1.rd64 rfl r_49_2.rd64 rfl i_49_3 i_49_4) fun v h_3 ⟨k_3, s⟩ => ?_
                          replace g := lift_let g
                          generalize hp_50 : gnomonlaw01_list.v (((x0_0, xs0_1, xs0_2, x0_3, x0_4)).1) (((x0_0, xs0_1, xs0_2, x0_3, x0_4)).2.1) (((x0_0, xs0_1, xs0_2, x0_3, x0_4)).2.2.1) (((x0_0, xs0_1, xs0_2, x0_3, x0_4)).2.2.2.1) (((x0_0, xs0_1, xs0_2, x0_3, x0_4)).2.2.2.2) = p_50 at s g
                          obtain ⟨_, _, _, rfl, ⟨a_50_0, c_50_0, rfl, r_50_0⟩, ⟨rfl, i_50_1⟩, ⟨rfl, i_50_2⟩⟩ := s
                          refine gTup_intro rfl (uncons_intro (gSlice_intro rfl (uncons_intro (gInt_intro rfl (uncons_intro (gInt_intro rfl (unnil_intro (?_))))))))
                          refine ldV (b_1.keep (k_2.trans k_3)) rfl ?_
                          refine gInt_intro rfl ?_
                          refine ldV (b_1.keep (k_2.trans k_3)) rfl ?_
                          refine gSlice_intro rfl ?_
                          refine ldV (b_1.keep (k_2.trans k_3)) rfl ?_
                          refine gSlice_intro rfl ?_
                          refine ldV (b_1.keep (k_2.trans k_3)) rfl ?_
                          refine gInt_intro rfl ?_
                          refine ldV (b_1.keep (k_2.trans k_3)) rfl ?_
                          refine gInt_intro rfl ?_
                          refine hc_intro (gnomonlaw01_doc.hv i0_0 (r0_1.keep (k_1.trans (k_2.trans k_3))) rfl (r0_2.keep (k_1.trans (k_2.trans k_3))) rfl i0_3 i0_4) fun v h_4 ⟨k_4, s⟩ => ?_
                          replace g := lift_let g
                          generalize hp_51 : gnomonlaw01_doc.v x0_0 xs0_1 xs0_2 x0_3 x0_4 = p_51 at s g
                          obtain ⟨_, _, _, rfl, ⟨a_51_0, c_51_0, rfl, r_51_0⟩, ⟨rfl, i_51_1⟩, ⟨rfl, i_51_2⟩⟩ := s
                          refine gTup_intro rfl (uncons_intro (gSlice_intro rfl (uncons_intro (gInt_intro rfl (uncons_intro (gInt_intro rfl (unnil_intro (?_))))))))
                          refine hc_intro (gnomonlaw01_told.hv (r_50_0.keep (k_4)).rd64 rfl i_50_2 r_51_0.rd64 rfl i_51_2) fun v h_5 ⟨k_5, s⟩ => ?_
                          replace g := lift_let g
                          generalize hp_52 : gnomonlaw01_told.v p_50.1 p_50.2.2 p_51.1 p_51.2.2 = p_52 at s g
                          obtain rfl := s
                          refine gBool_intro rfl (?_)
                          refine lift_bool g (fun q_53 g => ?_) (fun q_53 g => ?_)
                          · exact g _ _ (k0.trans (k_1.trans (k_2.trans (k_3.trans (k_4.trans k_5))))) rfl
                          · exact g _ _ (k0.trans (k_1.trans (k_2.trans (k_3.trans (k_4.trans k_5))))) rfl
                        · refine lift_eq g (fun q_54 g => ?_) (fun q_54 g => ?_)
                          · refine ldV b_1 rfl ?_
                            refine gInt_intro rfl ?_
                            refine ldV b_1 rfl ?_
                            refine gSlice_intro rfl ?_
                            refine ldV b_1 rfl ?_
                            refine gSlice_intro rfl ?_
                            refine ldV b_1 rfl ?_
                            refine gInt_intro rfl ?_
                            refine ldV b_1 rfl ?_
                            refine gInt_intro rfl ?_
                            refine hc_intro (gnomonlaw01_twin.hv i0_0 (r0_1.keep (k_1)) rfl (r0_2.keep (k_1)) rfl i0_3 i0_4) fun v h_2 ⟨k_2, s⟩ => ?_
                            obtain ⟨a_55_1, c_55_1, a_55_2, c_55_2, rfl, i_55_0, r_55_1, r_55_2, i_55_3, i_55_4⟩ := s
                            refine gAgg_intro rfl (uncons_intro (gInt_intro rfl (uncons_intro (gSlice_intro rfl (uncons_intro (gSlice_intro rfl (uncons_intro (gInt_intro rfl (uncons_intro (gInt_intro rfl (unnil_intro (?_))))))))))))
                            refine hc_intro (gnomonlaw01_list.hv i_55_0 r_55_1.rd64 rfl r_55_2.rd64 rfl i_55_3 i_55_4) fun v h_3 ⟨k_3, s⟩ => ?_
                            replace g := lift_let g
                            generalize hp_56 : gnomonlaw01_list.v (((x0_0, xs0_1, xs0_2, x0_3, x0_4)).1) (((x0_0, xs0_1, xs0_2, x0_3, x0_4)).2.1) (((x0_0, xs0_1, xs0_2, x0_3, x0_4)).2.2.1) (((x0_0, xs0_1, xs0_2, x0_3, x0_4)).2.2.2.1) (((x0_0, xs0_1, xs0_2, x0_3, x0_4)).2.2.2.2) = p_56 at s g
                            obtain ⟨_, _, _, rfl, ⟨a_56_0, c_56_0, rfl, r_56_0⟩, ⟨rfl, i_56_1⟩, ⟨rfl, i_56_2⟩⟩ := s
                            refine gTup_intro rfl (uncons_intro (gSlice_intro rfl (uncons_intro (gInt_intro rfl (uncons_intro (gInt_intro rfl (unnil_intro (?_))))))))
                            refine ldV (b_1.keep (k_2.trans k_3)) rfl ?_
                            refine gInt_intro rfl ?_
                            refine ldV (b_1.keep (k_2.trans k_3)) rfl ?_
                            refine gSlice_intro rfl ?_
                            refine ldV (b_1.keep (k_2.trans k_3)) rfl ?_
                            refine gSlice_intro rfl ?_
                            refine ldV (b_1.keep (k_2.trans k_3)) rfl ?_
                            refine gInt_intro rfl ?_
                            refine ldV (b_1.keep (k_2.trans k_3)) rfl ?_
                            refine gInt_intro rfl ?_
                            refine hc_intro (gnomonlaw01_doc.hv i0_0 (r0_1.keep (k_1.trans (k_2.trans k_3))) rfl (r0_2.keep (k_1.trans (k_2.trans k_3))) rfl i0_3 i0_4) fun v h_4 ⟨k_4, s⟩ => ?_
                            replace g := lift_let g
                            generalize hp_57 : gnomonlaw01_doc.v x0_0 xs0_1 xs0_2 x0_3 x0_4 = p_57 at s g
                            obtain ⟨_, _, _, rfl, ⟨a_57_0, c_57_0, rfl, r_57_0⟩, ⟨rfl, i_57_1⟩, ⟨rfl, i_57_2⟩⟩ := s
                            refine gTup_intro rfl (uncons_intro (gSlice_intro rfl (uncons_intro (gInt_intro rfl (uncons_intro (gInt_intro rfl (unnil_intro (?_))))))))
                            refine hc_intro (gnomonlaw01_told.hv (r_56_0.keep (k_4)).rd64 rfl i_56_2 r_57_0.rd64 rfl i_57_2) fun v h_5 ⟨k_5, s⟩ => ?_
                            replace g := lift_let g
                            generalize hp_58 : gnomonlaw01_told.v p_56.1 p_56.2.2 p_57.1 p_57.2.2 = p_58 at s g
                            obtain rfl := s
                            refine gBool_intro rfl (?_)
                            refine lift_bool g (fun q_59 g => ?_) (fun q_59 g => ?_)
                            · exact g _ _ (k0.trans (k_1.trans (k_2.trans (k_3.trans (k_4.trans k_5))))) rfl
                            · exact g _ _ (k0.trans (k_1.trans (k_2.trans (k_3.trans (k_4.trans k_5))))) rfl
                          · refine lift_eq g (fun q_60 g => ?_) (fun q_60 g => ?_)
                            · refine ldV b_1 rfl ?_
                              refine gInt_intro rfl ?_
                              refine ldV b_1 rfl ?_
                              refine gSlice_intro rfl ?_
                              refine ldV b_1 rfl ?_
                              refine gSlice_intro rfl ?_
                              refine ldV b_1 rfl ?_
                              refine gInt_intro rfl ?_
                              refine ldV b_1 rfl ?_
                              refine gInt_intro rfl ?_
                              refine hc_intro (gnomonlaw01_twin.hv i0_0 (r0_1.keep (k_1)) rfl (r0_2.keep (k_1)) rfl i0_3 i0_4) fun v h_2 ⟨k_2, s⟩ => ?_
                              obtain ⟨a_61_1, c_61_1, a_61_2, c_61_2, rfl, i_61_0, r_61_1, r_61_2, i_61_3, i_61_4⟩ := s
                              refine gAgg_intro rfl (uncons_intro (gInt_intro rfl (uncons_intro (gSlice_intro rfl (uncons_intro (gSlice_intro rfl (uncons_intro (gInt_intro rfl (uncons_intro (gInt_intro rfl (unnil_intro (?_))))))))))))
                              refine hc_intro (gnomonlaw01_list.hv i_61_0 r_61_1.rd64 rfl r_61_2.rd64 rfl i_61_3 i_61_4) fun v h_3 ⟨k_3, s⟩ => ?_
                              replace g := lift_let g
                              generalize hp_62 : gnomonlaw01_list.v (((x0_0, xs0_1, xs0_2, x0_3, x0_4)).1) (((x0_0, xs0_1, xs0_2, x0_3, x0_4)).2.1) (((x0_0, xs0_1, xs0_2, x0_3, x0_4)).2.2.1) (((x0_0, xs0_1, xs0_2, x0_3, x0_4)).2.2.2.1) (((x0_0, xs0_1, xs0_2, x0_3, x0_4)).2.2.2.2) = p_62 at s g
                              obtain ⟨_, _, _, rfl, ⟨a_62_0, c_62_0, rfl, r_62_0⟩, ⟨rfl, i_62_1⟩, ⟨rfl, i_62_2⟩⟩ := s
                              refine gTup_intro rfl (uncons_intro (gSlice_intro rfl (uncons_intro (gInt_intro rfl (uncons_intro (gInt_intro rfl (unnil_intro (?_))))))))
                              refine ldV (b_1.keep (k_2.trans k_3)) rfl ?_
                              refine gInt_intro rfl ?_
                              refine ldV (b_1.keep (k_2.trans k_3)) rfl ?_
                              refine gSlice_intro rfl ?_
                              refine ldV (b_1.keep (k_2.trans k_3)) rfl ?_
                              refine gSlice_intro rfl ?_
                              refine ldV (b_1.keep (k_2.trans k_3)) rfl ?_
                              refine gInt_intro rfl ?_
                              refine ldV (b_1.keep (k_2.trans k_3)) rfl ?_
                              refine gInt_intro rfl ?_
                              refine hc_intro (gnomonlaw01_doc.hv i0_0 (r0_1.keep (k_1.trans (k_2.trans k_3))) rfl (r0_2.keep (k_1.trans (k_2.trans k_3))) rfl i0_3 i0_4) fun v h_4 ⟨k_4, s⟩ => ?_
                              replace g := lift_let g
                              generalize hp_63 : gnomonlaw01_doc.v x0_0 xs0_1 xs0_2 x0_3 x0_4 = p_63 at s g
                              obtain ⟨_, _, _, rfl, ⟨a_63_0, c_63_0, rfl, r_63_0⟩, ⟨rfl, i_63_1⟩, ⟨rfl, i_63_2⟩⟩ := s
                              refine gTup_intro rfl (uncons_intro (gSlice_intro rfl (uncons_intro (gInt_intro rfl (uncons_intro (gInt_intro rfl (unnil_intro (?_))))))))
                              refine hc_intro (gnomonlaw01_told.hv (r_62_0.keep (k_4)).rd64 rfl i_62_2 r_63_0.rd64 rfl i_63_2) fun v h_5 ⟨k_5, s⟩ => ?_
                              replace g := lift_let g
                              generalize hp_64 : gnomonlaw01_told.v p_62.1 p_62.2.2 p_63.1 p_63.2.2 = p_64 at s g
                              obtain rfl := s
                              refine gBool_intro rfl (?_)
                              refine lift_bool g (fun q_65 g => ?_) (fun q_65 g => ?_)
                              · exact g _ _ (k0.trans (k_1.trans (k_2.trans (k_3.trans (k_4.trans k_5))))) rfl
                              · exact g _ _ (k0.trans (k_1.trans (k_2.trans (k_3.trans (k_4.trans k_5))))) rfl
                            · exact g _ _ (k0.trans (k_1)) rfl
def v (x0_0 : Int) (xs0_1 : List Nat) (xs0_2 : List Nat) (x0_3 : Int) (x0_4 : Int) : Bool := D1.v x0_0 xs0_1 xs0_2 x0_3 x0_4
theorem hv {h : Hp} {x0_0 : Int} (i0_0 : In .i64 x0_0) {a0_1 : Option Addr} {c0_1 l0_1 : Nat} {xs0_1 : List Nat} (r0_1 : Rd h a0_1 c0_1 xs0_1) (e0_1 : l0_1 = xs0_1.length) {a0_2 : Option Addr} {c0_2 l0_2 : Nat} {xs0_2 : List Nat} (r0_2 : Rd h a0_2 c0_2 xs0_2) (e0_2 : l0_2 = xs0_2.length) {x0_3 : Int} (i0_3 : In .i64 x0_3) {x0_4 : Int} (i0_4 : In .u64 x0_4) (tb : Tab h) : HC id #[.agg #[.int .i64 x0_0, .slice a0_1 l0_1 c0_1, .slice a0_2 l0_2 c0_2, .int .i64 x0_3, .int .u64 x0_4]] h fun v_ h_ => Keep h h_ ∧ sBool h h_ v_ (v x0_0 xs0_1 xs0_2 x0_3 x0_4) :=
  ok (D1.hv (Keep.refl _) i0_0 r0_1 e0_1 r0_2 e0_2 i0_3 i0_4 tb fun v h' k s => ⟨k, s⟩)
end gnomonlaw01_plays

end Go.Proofs.YtnbpbojcjihboaaDoor.G
