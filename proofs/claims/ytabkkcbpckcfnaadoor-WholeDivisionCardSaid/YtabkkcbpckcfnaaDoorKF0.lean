/- Texts of this work, joined: Fp0. -/
import Derived.Test.YtabkkcbpckcfnaaDoorKE
/- Functions of the translation as predicates over heaps, and that their calls do so. Written by a program of this work. -/
namespace Go.Proofs.YtabkkcbpckcfnaaDoor.G
open Go.Gv
set_option linter.unusedVariables false
set_option maxRecDepth 100000
namespace gnomontop_WholeDivision
noncomputable def C : Code := bodyOf Tryd.f3
def D5.t (R : Rt) (q1 : Addr) (q8 : Addr) (q9 : Addr) (h : Hp) : Prop :=
  q8.block < h.size ∧ ldK h (q8.add 0) fun v57 =>
  gBool v57 fun b_58 =>
  ldK h (q8.add 1) fun v59 =>
  gSlice v59 fun a_60 l_60 c_60 =>
  q9.block < h.size ∧ ldK h (q9.add 0) fun v61 =>
  gBool v61 fun b_62 =>
  ldK h (q9.add 1) fun v63 =>
  gSlice v63 fun a_64 l_64 c_64 =>
  HC gnomontop_quotients.id #[.agg #[.bool b_58, .slice a_60 l_60 c_60], .agg #[.bool b_62, .slice a_64 l_64 c_64]] h fun v65 h66 =>
  gBool v65 fun b_67 =>
  (Pre h.size h h66) ∧ cond b_67 (q8.block < h.size ∧ ldK h66 (q8.add 0) fun v68 =>
  gBool v68 fun b_69 =>
  ldK h66 (q8.add 1) fun v70 =>
  gSlice v70 fun a_71 l_71 c_71 =>
  (q1.add 4).block < h.size ∧ ldK h66 (q1.add 4) fun v72 =>
  gInt .i64 v72 fun x_73 =>
  HC gnomontop_among.id #[.int .i64 x_73, .int .i64 20000] h66 fun v74 h75 =>
  gInt .i64 v74 fun x_76 =>
  (Pre h.size h66 h75) ∧ HC gnomontop_shifts.id #[.agg #[.bool b_69, .slice a_71 l_71 c_71], .int .i64 x_76] h75 fun v77 h78 =>
  gBool v77 fun b_79 =>
  (Pre h.size h75 h78) ∧ R (.bool b_79) h78) (R (.bool false) h66)
def D5.g (R : Rt) (fr : Fr) (h : Hp) : Prop := gPtrS (fr 1) fun q1 => gPtrS (fr 8) fun q8 => gPtrS (fr 9) fun q9 => D5.t R q1 q8 q9 h
theorem D5.ok (R : Rt) (fr : Fr) (h : Hp) (g : D5.g R fr h) : den prog E (cAt C [true, true, true, true, true, true, true, true]) (retQ E [.tmp 2] R) fr h := by
  obtain ⟨q1, e1, g⟩ := gPtrS_elim g
  obtain ⟨q8, e8, g⟩ := gPtrS_elim g
  obtain ⟨q9, e9, g⟩ := gPtrS_elim g
  exact den_enter [(1, .pointer (some q1)), (8, .pointer (some q8)), (9, .pointer (some q9))] ⟨e1, e8, e9, trivial⟩ (by kernel_rfl) g
def D4.t (R : Rt) (q1 : Addr) (a7 : Option Addr) (l7 : Nat) (c7 : Nat) (q8 : Addr) (h : Hp) : Prop :=
  ldK h (q1.add 3) fun v51 =>
  gBool v51 fun b_52 =>
  cond b_52 (boxK h 33 T33.zs fun q53 h54 =>
  stK h54 (q53.add 0) (.bool (decide ((((l7 : Nat) : Int)) > 0))) fun h55 =>
  stK h55 (q53.add 1) (.slice a7 l7 c7) fun h56 =>
  D5.t R q1 q8 q53 h56) (boxK h 33 T33.zs fun q80 h81 =>
  stK h81 (q80.add 0) (.bool false) fun h82 =>
  stK h82 (q80.add 1) (.slice a7 l7 c7) fun h83 =>
  D5.t R q1 q8 q80 h83)
def D4.g (R : Rt) (fr : Fr) (h : Hp) : Prop := gPtrS (fr 1) fun q1 => gSlice (fr 7) fun a7 l7 c7 => gPtrS (fr 8) fun q8 => D4.t R q1 a7 l7 c7 q8 h
theorem D4.ok (R : Rt) (fr : Fr) (h : Hp) (g : D4.g R fr h) : den prog E (cAt C [true, true, true, true, true, true, true]) (retQ E [.tmp 2] R) fr h := by
  obtain ⟨q1, e1, g⟩ := gPtrS_elim g
  obtain ⟨a7, l7, c7, e7, g⟩ := gSlice_elim g
  obtain ⟨q8, e8, g⟩ := gPtrS_elim g
  exact den_cut 1 (r := (cAt C [true, true, true, true, true, true, true, true])) (by kernel_rfl) (D5.ok R) (den_enter [(1, .pointer (some q1)), (7, .slice a7 l7 c7), (8, .pointer (some q8))] ⟨e1, e7, e8, trivial⟩ (by kernel_rfl) g)
def D3.t (R : Rt) (q1 : Addr) (a6 : Option Addr) (l6 : Nat) (c6 : Nat) (a7 : Option Addr) (l7 : Nat) (c7 : Nat) (h : Hp) : Prop :=
  ldK h (q1.add 2) fun v45 =>
  gBool v45 fun b_46 =>
  cond b_46 (boxK h 33 T33.zs fun q47 h48 =>
  stK h48 (q47.add 0) (.bool (decide ((((l6 : Nat) : Int)) > 0))) fun h49 =>
  stK h49 (q47.add 1) (.slice a6 l6 c6) fun h50 =>
  D4.t R q1 a7 l7 c7 q47 h50) (boxK h 33 T33.zs fun q84 h85 =>
  stK h85 (q84.add 0) (.bool false) fun h86 =>
  stK h86 (q84.add 1) (.slice a6 l6 c6) fun h87 =>
  D4.t R q1 a7 l7 c7 q84 h87)
def D3.g (R : Rt) (fr : Fr) (h : Hp) : Prop := gPtrS (fr 1) fun q1 => gSlice (fr 6) fun a6 l6 c6 => gSlice (fr 7) fun a7 l7 c7 => D3.t R q1 a6 l6 c6 a7 l7 c7 h
theorem D3.ok (R : Rt) (fr : Fr) (h : Hp) (g : D3.g R fr h) : den prog E (cAt C [true, true, true, true, true, true]) (retQ E [.tmp 2] R) fr h := by
  obtain ⟨q1, e1, g⟩ := gPtrS_elim g
  obtain ⟨a6, l6, c6, e6, g⟩ := gSlice_elim g
  obtain ⟨a7, l7, c7, e7, g⟩ := gSlice_elim g
  exact den_cut 1 (r := (cAt C [true, true, true, true, true, true, true])) (by kernel_rfl) (D4.ok R) (den_enter [(1, .pointer (some q1)), (6, .slice a6 l6 c6), (7, .slice a7 l7 c7)] ⟨e1, e6, e7, trivial⟩ (by kernel_rfl) g)
def D2.t (R : Rt) (q1 : Addr) (h : Hp) : Prop :=
  ldK h (q1.add 0) fun v26 =>
  gSlice v26 fun a_27 l_27 c_27 =>
  HC gnomontop_natural.id #[.slice a_27 l_27 c_27, .int .i64 250] h fun v28 h29 =>
  gSlice v28 fun a_30 l_30 c_30 =>
  ldK h29 (q1.add 1) fun v31 =>
  gSlice v31 fun a_32 l_32 c_32 =>
  HC gnomontop_natural.id #[.slice a_32 l_32 c_32, .int .i64 250] h29 fun v33 h34 =>
  gSlice v33 fun a_35 l_35 c_35 =>
  HC gnomontop_divides.id #[.slice a_30 l_30 c_30, .slice a_35 l_35 c_35] h34 fun v36 h37 =>
  gBool v36 fun b_38 =>
  cond (!b_38) (R (.bool false) h37) (HC gnomontop_roots.id #[.slice a_30 l_30 c_30] h37 fun v39 h40 =>
  gBool v39 fun b_41 =>
  cond (!b_41) (R (.bool false) h40) (HC gnomontop_digits.id #[.slice a_30 l_30 c_30] h40 fun v42 h43 =>
  gBool v42 fun b_44 =>
  cond (!b_44) (R (.bool false) h43) (D3.t R q1 a_30 l_30 c_30 a_35 l_35 c_35 h43)))
def D2.g (R : Rt) (fr : Fr) (h : Hp) : Prop := gPtrS (fr 1) fun q1 => D2.t R q1 h
theorem D2.ok (R : Rt) (fr : Fr) (h : Hp) (g : D2.g R fr h) : den prog E (cAt C [true, true, true]) (retQ E [.tmp 2] R) fr h := by
  obtain ⟨q1, e1, g⟩ := gPtrS_elim g
  exact den_cut 3 (r := (cAt C [true, true, true, true, true, true])) (by kernel_rfl) (D3.ok R) (den_enter [(1, .pointer (some q1))] ⟨e1, trivial⟩ (by kernel_rfl) g)
def D1.t (R : Rt) (a0_0 : Option Addr) (l0_0 : Nat) (c0_0 : Nat) (a0_1 : Option Addr) (l0_1 : Nat) (c0_1 : Nat) (b0_2 : Bool) (b0_3 : Bool) (x0_4 : Int) (h : Hp) : Prop :=
  boxK h 24 [.slice a0_0 l0_0 c0_0, .slice a0_1 l0_1 c0_1, .bool b0_2, .bool b0_3, .int .i64 x0_4] fun q1 h2 =>
  boxK h2 28 [.int .u64 7] fun q3 h4 =>
  boxK h4 28 [.int .u64 2] fun q5 h6 =>
  HC natdiv_QuoRem.id #[.slice (some q3) 1 1, .slice (some q5) 1 1] h6 fun v7 h8 =>
  gTup v7 fun y9 =>
  uncons y9 fun v10 y10 =>
  gSlice v10 fun a_11 l_11 c_11 =>
  uncons y10 fun v12 y12 =>
  gSlice v12 fun a_13 l_13 c_13 =>
  uncons y12 fun v14 y14 =>
  gInt .i64 v14 fun x_15 =>
  unnil y14 <| cond (x_15 != 0) (R (.bool false) h8) (boxK h8 28 [.int .u64 3] fun q16 h17 =>
  HC gnomontop_same.id #[.slice a_11 l_11 c_11, .slice (some q16) 1 1] h17 fun v18 h19 =>
  gBool v18 fun b_20 =>
  cond (!b_20) (R (.bool false) h19) (boxK h19 28 [.int .u64 1] fun q21 h22 =>
  HC gnomontop_same.id #[.slice a_13 l_13 c_13, .slice (some q21) 1 1] h22 fun v23 h24 =>
  gBool v23 fun b_25 =>
  cond (!b_25) (R (.bool false) h24) (D2.t R q1 h24)))
def D1.g (R : Rt) (fr : Fr) (h : Hp) : Prop := gAgg (fr 0) fun z0 => uncons z0 fun w0_0 z0_0 => gSlice w0_0 fun a0_0 l0_0 c0_0 => uncons z0_0 fun w0_1 z0_1 => gSlice w0_1 fun a0_1 l0_1 c0_1 => uncons z0_1 fun w0_2 z0_2 => gBool w0_2 fun b0_2 => uncons z0_2 fun w0_3 z0_3 => gBool w0_3 fun b0_3 => uncons z0_3 fun w0_4 z0_4 => gInt .i64 w0_4 fun x0_4 => unnil z0_4 <| D1.t R a0_0 l0_0 c0_0 a0_1 l0_1 c0_1 b0_2 b0_3 x0_4 h
theorem D1.ok (R : Rt) (fr : Fr) (h : Hp) (g : D1.g R fr h) : den prog E C (retQ E [.tmp 2] R) fr h := by
  obtain ⟨z0, e0, g0_0⟩ := gAgg_elim' g
  obtain ⟨w0_0, z0_0, rfl, g0_0x⟩ := uncons_elim g0_0
  obtain ⟨a0_0, l0_0, c0_0, rfl, g0_1⟩ := gSlice_elim g0_0x
  obtain ⟨w0_1, z0_1, rfl, g0_1x⟩ := uncons_elim g0_1
  obtain ⟨a0_1, l0_1, c0_1, rfl, g0_2⟩ := gSlice_elim g0_1x
  obtain ⟨w0_2, z0_2, rfl, g0_2x⟩ := uncons_elim g0_2
  obtain ⟨b0_2, rfl, g0_3⟩ := gBool_elim g0_2x
  obtain ⟨w0_3, z0_3, rfl, g0_3x⟩ := uncons_elim g0_3
  obtain ⟨b0_3, rfl, g0_4⟩ := gBool_elim g0_3x
  obtain ⟨w0_4, z0_4, rfl, g0_4x⟩ := uncons_elim g0_4
  obtain ⟨x0_4, rfl, g0_5⟩ := gInt_elim g0_4x
  obtain ⟨rfl, g⟩ := unnil_elim g0_5
  exact den_cut 3 (r := (cAt C [true, true, true])) (by kernel_rfl) (D2.ok R) (den_enter [(0, .agg #[.slice a0_0 l0_0 c0_0, .slice a0_1 l0_1 c0_1, .bool b0_2, .bool b0_3, .int .i64 x0_4])] ⟨e0, trivial⟩ (by kernel_rfl) g)
def t (a0_0 : Option Addr) (l0_0 : Nat) (c0_0 : Nat) (a0_1 : Option Addr) (l0_1 : Nat) (c0_1 : Nat) (b0_2 : Bool) (b0_3 : Bool) (x0_4 : Int) (h : Hp) (R : Rt) : Prop := D1.t R a0_0 l0_0 c0_0 a0_1 l0_1 c0_1 b0_2 b0_3 x0_4 h
theorem ok {a0_0 : Option Addr} {l0_0 : Nat} {c0_0 : Nat} {a0_1 : Option Addr} {l0_1 : Nat} {c0_1 : Nat} {b0_2 : Bool} {b0_3 : Bool} {x0_4 : Int} {h : Hp} {R : Rt} (g : t a0_0 l0_0 c0_0 a0_1 l0_1 c0_1 b0_2 b0_3 x0_4 h R) : HC id #[.agg #[.slice a0_0 l0_0 c0_0, .slice a0_1 l0_1 c0_1, .bool b0_2, .bool b0_3, .int .i64 x0_4]] h R :=
  calls_of_den' envOk (c := C) (rs := [.tmp 2]) Tryd.func3 (by kernel_rfl) (by kernel_rfl) (by kernel_rfl) (args := [.agg #[.slice a0_0 l0_0 c0_0, .slice a0_1 l0_1 c0_1, .bool b0_2, .bool b0_3, .int .i64 x0_4]]) (by kernel_rfl) (D1.ok R _ h (gAgg_intro rfl (uncons_intro (gSlice_intro rfl (uncons_intro (gSlice_intro rfl (uncons_intro (gBool_intro rfl (uncons_intro (gBool_intro rfl (uncons_intro (gInt_intro rfl (unnil_intro (g))))))))))))))
end gnomontop_WholeDivision

namespace natdiv_QuoRem
noncomputable def C : Code := bodyOf Tryd.f4
def D2.t (R : Rt) (a0 : Option Addr) (l0 : Nat) (c0 : Nat) (a1 : Option Addr) (l1 : Nat) (c1 : Nat) (h : Hp) : Prop :=
  cond ((((l1 : Nat) : Int)) == 0) (R (.tuple #[.slice none 0 0, .slice none 0 0, .int .i64 4]) h) (HC nat_Cmp.id #[.slice a0 l0 c0, .slice a1 l1 c1] h fun v7 h8 =>
  gInt .i64 v7 fun x_9 =>
  cond (decide (x_9 < 0)) (HC nat_Norm.id #[.slice a0 l0 c0] h8 fun v10 h11 =>
  gTup v10 fun y12 =>
  uncons y12 fun v13 y13 =>
  gSlice v13 fun a_14 l_14 c_14 =>
  uncons y13 fun v15 y15 =>
  gInt .i64 v15 fun x_16 =>
  unnil y15 <| R (.tuple #[.slice none 0 0, .slice a_14 l_14 c_14, .int .i64 0]) h11) (cond ((((l1 : Nat) : Int)) == 1) (idxK a1 l1 0 1 fun q17 =>
  ldK h8 q17 fun v18 =>
  gInt .u64 v18 fun x_19 =>
  HC nat_DivWord.id #[.slice a0 l0 c0, .int .u64 x_19] h8 fun v20 h21 =>
  gTup v20 fun y22 =>
  uncons y22 fun v23 y23 =>
  gSlice v23 fun a_24 l_24 c_24 =>
  uncons y23 fun v25 y25 =>
  gInt .u64 v25 fun x_26 =>
  uncons y25 fun v27 y27 =>
  gInt .i64 v27 fun x_28 =>
  unnil y27 <| HC nat_Word.id #[.int .u64 x_26] h21 fun v29 h30 =>
  gSlice v29 fun a_31 l_31 c_31 =>
  R (.tuple #[.slice a_24 l_24 c_24, .slice a_31 l_31 c_31, .int .i64 0]) h30) (letK (IntKind.i64.wrap ((((l1 : Nat) : Int)) - 1)) fun n32 =>
  idxK a1 l1 n32 1 fun q33 =>
  ldK h8 q33 fun v34 =>
  gInt .u64 v34 fun x_35 =>
  HC bits_LeadingZeros64.id #[.int .u64 x_35] h8 fun v36 h37 =>
  gInt .i64 v36 fun x_38 =>
  letK (IntKind.i64.wrap ((((l0 : Nat) : Int)) + 1)) fun n39 =>
  HC natdiv_shifted.id #[.slice a0 l0 c0, .int .i64 x_38, .int .i64 n39] h37 fun v40 h41 =>
  gSlice v40 fun a_42 l_42 c_42 =>
  HC natdiv_shifted.id #[.slice a1 l1 c1, .int .i64 x_38, .int .i64 (((l1 : Nat) : Int))] h41 fun v43 h44 =>
  gSlice v43 fun a_45 l_45 c_45 =>
  HC natdiv_long.id #[.slice a_42 l_42 c_42, .slice a_45 l_45 c_45] h44 fun v46 h47 =>
  gSlice v46 fun a_48 l_48 c_48 =>
  slK 1 a_42 l_42 c_42 none (some (.int .i64 (((l_45 : Nat) : Int)))) none fun a_49 l_49 c_49 =>
  HC nat_Norm.id #[.slice a_49 l_49 c_49] h47 fun v50 h51 =>
  gTup v50 fun y52 =>
  uncons y52 fun v53 y53 =>
  gSlice v53 fun a_54 l_54 c_54 =>
  uncons y53 fun v55 y55 =>
  gInt .i64 v55 fun x_56 =>
  unnil y55 <| HC nat_Shr.id #[.slice a_54 l_54 c_54, .int .i64 x_38] h51 fun v57 h58 =>
  gTup v57 fun y59 =>
  uncons y59 fun v60 y60 =>
  gSlice v60 fun a_61 l_61 c_61 =>
  uncons y60 fun v62 y62 =>
  gInt .i64 v62 fun x_63 =>
  unnil y62 <| HC nat_Norm.id #[.slice a_48 l_48 c_48] h58 fun v64 h65 =>
  gTup v64 fun y66 =>
  uncons y66 fun v67 y67 =>
  gSlice v67 fun a_68 l_68 c_68 =>
  uncons y67 fun v69 y69 =>
  gInt .i64 v69 fun x_70 =>
  unnil y69 <| R (.tuple #[.slice a_68 l_68 c_68, .slice a_61 l_61 c_61, .int .i64 0]) h65)))
def D2.g (R : Rt) (fr : Fr) (h : Hp) : Prop := gSlice (fr 0) fun a0 l0 c0 => gSlice (fr 1) fun a1 l1 c1 => D2.t R a0 l0 c0 a1 l1 c1 h
theorem D2.ok (R : Rt) (fr : Fr) (h : Hp) (g : D2.g R fr h) : den prog E (cAt C [true, true]) (retQ E [.tmp 4, .tmp 5, .tmp 6] R) fr h := by
  obtain ⟨a0, l0, c0, e0, g⟩ := gSlice_elim g
  obtain ⟨a1, l1, c1, e1, g⟩ := gSlice_elim g
  exact den_enter [(0, .slice a0 l0 c0), (1, .slice a1 l1 c1)] ⟨e0, e1, trivial⟩ (by kernel_rfl) g
def D1.t (R : Rt) (a0 : Option Addr) (l0 : Nat) (c0 : Nat) (a1 : Option Addr) (l1 : Nat) (c1 : Nat) (h : Hp) : Prop :=
  HC nat_Form.id #[.slice a0 l0 c0] h fun v1 h2 =>
  gBool v1 fun b_3 =>
  cond (!b_3) (R (.tuple #[.slice none 0 0, .slice none 0 0, .int .i64 2]) h2) (HC nat_Form.id #[.slice a1 l1 c1] h2 fun v4 h5 =>
  gBool v4 fun b_6 =>
  cond (!b_6) (R (.tuple #[.slice none 0 0, .slice none 0 0, .int .i64 2]) h5) (D2.t R a0 l0 c0 a1 l1 c1 h5))
def D1.g (R : Rt) (fr : Fr) (h : Hp) : Prop := gSlice (fr 0) fun a0 l0 c0 => gSlice (fr 1) fun a1 l1 c1 => D1.t R a0 l0 c0 a1 l1 c1 h
theorem D1.ok (R : Rt) (fr : Fr) (h : Hp) (g : D1.g R fr h) : den prog E C (retQ E [.tmp 4, .tmp 5, .tmp 6] R) fr h := by
  obtain ⟨a0, l0, c0, e0, g⟩ := gSlice_elim g
  obtain ⟨a1, l1, c1, e1, g⟩ := gSlice_elim g
  exact den_cut 2 (r := (cAt C [true, true])) (by kernel_rfl) (D2.ok R) (den_enter [(0, .slice a0 l0 c0), (1, .slice a1 l1 c1)] ⟨e0, e1, trivial⟩ (by kernel_rfl) g)
def t (a0 : Option Addr) (l0 : Nat) (c0 : Nat) (a1 : Option Addr) (l1 : Nat) (c1 : Nat) (h : Hp) (R : Rt) : Prop := D1.t R a0 l0 c0 a1 l1 c1 h
theorem ok {a0 : Option Addr} {l0 : Nat} {c0 : Nat} {a1 : Option Addr} {l1 : Nat} {c1 : Nat} {h : Hp} {R : Rt} (g : t a0 l0 c0 a1 l1 c1 h R) : HC id #[.slice a0 l0 c0, .slice a1 l1 c1] h R :=
  calls_of_den' envOk (c := C) (rs := [.tmp 4, .tmp 5, .tmp 6]) Tryd.func4 (by kernel_rfl) (by kernel_rfl) (by kernel_rfl) (args := [.slice a0 l0 c0, .slice a1 l1 c1]) (by kernel_rfl) (D1.ok R _ h (gSlice_intro rfl (gSlice_intro rfl (g))))
end natdiv_QuoRem

namespace gnomontop_same
noncomputable def C : Code := bodyOf Tryd.f5
def D2.t (R : Rt)  (h : Hp) : Prop :=
  R (.bool true) h
def D2.g (R : Rt) (fr : Fr) (h : Hp) : Prop := D2.t R  h
theorem D2.ok (R : Rt) (fr : Fr) (h : Hp) (g : D2.g R fr h) : den prog E (cAt C [true, true, true]) (retQ E [.tmp 4] R) fr h := by
  exact den_enter [] trivial (by kernel_rfl) g
def L4.g (N : Option Addr → Nat → Nat → Option Addr → Nat → Nat → Int → Hp → Prop) (fr : Fr) (h : Hp) : Prop := gSlice (fr 0) fun a0 l0 c0 => gSlice (fr 1) fun a1 l1 c1 => gInt .i64 (fr 5) fun x5 => N a0 l0 c0 a1 l1 c1 x5 h
def D5.t (R : Rt) (N4 : Option Addr → Nat → Nat → Option Addr → Nat → Nat → Int → Hp → Prop) (a0 : Option Addr) (l0 : Nat) (c0 : Nat) (a1 : Option Addr) (l1 : Nat) (c1 : Nat) (x5 : Int) (h : Hp) : Prop :=
  cond (decide (x5 < (((l0 : Nat) : Int)))) (idxK a0 l0 x5 1 fun q1 =>
  ldK h q1 fun v2 =>
  gInt .u64 v2 fun x_3 =>
  idxK a1 l1 x5 1 fun q4 =>
  ldK h q4 fun v5 =>
  gInt .u64 v5 fun x_6 =>
  cond (x_3 != x_6) (R (.bool false) h) (letK (IntKind.i64.wrap (x5 + 1)) fun n7 =>
  N4 a0 l0 c0 a1 l1 c1 n7 h)) (D2.t R h)
def D5.g (R : Rt) (N4 : Option Addr → Nat → Nat → Option Addr → Nat → Nat → Int → Hp → Prop) (fr : Fr) (h : Hp) : Prop := gSlice (fr 0) fun a0 l0 c0 => gSlice (fr 1) fun a1 l1 c1 => gInt .i64 (fr 5) fun x5 => D5.t R N4 a0 l0 c0 a1 l1 c1 x5 h
theorem D5.ok (R : Rt) (N4 : Option Addr → Nat → Nat → Option Addr → Nat → Nat → Int → Hp → Prop) (fr : Fr) (h : Hp) (g : D5.g R N4 fr h) : den prog E (cAt C [true, true, false, true, false, false]) (Ex.then (L4.g N4) (Ex.inBlock 0 (Ex.then (D2.g R) (retQ E [.tmp 4] R)))) fr h := by
  obtain ⟨a0, l0, c0, e0, g⟩ := gSlice_elim g
  obtain ⟨a1, l1, c1, e1, g⟩ := gSlice_elim g
  obtain ⟨x5, e5, g⟩ := gInt_elim g
  exact den_enter [(0, .slice a0 l0 c0), (1, .slice a1 l1 c1), (5, .int .i64 x5)] ⟨e0, e1, e5, trivial⟩ (by kernel_rfl) g
def L4.t (R : Rt) : Nat → Option Addr → Nat → Nat → Option Addr → Nat → Nat → Int → Hp → Prop
  | 0 => fun _ _ _ _ _ _ _ _ => False
  | n + 1 => fun a0 l0 c0 a1 l1 c1 x5 h => D5.t R (L4.t R n) a0 l0 c0 a1 l1 c1 x5 h
theorem L4.ok (R : Rt) (fr : Fr) (h : Hp) (g : L4.g (fun a0 l0 c0 a1 l1 c1 x5 h => ∃ n, L4.t R n a0 l0 c0 a1 l1 c1 x5 h) fr h) : den prog E (cAt C [true, true, false, true, false]) (Ex.inBlock 0 (Ex.then (D2.g R) (retQ E [.tmp 4] R))) fr h := by
  obtain ⟨a0, l0, c0, e0, g⟩ := gSlice_elim g
  obtain ⟨a1, l1, c1, e1, g⟩ := gSlice_elim g
  obtain ⟨x5, e5, g⟩ := gInt_elim g
  obtain ⟨n, g⟩ := g
  refine loop_ok (fun n => L4.g (L4.t R n)) (b := (cAt C [true, true, false, true, false, false])) (by kernel_rfl) (fun fr h g => ?_) (fun n => D5.ok R (L4.t R n)) n fr h (gSlice_intro e0 (gSlice_intro e1 (gInt_intro e5 (g))))
  obtain ⟨a0, l0, c0, e0, g⟩ := gSlice_elim g
  obtain ⟨a1, l1, c1, e1, g⟩ := gSlice_elim g
  obtain ⟨x5, e5, g⟩ := gInt_elim g
  exact g
theorem B6.ok (R : Rt) (fr : Fr) (h : Hp) (g : L4.g (fun a0 l0 c0 a1 l1 c1 x5 h => ∃ n, L4.t R n a0 l0 c0 a1 l1 c1 x5 h) fr h) : den prog E (cAt C [true, true, false, true]) (Ex.then (D2.g R) (retQ E [.tmp 4] R)) fr h :=
  den_block (by kernel_rfl) (L4.ok R fr h g)
def D3.t (R : Rt) (a0 : Option Addr) (l0 : Nat) (c0 : Nat) (a1 : Option Addr) (l1 : Nat) (c1 : Nat) (h : Hp) : Prop :=
  (∃ n, L4.t R n a0 l0 c0 a1 l1 c1 0 h)
def D3.g (R : Rt) (fr : Fr) (h : Hp) : Prop := gSlice (fr 0) fun a0 l0 c0 => gSlice (fr 1) fun a1 l1 c1 => D3.t R a0 l0 c0 a1 l1 c1 h
theorem D3.ok (R : Rt) (fr : Fr) (h : Hp) (g : D3.g R fr h) : den prog E (cAt C [true, true, false]) (Ex.then (D2.g R) (retQ E [.tmp 4] R)) fr h := by
  obtain ⟨a0, l0, c0, e0, g⟩ := gSlice_elim g
  obtain ⟨a1, l1, c1, e1, g⟩ := gSlice_elim g
  exact den_cut 1 (r := (cAt C [true, true, false, true])) (by kernel_rfl) (B6.ok R) (den_enter [(0, .slice a0 l0 c0), (1, .slice a1 l1 c1)] ⟨e0, e1, trivial⟩ (by kernel_rfl) g)
theorem W7.ok (R : Rt) (fr : Fr) (h : Hp) (g : D3.g R fr h) : den prog E (cAt C [true, true]) (retQ E [.tmp 4] R) fr h :=
  den_then (by kernel_rfl) (D2.ok R) (D3.ok R fr h g)
def D1.t (R : Rt) (a0 : Option Addr) (l0 : Nat) (c0 : Nat) (a1 : Option Addr) (l1 : Nat) (c1 : Nat) (h : Hp) : Prop :=
  cond ((((l0 : Nat) : Int)) != (((l1 : Nat) : Int))) (R (.bool false) h) (D3.t R a0 l0 c0 a1 l1 c1 h)
def D1.g (R : Rt) (fr : Fr) (h : Hp) : Prop := gSlice (fr 0) fun a0 l0 c0 => gSlice (fr 1) fun a1 l1 c1 => D1.t R a0 l0 c0 a1 l1 c1 h
theorem D1.ok (R : Rt) (fr : Fr) (h : Hp) (g : D1.g R fr h) : den prog E C (retQ E [.tmp 4] R) fr h := by
  obtain ⟨a0, l0, c0, e0, g⟩ := gSlice_elim g
  obtain ⟨a1, l1, c1, e1, g⟩ := gSlice_elim g
  exact den_cut 2 (r := (cAt C [true, true])) (by kernel_rfl) (W7.ok R) (den_enter [(0, .slice a0 l0 c0), (1, .slice a1 l1 c1)] ⟨e0, e1, trivial⟩ (by kernel_rfl) g)
def t (a0 : Option Addr) (l0 : Nat) (c0 : Nat) (a1 : Option Addr) (l1 : Nat) (c1 : Nat) (h : Hp) (R : Rt) : Prop := D1.t R a0 l0 c0 a1 l1 c1 h
theorem ok {a0 : Option Addr} {l0 : Nat} {c0 : Nat} {a1 : Option Addr} {l1 : Nat} {c1 : Nat} {h : Hp} {R : Rt} (g : t a0 l0 c0 a1 l1 c1 h R) : HC id #[.slice a0 l0 c0, .slice a1 l1 c1] h R :=
  calls_of_den' envOk (c := C) (rs := [.tmp 4]) Tryd.func5 (by kernel_rfl) (by kernel_rfl) (by kernel_rfl) (args := [.slice a0 l0 c0, .slice a1 l1 c1]) (by kernel_rfl) (D1.ok R _ h (gSlice_intro rfl (gSlice_intro rfl (g))))
end gnomontop_same

namespace gnomontop_natural
noncomputable def C : Code := bodyOf Tryd.f6
def D2.t (R : Rt) (a0 : Option Addr) (l0 : Nat) (c0 : Nat) (x5 : Int) (h : Hp) : Prop :=
  slK 1 a0 l0 c0 none (some (.int .i64 x5)) none fun a_1 l_1 c_1 =>
  HC gnomonref01_From.id #[.slice a_1 l_1 c_1] h fun v2 h3 =>
  gSlice v2 fun a_4 l_4 c_4 =>
  HC gnomonref01_To.id #[.slice a_4 l_4 c_4] h3 fun v5 h6 =>
  gSlice v5 fun a_7 l_7 c_7 =>
  R (.slice a_7 l_7 c_7) h6
def D2.g (R : Rt) (fr : Fr) (h : Hp) : Prop := gSlice (fr 0) fun a0 l0 c0 => gInt .i64 (fr 5) fun x5 => D2.t R a0 l0 c0 x5 h
theorem D2.ok (R : Rt) (fr : Fr) (h : Hp) (g : D2.g R fr h) : den prog E (cAt C [true, true, true]) (retQ E [.tmp 4] R) fr h := by
  obtain ⟨a0, l0, c0, e0, g⟩ := gSlice_elim g
  obtain ⟨x5, e5, g⟩ := gInt_elim g
  exact den_enter [(0, .slice a0 l0 c0), (5, .int .i64 x5)] ⟨e0, e5, trivial⟩ (by kernel_rfl) g
def D1.t (R : Rt) (a0 : Option Addr) (l0 : Nat) (c0 : Nat) (x1 : Int) (h : Hp) : Prop :=
  cond (decide ((((l0 : Nat) : Int)) > x1)) (D2.t R a0 l0 c0 x1 h) (D2.t R a0 l0 c0 (((l0 : Nat) : Int)) h)
def D1.g (R : Rt) (fr : Fr) (h : Hp) : Prop := gSlice (fr 0) fun a0 l0 c0 => gInt .i64 (fr 1) fun x1 => D1.t R a0 l0 c0 x1 h
theorem D1.ok (R : Rt) (fr : Fr) (h : Hp) (g : D1.g R fr h) : den prog E C (retQ E [.tmp 4] R) fr h := by
  obtain ⟨a0, l0, c0, e0, g⟩ := gSlice_elim g
  obtain ⟨x1, e1, g⟩ := gInt_elim g
  exact den_cut 3 (r := (cAt C [true, true, true])) (by kernel_rfl) (D2.ok R) (den_enter [(0, .slice a0 l0 c0), (1, .int .i64 x1)] ⟨e0, e1, trivial⟩ (by kernel_rfl) g)
def t (a0 : Option Addr) (l0 : Nat) (c0 : Nat) (x1 : Int) (h : Hp) (R : Rt) : Prop := D1.t R a0 l0 c0 x1 h
theorem ok {a0 : Option Addr} {l0 : Nat} {c0 : Nat} {x1 : Int} {h : Hp} {R : Rt} (g : t a0 l0 c0 x1 h R) : HC id #[.slice a0 l0 c0, .int .i64 x1] h R :=
  calls_of_den' envOk (c := C) (rs := [.tmp 4]) Tryd.func6 (by kernel_rfl) (by kernel_rfl) (by kernel_rfl) (args := [.slice a0 l0 c0, .int .i64 x1]) (by kernel_rfl) (D1.ok R _ h (gSlice_intro rfl (gInt_intro rfl (g))))
end gnomontop_natural

namespace gnomontop_divides
noncomputable def C : Code := bodyOf Tryd.f7
def D2.t (R : Rt) (a0 : Option Addr) (l0 : Nat) (c0 : Nat) (a1 : Option Addr) (l1 : Nat) (c1 : Nat) (h : Hp) : Prop :=
  HC natmul_Mul.id #[.slice a0 l0 c0, .slice a1 l1 c1] h fun v30 h31 =>
  gTup v30 fun y32 =>
  uncons y32 fun v33 y33 =>
  gSlice v33 fun a_34 l_34 c_34 =>
  uncons y33 fun v35 y35 =>
  gInt .i64 v35 fun x_36 =>
  unnil y35 <| HC natdiv_QuoRem.id #[.slice a_34 l_34 c_34, .slice a1 l1 c1] h31 fun v37 h38 =>
  gTup v37 fun y39 =>
  uncons y39 fun v40 y40 =>
  gSlice v40 fun a_41 l_41 c_41 =>
  uncons y40 fun v42 y42 =>
  gSlice v42 fun a_43 l_43 c_43 =>
  uncons y42 fun v44 y44 =>
  gInt .i64 v44 fun x_45 =>
  unnil y44 <| cond (x_36 == 0) (cond (x_45 == 0) (HC gnomontop_same.id #[.slice a_41 l_41 c_41, .slice a0 l0 c0] h38 fun v46 h47 =>
  gBool v46 fun b_48 =>
  cond b_48 (R (.bool ((((l_43 : Nat) : Int)) == 0)) h47) (R (.bool false) h47)) (R (.bool false) h38)) (R (.bool false) h38)
def D2.g (R : Rt) (fr : Fr) (h : Hp) : Prop := gSlice (fr 0) fun a0 l0 c0 => gSlice (fr 1) fun a1 l1 c1 => D2.t R a0 l0 c0 a1 l1 c1 h
theorem D2.ok (R : Rt) (fr : Fr) (h : Hp) (g : D2.g R fr h) : den prog E (cAt C [true, true, true, true, true, true]) (retQ E [.tmp 4] R) fr h := by
  obtain ⟨a0, l0, c0, e0, g⟩ := gSlice_elim g
  obtain ⟨a1, l1, c1, e1, g⟩ := gSlice_elim g
  exact den_enter [(0, .slice a0 l0 c0), (1, .slice a1 l1 c1)] ⟨e0, e1, trivial⟩ (by kernel_rfl) g
def D1.t (R : Rt) (a0 : Option Addr) (l0 : Nat) (c0 : Nat) (a1 : Option Addr) (l1 : Nat) (c1 : Nat) (h : Hp) : Prop :=
  HC natdiv_QuoRem.id #[.slice a0 l0 c0, .slice a1 l1 c1] h fun v1 h2 =>
  gTup v1 fun y3 =>
  uncons y3 fun v4 y4 =>
  gSlice v4 fun a_5 l_5 c_5 =>
  uncons y4 fun v6 y6 =>
  gSlice v6 fun a_7 l_7 c_7 =>
  uncons y6 fun v8 y8 =>
  gInt .i64 v8 fun x_9 =>
  unnil y8 <| cond ((((l1 : Nat) : Int)) == 0) (R (.bool (x_9 == 4)) h2) (HC natmul_Mul.id #[.slice a_5 l_5 c_5, .slice a1 l1 c1] h2 fun v10 h11 =>
  gTup v10 fun y12 =>
  uncons y12 fun v13 y13 =>
  gSlice v13 fun a_14 l_14 c_14 =>
  uncons y13 fun v15 y15 =>
  gInt .i64 v15 fun x_16 =>
  unnil y15 <| HC nat_Add.id #[.slice a_14 l_14 c_14, .slice a_7 l_7 c_7] h11 fun v17 h18 =>
  gTup v17 fun y19 =>
  uncons y19 fun v20 y20 =>
  gSlice v20 fun a_21 l_21 c_21 =>
  uncons y20 fun v22 y22 =>
  gInt .i64 v22 fun x_23 =>
  unnil y22 <| cond (x_9 != 0) (R (.bool false) h18) (cond (x_16 != 0) (R (.bool false) h18) (cond (x_23 != 0) (R (.bool false) h18) (HC gnomontop_same.id #[.slice a_21 l_21 c_21, .slice a0 l0 c0] h18 fun v24 h25 =>
  gBool v24 fun b_26 =>
  cond (!b_26) (R (.bool false) h25) (HC nat_Cmp.id #[.slice a_7 l_7 c_7, .slice a1 l1 c1] h25 fun v27 h28 =>
  gInt .i64 v27 fun x_29 =>
  cond (decide (x_29 ≥ 0)) (R (.bool false) h28) (D2.t R a0 l0 c0 a1 l1 c1 h28))))))
def D1.g (R : Rt) (fr : Fr) (h : Hp) : Prop := gSlice (fr 0) fun a0 l0 c0 => gSlice (fr 1) fun a1 l1 c1 => D1.t R a0 l0 c0 a1 l1 c1 h
theorem D1.ok (R : Rt) (fr : Fr) (h : Hp) (g : D1.g R fr h) : den prog E C (retQ E [.tmp 4] R) fr h := by
  obtain ⟨a0, l0, c0, e0, g⟩ := gSlice_elim g
  obtain ⟨a1, l1, c1, e1, g⟩ := gSlice_elim g
  exact den_cut 6 (r := (cAt C [true, true, true, true, true, true])) (by kernel_rfl) (D2.ok R) (den_enter [(0, .slice a0 l0 c0), (1, .slice a1 l1 c1)] ⟨e0, e1, trivial⟩ (by kernel_rfl) g)
def t (a0 : Option Addr) (l0 : Nat) (c0 : Nat) (a1 : Option Addr) (l1 : Nat) (c1 : Nat) (h : Hp) (R : Rt) : Prop := D1.t R a0 l0 c0 a1 l1 c1 h
theorem ok {a0 : Option Addr} {l0 : Nat} {c0 : Nat} {a1 : Option Addr} {l1 : Nat} {c1 : Nat} {h : Hp} {R : Rt} (g : t a0 l0 c0 a1 l1 c1 h R) : HC id #[.slice a0 l0 c0, .slice a1 l1 c1] h R :=
  calls_of_den' envOk (c := C) (rs := [.tmp 4]) Tryd.func7 (by kernel_rfl) (by kernel_rfl) (by kernel_rfl) (args := [.slice a0 l0 c0, .slice a1 l1 c1]) (by kernel_rfl) (D1.ok R _ h (gSlice_intro rfl (gSlice_intro rfl (g))))
end gnomontop_divides

namespace gnomontop_roots
noncomputable def C : Code := bodyOf Tryd.f8
def D1.t (R : Rt) (a0 : Option Addr) (l0 : Nat) (c0 : Nat) (h : Hp) : Prop :=
  HC natdiv_Root.id #[.slice a0 l0 c0] h fun v1 h2 =>
  gTup v1 fun y3 =>
  uncons y3 fun v4 y4 =>
  gSlice v4 fun a_5 l_5 c_5 =>
  uncons y4 fun v6 y6 =>
  gSlice v6 fun a_7 l_7 c_7 =>
  uncons y6 fun v8 y8 =>
  gInt .i64 v8 fun x_9 =>
  unnil y8 <| HC natmul_Sqr.id #[.slice a_5 l_5 c_5] h2 fun v10 h11 =>
  gTup v10 fun y12 =>
  uncons y12 fun v13 y13 =>
  gSlice v13 fun a_14 l_14 c_14 =>
  uncons y13 fun v15 y15 =>
  gInt .i64 v15 fun x_16 =>
  unnil y15 <| HC nat_Add.id #[.slice a_14 l_14 c_14, .slice a_7 l_7 c_7] h11 fun v17 h18 =>
  gTup v17 fun y19 =>
  uncons y19 fun v20 y20 =>
  gSlice v20 fun a_21 l_21 c_21 =>
  uncons y20 fun v22 y22 =>
  gInt .i64 v22 fun x_23 =>
  unnil y22 <| HC nat_MulWord.id #[.slice a_5 l_5 c_5, .int .u64 2] h18 fun v24 h25 =>
  gTup v24 fun y26 =>
  uncons y26 fun v27 y27 =>
  gSlice v27 fun a_28 l_28 c_28 =>
  uncons y27 fun v29 y29 =>
  gInt .i64 v29 fun x_30 =>
  unnil y29 <| cond (x_9 == 0) (cond (x_16 == 0) (cond (x_23 == 0) (cond (x_30 == 0) (HC gnomontop_same.id #[.slice a_21 l_21 c_21, .slice a0 l0 c0] h25 fun v31 h32 =>
  gBool v31 fun b_33 =>
  cond b_33 (HC nat_Cmp.id #[.slice a_7 l_7 c_7, .slice a_28 l_28 c_28] h32 fun v34 h35 =>
  gInt .i64 v34 fun x_36 =>
  R (.bool (decide (x_36 ≤ 0))) h35) (R (.bool false) h32)) (R (.bool false) h25)) (R (.bool false) h25)) (R (.bool false) h25)) (R (.bool false) h25)
def D1.g (R : Rt) (fr : Fr) (h : Hp) : Prop := gSlice (fr 0) fun a0 l0 c0 => D1.t R a0 l0 c0 h
theorem D1.ok (R : Rt) (fr : Fr) (h : Hp) (g : D1.g R fr h) : den prog E C (retQ E [.tmp 2] R) fr h := by
  obtain ⟨a0, l0, c0, e0, g⟩ := gSlice_elim g
  exact den_enter [(0, .slice a0 l0 c0)] ⟨e0, trivial⟩ (by kernel_rfl) g
def t (a0 : Option Addr) (l0 : Nat) (c0 : Nat) (h : Hp) (R : Rt) : Prop := D1.t R a0 l0 c0 h
theorem ok {a0 : Option Addr} {l0 : Nat} {c0 : Nat} {h : Hp} {R : Rt} (g : t a0 l0 c0 h R) : HC id #[.slice a0 l0 c0] h R :=
  calls_of_den' envOk (c := C) (rs := [.tmp 2]) Tryd.func8 (by kernel_rfl) (by kernel_rfl) (by kernel_rfl) (args := [.slice a0 l0 c0]) (by kernel_rfl) (D1.ok R _ h (gSlice_intro rfl (g)))
end gnomontop_roots

namespace gnomontop_digits
noncomputable def C : Code := bodyOf Tryd.f9
def D1.t (R : Rt) (a0 : Option Addr) (l0 : Nat) (c0 : Nat) (h : Hp) : Prop :=
  HC natdiv_Text.id #[.slice a0 l0 c0] h fun v1 h2 =>
  gTup v1 fun y3 =>
  uncons y3 fun v4 y4 =>
  gStr v4 fun s_5 =>
  uncons y4 fun v6 y6 =>
  gInt .i64 v6 fun x_7 =>
  unnil y6 <| HC nat_Bits.id #[.slice a0 l0 c0] h2 fun v8 h9 =>
  gInt .i64 v8 fun x_10 =>
  cond (decide (x_10 > 16000)) (R (.bool true) h9) (HC natdiv_Read.id #[.string s_5] h9 fun v11 h12 =>
  gTup v11 fun y13 =>
  uncons y13 fun v14 y14 =>
  gSlice v14 fun a_15 l_15 c_15 =>
  uncons y14 fun v16 y16 =>
  gInt .i64 v16 fun x_17 =>
  unnil y16 <| ((((⟨#[48, 48]⟩ : ByteArray).size + s_5.size : Nat) : Int) ≤ 9223372036854775807) ∧ HC natdiv_Read.id #[.string ((⟨#[48, 48]⟩ : ByteArray) ++ s_5)] h12 fun v18 h19 =>
  gTup v18 fun y20 =>
  uncons y20 fun v21 y21 =>
  gSlice v21 fun a_22 l_22 c_22 =>
  uncons y21 fun v23 y23 =>
  gInt .i64 v23 fun x_24 =>
  unnil y23 <| cond (x_7 == 0) (cond (x_17 == 0) (cond (x_24 == 0) (cond (!(s_5.toList == (⟨#[]⟩ : ByteArray).toList)) (HC gnomontop_same.id #[.slice a_15 l_15 c_15, .slice a0 l0 c0] h19 fun v25 h26 =>
  gBool v25 fun b_27 =>
  cond b_27 (HC gnomontop_same.id #[.slice a_22 l_22 c_22, .slice a0 l0 c0] h26 fun v28 h29 =>
  gBool v28 fun b_30 =>
  R (.bool b_30) h29) (R (.bool false) h26)) (R (.bool false) h19)) (R (.bool false) h19)) (R (.bool false) h19)) (R (.bool false) h19))
def D1.g (R : Rt) (fr : Fr) (h : Hp) : Prop := gSlice (fr 0) fun a0 l0 c0 => D1.t R a0 l0 c0 h
theorem D1.ok (R : Rt) (fr : Fr) (h : Hp) (g : D1.g R fr h) : den prog E C (retQ E [.tmp 2] R) fr h := by
  obtain ⟨a0, l0, c0, e0, g⟩ := gSlice_elim g
  exact den_enter [(0, .slice a0 l0 c0)] ⟨e0, trivial⟩ (by kernel_rfl) g
def t (a0 : Option Addr) (l0 : Nat) (c0 : Nat) (h : Hp) (R : Rt) : Prop := D1.t R a0 l0 c0 h
theorem ok {a0 : Option Addr} {l0 : Nat} {c0 : Nat} {h : Hp} {R : Rt} (g : t a0 l0 c0 h R) : HC id #[.slice a0 l0 c0] h R :=
  calls_of_den' envOk (c := C) (rs := [.tmp 2]) Tryd.func9 (by kernel_rfl) (by kernel_rfl) (by kernel_rfl) (args := [.slice a0 l0 c0]) (by kernel_rfl) (D1.ok R _ h (gSlice_intro rfl (g)))
end gnomontop_digits

namespace gnomontop_quotients
noncomputable def C : Code := bodyOf Tryd.f10
def D6.t (R : Rt) (q3 : Addr) (q5 : Addr) (q9 : Addr) (q17 : Addr) (q19 : Addr) (h : Hp) : Prop :=
  ldK h (q19.add 1) fun v247 =>
  gSlice v247 fun a_248 l_248 c_248 =>
  ldK h (q3.add 1) fun v249 =>
  gSlice v249 fun a_250 l_250 c_250 =>
  HC nat_Cmp.id #[.slice a_248 l_248 c_248, .slice a_250 l_250 c_250] h fun v251 h252 =>
  gInt .i64 v251 fun x_253 =>
  cond (decide (x_253 < 0)) (ldK h252 (q9.add 0) fun v254 =>
  gBool v254 fun b_255 =>
  ldK h252 (q9.add 1) fun v256 =>
  gSlice v256 fun a_257 l_257 c_257 =>
  ldK h252 (q5.add 0) fun v258 =>
  gBool v258 fun b_259 =>
  ldK h252 (q5.add 1) fun v260 =>
  gSlice v260 fun a_261 l_261 c_261 =>
  HC gnomontop_sameInt.id #[.agg #[.bool b_255, .slice a_257 l_257 c_257], .agg #[.bool b_259, .slice a_261 l_261 c_261]] h252 fun v262 h263 =>
  gBool v262 fun b_264 =>
  R (.bool b_264) h263) (cond (decide (x_253 > 0)) (ldK h252 (q9.add 0) fun v265 =>
  gBool v265 fun b_266 =>
  ldK h252 (q9.add 1) fun v267 =>
  gSlice v267 fun a_268 l_268 c_268 =>
  ldK h252 (q17.add 0) fun v269 =>
  gBool v269 fun b_270 =>
  ldK h252 (q17.add 1) fun v271 =>
  gSlice v271 fun a_272 l_272 c_272 =>
  HC gnomontop_sameInt.id #[.agg #[.bool b_266, .slice a_268 l_268 c_268], .agg #[.bool b_270, .slice a_272 l_272 c_272]] h252 fun v273 h274 =>
  gBool v273 fun b_275 =>
  R (.bool b_275) h274) (ldK h252 (q5.add 1) fun v276 =>
  gSlice v276 fun a_277 l_277 c_277 =>
  HC nat_Bit.id #[.slice a_277 l_277 c_277, .int .i64 0] h252 fun v278 h279 =>
  gBool v278 fun b_280 =>
  cond b_280 (ldK h279 (q9.add 0) fun v281 =>
  gBool v281 fun b_282 =>
  ldK h279 (q9.add 1) fun v283 =>
  gSlice v283 fun a_284 l_284 c_284 =>
  ldK h279 (q17.add 0) fun v285 =>
  gBool v285 fun b_286 =>
  ldK h279 (q17.add 1) fun v287 =>
  gSlice v287 fun a_288 l_288 c_288 =>
  HC gnomontop_sameInt.id #[.agg #[.bool b_282, .slice a_284 l_284 c_284], .agg #[.bool b_286, .slice a_288 l_288 c_288]] h279 fun v289 h290 =>
  gBool v289 fun b_291 =>
  cond b_291 (R (.bool true) h290) (cond (!b_280) (ldK h290 (q9.add 0) fun v292 =>
  gBool v292 fun b_293 =>
  ldK h290 (q9.add 1) fun v294 =>
  gSlice v294 fun a_295 l_295 c_295 =>
  ldK h290 (q5.add 0) fun v296 =>
  gBool v296 fun b_297 =>
  ldK h290 (q5.add 1) fun v298 =>
  gSlice v298 fun a_299 l_299 c_299 =>
  HC gnomontop_sameInt.id #[.agg #[.bool b_293, .slice a_295 l_295 c_295], .agg #[.bool b_297, .slice a_299 l_299 c_299]] h290 fun v300 h301 =>
  gBool v300 fun b_302 =>
  R (.bool b_302) h301) (R (.bool false) h290))) (cond (!b_280) (ldK h279 (q9.add 0) fun v303 =>
  gBool v303 fun b_304 =>
  ldK h279 (q9.add 1) fun v305 =>
  gSlice v305 fun a_306 l_306 c_306 =>
  ldK h279 (q5.add 0) fun v307 =>
  gBool v307 fun b_308 =>
  ldK h279 (q5.add 1) fun v309 =>
  gSlice v309 fun a_310 l_310 c_310 =>
  HC gnomontop_sameInt.id #[.agg #[.bool b_304, .slice a_306 l_306 c_306], .agg #[.bool b_308, .slice a_310 l_310 c_310]] h279 fun v311 h312 =>
  gBool v311 fun b_313 =>
  R (.bool b_313) h312) (R (.bool false) h279))))
def D6.g (R : Rt) (fr : Fr) (h : Hp) : Prop := gPtrS (fr 3) fun q3 => gPtrS (fr 5) fun q5 => gPtrS (fr 9) fun q9 => gPtrS (fr 17) fun q17 => gPtrS (fr 19) fun q19 => D6.t R q3 q5 q9 q17 q19 h
theorem D6.ok (R : Rt) (fr : Fr) (h : Hp) (g : D6.g R fr h) : den prog E (cAt C [true, true, true, true, true, true, true, true, true, true, true, true, true, true, true, true]) (retQ E [.tmp 4] R) fr h := by
  obtain ⟨q3, e3, g⟩ := gPtrS_elim g
  obtain ⟨q5, e5, g⟩ := gPtrS_elim g
  obtain ⟨q9, e9, g⟩ := gPtrS_elim g
  obtain ⟨q17, e17, g⟩ := gPtrS_elim g
  obtain ⟨q19, e19, g⟩ := gPtrS_elim g
  exact den_enter [(3, .pointer (some q3)), (5, .pointer (some q5)), (9, .pointer (some q9)), (17, .pointer (some q17)), (19, .pointer (some q19))] ⟨e3, e5, e9, e17, e19, trivial⟩ (by kernel_rfl) g
def D5.t (R : Rt) (q3 : Addr) (q5 : Addr) (q7 : Addr) (q9 : Addr) (q11 : Addr) (q17 : Addr) (x18 : Int) (h : Hp) : Prop :=
  cond (x18 != 0) (R (.bool false) h) (ldK h (q11.add 1) fun v195 =>
  gSlice v195 fun a_196 l_196 c_196 =>
  cond ((((l_196 : Nat) : Int)) == 0) (ldK h (q7.add 0) fun v197 =>
  gBool v197 fun b_198 =>
  ldK h (q7.add 1) fun v199 =>
  gSlice v199 fun a_200 l_200 c_200 =>
  ldK h (q5.add 0) fun v201 =>
  gBool v201 fun b_202 =>
  ldK h (q5.add 1) fun v203 =>
  gSlice v203 fun a_204 l_204 c_204 =>
  HC gnomontop_sameInt.id #[.agg #[.bool b_198, .slice a_200 l_200 c_200], .agg #[.bool b_202, .slice a_204 l_204 c_204]] h fun v205 h206 =>
  gBool v205 fun b_207 =>
  cond b_207 (ldK h206 (q9.add 0) fun v208 =>
  gBool v208 fun b_209 =>
  ldK h206 (q9.add 1) fun v210 =>
  gSlice v210 fun a_211 l_211 c_211 =>
  ldK h206 (q5.add 0) fun v212 =>
  gBool v212 fun b_213 =>
  ldK h206 (q5.add 1) fun v214 =>
  gSlice v214 fun a_215 l_215 c_215 =>
  HC gnomontop_sameInt.id #[.agg #[.bool b_209, .slice a_211 l_211 c_211], .agg #[.bool b_213, .slice a_215 l_215 c_215]] h206 fun v216 h217 =>
  gBool v216 fun b_218 =>
  R (.bool b_218) h217) (R (.bool false) h206)) (ldK h (q11.add 1) fun v219 =>
  gSlice v219 fun a_220 l_220 c_220 =>
  HC num_Shl.id #[.agg #[.bool false, .slice a_220 l_220 c_220], .int .i64 1] h fun v221 h222 =>
  gTup v221 fun y223 =>
  uncons y223 fun v224 y224 =>
  gAgg v224 fun y225 =>
  uncons y225 fun v226 y226 =>
  gBool v226 fun b_227 =>
  uncons y226 fun v228 y228 =>
  gSlice v228 fun a_229 l_229 c_229 =>
  unnil y228 <| uncons y224 fun v230 y230 =>
  gInt .i64 v230 fun x_231 =>
  unnil y230 <| boxK h222 33 T33.zs fun q232 h233 =>
  stK h233 (q232.add 0) (.bool b_227) fun h234 =>
  stK h234 (q232.add 1) (.slice a_229 l_229 c_229) fun h235 =>
  cond (x_231 != 0) (R (.bool false) h235) (ldK h235 (q7.add 0) fun v236 =>
  gBool v236 fun b_237 =>
  ldK h235 (q7.add 1) fun v238 =>
  gSlice v238 fun a_239 l_239 c_239 =>
  ldK h235 (q17.add 0) fun v240 =>
  gBool v240 fun b_241 =>
  ldK h235 (q17.add 1) fun v242 =>
  gSlice v242 fun a_243 l_243 c_243 =>
  HC gnomontop_sameInt.id #[.agg #[.bool b_237, .slice a_239 l_239 c_239], .agg #[.bool b_241, .slice a_243 l_243 c_243]] h235 fun v244 h245 =>
  gBool v244 fun b_246 =>
  cond (!b_246) (R (.bool false) h245) (D6.t R q3 q5 q9 q17 q232 h245))))
def D5.g (R : Rt) (fr : Fr) (h : Hp) : Prop := gPtrS (fr 3) fun q3 => gPtrS (fr 5) fun q5 => gPtrS (fr 7) fun q7 => gPtrS (fr 9) fun q9 => gPtrS (fr 11) fun q11 => gPtrS (fr 17) fun q17 => gInt .i64 (fr 18) fun x18 => D5.t R q3 q5 q7 q9 q11 q17 x18 h
theorem D5.ok (R : Rt) (fr : Fr) (h : Hp) (g : D5.g R fr h) : den prog E (cAt C [true, true, true, true, true, true, true, true, true, true, true, true]) (retQ E [.tmp 4] R) fr h := by
  obtain ⟨q3, e3, g⟩ := gPtrS_elim g
  obtain ⟨q5, e5, g⟩ := gPtrS_elim g
  obtain ⟨q7, e7, g⟩ := gPtrS_elim g
  obtain ⟨q9, e9, g⟩ := gPtrS_elim g
  obtain ⟨q11, e11, g⟩ := gPtrS_elim g
  obtain ⟨q17, e17, g⟩ := gPtrS_elim g
  obtain ⟨x18, e18, g⟩ := gInt_elim g
  exact den_cut 4 (r := (cAt C [true, true, true, true, true, true, true, true, true, true, true, true, true, true, true, true])) (by kernel_rfl) (D6.ok R) (den_enter [(3, .pointer (some q3)), (5, .pointer (some q5)), (7, .pointer (some q7)), (9, .pointer (some q9)), (11, .pointer (some q11)), (17, .pointer (some q17)), (18, .int .i64 x18)] ⟨e3, e5, e7, e9, e11, e17, e18, trivial⟩ (by kernel_rfl) g)
def D4.t (R : Rt) (q3 : Addr) (q5 : Addr) (q7 : Addr) (q9 : Addr) (q11 : Addr) (h : Hp) : Prop :=
  q5.block < h.size ∧ ldK h (q5.add 0) fun v169 =>
  gBool v169 fun b_170 =>
  ldK h (q5.add 1) fun v171 =>
  gSlice v171 fun a_172 l_172 c_172 =>
  (HC num_Of.id #[.int .i64 1] h fun v173 h174 =>
  gAgg v173 fun y175 =>
  uncons y175 fun v176 y176 =>
  gBool v176 fun b_177 =>
  uncons y176 fun v178 y178 =>
  gSlice v178 fun a_179 l_179 c_179 =>
  unnil y178 <| (Pre h.size h h174) ∧ (HC num_Add.id #[.agg #[.bool b_170, .slice a_172 l_172 c_172], .agg #[.bool b_177, .slice a_179 l_179 c_179]] h174 fun v180 h181 =>
  gTup v180 fun y182 =>
  uncons y182 fun v183 y183 =>
  gAgg v183 fun y184 =>
  uncons y184 fun v185 y185 =>
  gBool v185 fun b_186 =>
  uncons y185 fun v187 y187 =>
  gSlice v187 fun a_188 l_188 c_188 =>
  unnil y187 <| uncons y183 fun v189 y189 =>
  gInt .i64 v189 fun x_190 =>
  unnil y189 <| (Pre h.size h174 h181) ∧ boxK h181 33 T33.zs fun q191 h192 =>
  (Pre h.size h181 h192) ∧ stK h192 (q191.add 0) (.bool b_186) fun h193 =>
  stK h193 (q191.add 1) (.slice a_188 l_188 c_188) fun h194 =>
  D5.t R q3 q5 q7 q9 q11 q191 x_190 h194) ∧ (boxK h174 33 T33.zs fun q314 h315 =>
  (Pre h.size h174 h315) ∧ HC num_Add.id #[.agg #[.bool b_170, .slice a_172 l_172 c_172], .agg #[.bool b_177, .slice a_179 l_179 c_179]] h315 fun v316 h317 =>
  gTup v316 fun y318 =>
  uncons y318 fun v319 y319 =>
  gAgg v319 fun y320 =>
  uncons y320 fun v321 y321 =>
  gBool v321 fun b_322 =>
  uncons y321 fun v323 y323 =>
  gSlice v323 fun a_324 l_324 c_324 =>
  unnil y323 <| uncons y319 fun v325 y325 =>
  gInt .i64 v325 fun x_326 =>
  unnil y325 <| (Pre h.size h315 h317) ∧ stK h317 (q314.add 0) (.bool b_322) fun h327 =>
  stK h327 (q314.add 1) (.slice a_324 l_324 c_324) fun h328 =>
  D5.t R q3 q5 q7 q9 q11 q314 x_326 h328)) ∧ (boxK h 33 T33.zs fun q329 h330 =>
  (Pre h.size h h330) ∧ HC num_Of.id #[.int .i64 1] h330 fun v331 h332 =>
  gAgg v331 fun y333 =>
  uncons y333 fun v334 y334 =>
  gBool v334 fun b_335 =>
  uncons y334 fun v336 y336 =>
  gSlice v336 fun a_337 l_337 c_337 =>
  unnil y336 <| (Pre h.size h330 h332) ∧ HC num_Add.id #[.agg #[.bool b_170, .slice a_172 l_172 c_172], .agg #[.bool b_335, .slice a_337 l_337 c_337]] h332 fun v338 h339 =>
  gTup v338 fun y340 =>
  uncons y340 fun v341 y341 =>
  gAgg v341 fun y342 =>
  uncons y342 fun v343 y343 =>
  gBool v343 fun b_344 =>
  uncons y343 fun v345 y345 =>
  gSlice v345 fun a_346 l_346 c_346 =>
  unnil y345 <| uncons y341 fun v347 y347 =>
  gInt .i64 v347 fun x_348 =>
  unnil y347 <| (Pre h.size h332 h339) ∧ stK h339 (q329.add 0) (.bool b_344) fun h349 =>
  stK h349 (q329.add 1) (.slice a_346 l_346 c_346) fun h350 =>
  D5.t R q3 q5 q7 q9 q11 q329 x_348 h350)
def D4.g (R : Rt) (fr : Fr) (h : Hp) : Prop := gPtrS (fr 3) fun q3 => gPtrS (fr 5) fun q5 => gPtrS (fr 7) fun q7 => gPtrS (fr 9) fun q9 => gPtrS (fr 11) fun q11 => D4.t R q3 q5 q7 q9 q11 h
theorem D4.ok (R : Rt) (fr : Fr) (h : Hp) (g : D4.g R fr h) : den prog E (cAt C [true, true, true, true, true, true, true, true, true, true, true]) (retQ E [.tmp 4] R) fr h := by
  obtain ⟨q3, e3, g⟩ := gPtrS_elim g
  obtain ⟨q5, e5, g⟩ := gPtrS_elim g
  obtain ⟨q7, e7, g⟩ := gPtrS_elim g
  obtain ⟨q9, e9, g⟩ := gPtrS_elim g
  obtain ⟨q11, e11, g⟩ := gPtrS_elim g
  exact den_cut 1 (r := (cAt C [true, true, true, true, true, true, true, true, true, true, true, true])) (by kernel_rfl) (D5.ok R) (den_enter [(3, .pointer (some q3)), (5, .pointer (some q5)), (7, .pointer (some q7)), (9, .pointer (some q9)), (11, .pointer (some q11))] ⟨e3, e5, e7, e9, e11, trivial⟩ (by kernel_rfl) g)
def D3.t (R : Rt) (q3 : Addr) (q5 : Addr) (q7 : Addr) (q9 : Addr) (q11 : Addr) (h : Hp) : Prop :=
  ldK h (q11.add 1) fun v163 =>
  gSlice v163 fun a_164 l_164 c_164 =>
  cond (decide ((((l_164 : Nat) : Int)) > 0)) (ldK h (q11.add 0) fun v165 =>
  gBool v165 fun b_166 =>
  ldK h (q3.add 0) fun v167 =>
  gBool v167 fun b_168 =>
  cond (!(b_166 == b_168)) (R (.bool false) h) (D4.t R q3 q5 q7 q9 q11 h)) (D4.t R q3 q5 q7 q9 q11 h)
def D3.g (R : Rt) (fr : Fr) (h : Hp) : Prop := gPtrS (fr 3) fun q3 => gPtrS (fr 5) fun q5 => gPtrS (fr 7) fun q7 => gPtrS (fr 9) fun q9 => gPtrS (fr 11) fun q11 => D3.t R q3 q5 q7 q9 q11 h
theorem D3.ok (R : Rt) (fr : Fr) (h : Hp) (g : D3.g R fr h) : den prog E (cAt C [true, true, true, true, true, true, true, true, true, true]) (retQ E [.tmp 4] R) fr h := by
  obtain ⟨q3, e3, g⟩ := gPtrS_elim g
  obtain ⟨q5, e5, g⟩ := gPtrS_elim g
  obtain ⟨q7, e7, g⟩ := gPtrS_elim g
  obtain ⟨q9, e9, g⟩ := gPtrS_elim g
  obtain ⟨q11, e11, g⟩ := gPtrS_elim g
  exact den_cut 1 (r := (cAt C [true, true, true, true, true, true, true, true, true, true, true])) (by kernel_rfl) (D4.ok R) (den_enter [(3, .pointer (some q3)), (5, .pointer (some q5)), (7, .pointer (some q7)), (9, .pointer (some q9)), (11, .pointer (some q11))] ⟨e3, e5, e7, e9, e11, trivial⟩ (by kernel_rfl) g)
def D2.t (R : Rt) (q2 : Addr) (q3 : Addr) (q5 : Addr) (q7 : Addr) (q9 : Addr) (q11 : Addr) (h : Hp) : Prop :=
  ldK h (q5.add 0) fun v99 =>
  gBool v99 fun b_100 =>
  ldK h (q5.add 1) fun v101 =>
  gSlice v101 fun a_102 l_102 c_102 =>
  ldK h (q3.add 0) fun v103 =>
  gBool v103 fun b_104 =>
  ldK h (q3.add 1) fun v105 =>
  gSlice v105 fun a_106 l_106 c_106 =>
  HC num_Mul.id #[.agg #[.bool b_100, .slice a_102 l_102 c_102], .agg #[.bool b_104, .slice a_106 l_106 c_106]] h fun v107 h108 =>
  gTup v107 fun y109 =>
  uncons y109 fun v110 y110 =>
  gAgg v110 fun y111 =>
  uncons y111 fun v112 y112 =>
  gBool v112 fun b_113 =>
  uncons y112 fun v114 y114 =>
  gSlice v114 fun a_115 l_115 c_115 =>
  unnil y114 <| uncons y110 fun v116 y116 =>
  gInt .i64 v116 fun x_117 =>
  unnil y116 <| boxK h108 33 T33.zs fun q118 h119 =>
  stK h119 (q118.add 0) (.bool b_113) fun h120 =>
  stK h120 (q118.add 1) (.slice a_115 l_115 c_115) fun h121 =>
  ldK h121 (q118.add 0) fun v122 =>
  gBool v122 fun b_123 =>
  ldK h121 (q118.add 1) fun v124 =>
  gSlice v124 fun a_125 l_125 c_125 =>
  ldK h121 (q11.add 0) fun v126 =>
  gBool v126 fun b_127 =>
  ldK h121 (q11.add 1) fun v128 =>
  gSlice v128 fun a_129 l_129 c_129 =>
  HC num_Add.id #[.agg #[.bool b_123, .slice a_125 l_125 c_125], .agg #[.bool b_127, .slice a_129 l_129 c_129]] h121 fun v130 h131 =>
  gTup v130 fun y132 =>
  uncons y132 fun v133 y133 =>
  gAgg v133 fun y134 =>
  uncons y134 fun v135 y135 =>
  gBool v135 fun b_136 =>
  uncons y135 fun v137 y137 =>
  gSlice v137 fun a_138 l_138 c_138 =>
  unnil y137 <| uncons y133 fun v139 y139 =>
  gInt .i64 v139 fun x_140 =>
  unnil y139 <| boxK h131 33 T33.zs fun q141 h142 =>
  stK h142 (q141.add 0) (.bool b_136) fun h143 =>
  stK h143 (q141.add 1) (.slice a_138 l_138 c_138) fun h144 =>
  cond (x_117 != 0) (R (.bool false) h144) (cond (x_140 != 0) (R (.bool false) h144) (ldK h144 (q141.add 0) fun v145 =>
  gBool v145 fun b_146 =>
  ldK h144 (q141.add 1) fun v147 =>
  gSlice v147 fun a_148 l_148 c_148 =>
  ldK h144 (q2.add 0) fun v149 =>
  gBool v149 fun b_150 =>
  ldK h144 (q2.add 1) fun v151 =>
  gSlice v151 fun a_152 l_152 c_152 =>
  HC gnomontop_sameInt.id #[.agg #[.bool b_146, .slice a_148 l_148 c_148], .agg #[.bool b_150, .slice a_152 l_152 c_152]] h144 fun v153 h154 =>
  gBool v153 fun b_155 =>
  cond (!b_155) (R (.bool false) h154) (ldK h154 (q11.add 1) fun v156 =>
  gSlice v156 fun a_157 l_157 c_157 =>
  ldK h154 (q3.add 1) fun v158 =>
  gSlice v158 fun a_159 l_159 c_159 =>
  HC nat_Cmp.id #[.slice a_157 l_157 c_157, .slice a_159 l_159 c_159] h154 fun v160 h161 =>
  gInt .i64 v160 fun x_162 =>
  cond (decide (x_162 ≥ 0)) (R (.bool false) h161) (D3.t R q3 q5 q7 q9 q11 h161))))
def D2.g (R : Rt) (fr : Fr) (h : Hp) : Prop := gPtrS (fr 2) fun q2 => gPtrS (fr 3) fun q3 => gPtrS (fr 5) fun q5 => gPtrS (fr 7) fun q7 => gPtrS (fr 9) fun q9 => gPtrS (fr 11) fun q11 => D2.t R q2 q3 q5 q7 q9 q11 h
theorem D2.ok (R : Rt) (fr : Fr) (h : Hp) (g : D2.g R fr h) : den prog E (cAt C [true, true, true, true, true, true, true]) (retQ E [.tmp 4] R) fr h := by
  obtain ⟨q2, e2, g⟩ := gPtrS_elim g
  obtain ⟨q3, e3, g⟩ := gPtrS_elim g
  obtain ⟨q5, e5, g⟩ := gPtrS_elim g
  obtain ⟨q7, e7, g⟩ := gPtrS_elim g
  obtain ⟨q9, e9, g⟩ := gPtrS_elim g
  obtain ⟨q11, e11, g⟩ := gPtrS_elim g
  exact den_cut 3 (r := (cAt C [true, true, true, true, true, true, true, true, true, true])) (by kernel_rfl) (D3.ok R) (den_enter [(2, .pointer (some q2)), (3, .pointer (some q3)), (5, .pointer (some q5)), (7, .pointer (some q7)), (9, .pointer (some q9)), (11, .pointer (some q11))] ⟨e2, e3, e5, e7, e9, e11, trivial⟩ (by kernel_rfl) g)
def D1.t (R : Rt) (b0_0 : Bool) (a0_1 : Option Addr) (l0_1 : Nat) (c0_1 : Nat) (b1_0 : Bool) (a1_1 : Option Addr) (l1_1 : Nat) (c1_1 : Nat) (h : Hp) : Prop :=
  boxK h 33 [.bool b0_0, .slice a0_1 l0_1 c0_1] fun q1 h2 =>
  boxK h2 33 [.bool b1_0, .slice a1_1 l1_1 c1_1] fun q3 h4 =>
  ldK h4 (q1.add 0) fun v5 =>
  gBool v5 fun b_6 =>
  ldK h4 (q1.add 1) fun v7 =>
  gSlice v7 fun a_8 l_8 c_8 =>
  ldK h4 (q3.add 0) fun v9 =>
  gBool v9 fun b_10 =>
  ldK h4 (q3.add 1) fun v11 =>
  gSlice v11 fun a_12 l_12 c_12 =>
  HC num_FloorDiv.id #[.agg #[.bool b_6, .slice a_8 l_8 c_8], .agg #[.bool b_10, .slice a_12 l_12 c_12]] h4 fun v13 h14 =>
  gTup v13 fun y15 =>
  uncons y15 fun v16 y16 =>
  gAgg v16 fun y17 =>
  uncons y17 fun v18 y18 =>
  gBool v18 fun b_19 =>
  uncons y18 fun v20 y20 =>
  gSlice v20 fun a_21 l_21 c_21 =>
  unnil y20 <| uncons y16 fun v22 y22 =>
  gInt .i64 v22 fun x_23 =>
  unnil y22 <| boxK h14 33 T33.zs fun q24 h25 =>
  stK h25 (q24.add 0) (.bool b_19) fun h26 =>
  stK h26 (q24.add 1) (.slice a_21 l_21 c_21) fun h27 =>
  ldK h27 (q1.add 0) fun v28 =>
  gBool v28 fun b_29 =>
  ldK h27 (q1.add 1) fun v30 =>
  gSlice v30 fun a_31 l_31 c_31 =>
  ldK h27 (q3.add 0) fun v32 =>
  gBool v32 fun b_33 =>
  ldK h27 (q3.add 1) fun v34 =>
  gSlice v34 fun a_35 l_35 c_35 =>
  HC num_CeilDiv.id #[.agg #[.bool b_29, .slice a_31 l_31 c_31], .agg #[.bool b_33, .slice a_35 l_35 c_35]] h27 fun v36 h37 =>
  gTup v36 fun y38 =>
  uncons y38 fun v39 y39 =>
  gAgg v39 fun y40 =>
  uncons y40 fun v41 y41 =>
  gBool v41 fun b_42 =>
  uncons y41 fun v43 y43 =>
  gSlice v43 fun a_44 l_44 c_44 =>
  unnil y43 <| uncons y39 fun v45 y45 =>
  gInt .i64 v45 fun x_46 =>
  unnil y45 <| boxK h37 33 T33.zs fun q47 h48 =>
  stK h48 (q47.add 0) (.bool b_42) fun h49 =>
  stK h49 (q47.add 1) (.slice a_44 l_44 c_44) fun h50 =>
  ldK h50 (q1.add 0) fun v51 =>
  gBool v51 fun b_52 =>
  ldK h50 (q1.add 1) fun v53 =>
  gSlice v53 fun a_54 l_54 c_54 =>
  ldK h50 (q3.add 0) fun v55 =>
  gBool v55 fun b_56 =>
  ldK h50 (q3.add 1) fun v57 =>
  gSlice v57 fun a_58 l_58 c_58 =>
  HC num_NearDiv.id #[.agg #[.bool b_52, .slice a_54 l_54 c_54], .agg #[.bool b_56, .slice a_58 l_58 c_58]] h50 fun v59 h60 =>
  gTup v59 fun y61 =>
  uncons y61 fun v62 y62 =>
  gAgg v62 fun y63 =>
  uncons y63 fun v64 y64 =>
  gBool v64 fun b_65 =>
  uncons y64 fun v66 y66 =>
  gSlice v66 fun a_67 l_67 c_67 =>
  unnil y66 <| uncons y62 fun v68 y68 =>
  gInt .i64 v68 fun x_69 =>
  unnil y68 <| boxK h60 33 T33.zs fun q70 h71 =>
  stK h71 (q70.add 0) (.bool b_65) fun h72 =>
  stK h72 (q70.add 1) (.slice a_67 l_67 c_67) fun h73 =>
  ldK h73 (q1.add 0) fun v74 =>
  gBool v74 fun b_75 =>
  ldK h73 (q1.add 1) fun v76 =>
  gSlice v76 fun a_77 l_77 c_77 =>
  ldK h73 (q3.add 0) fun v78 =>
  gBool v78 fun b_79 =>
  ldK h73 (q3.add 1) fun v80 =>
  gSlice v80 fun a_81 l_81 c_81 =>
  HC num_Mod.id #[.agg #[.bool b_75, .slice a_77 l_77 c_77], .agg #[.bool b_79, .slice a_81 l_81 c_81]] h73 fun v82 h83 =>
  gTup v82 fun y84 =>
  uncons y84 fun v85 y85 =>
  gAgg v85 fun y86 =>
  uncons y86 fun v87 y87 =>
  gBool v87 fun b_88 =>
  uncons y87 fun v89 y89 =>
  gSlice v89 fun a_90 l_90 c_90 =>
  unnil y89 <| uncons y85 fun v91 y91 =>
  gInt .i64 v91 fun x_92 =>
  unnil y91 <| boxK h83 33 T33.zs fun q93 h94 =>
  stK h94 (q93.add 0) (.bool b_88) fun h95 =>
  stK h95 (q93.add 1) (.slice a_90 l_90 c_90) fun h96 =>
  ldK h96 (q3.add 1) fun v97 =>
  gSlice v97 fun a_98 l_98 c_98 =>
  cond ((((l_98 : Nat) : Int)) == 0) (cond (x_23 == 4) (cond (x_46 == 4) (cond (x_69 == 4) (R (.bool (x_92 == 4)) h96) (R (.bool false) h96)) (R (.bool false) h96)) (R (.bool false) h96)) (cond (x_23 != 0) (R (.bool false) h96) (cond (x_46 != 0) (R (.bool false) h96) (cond (x_69 != 0) (R (.bool false) h96) (cond (x_92 != 0) (R (.bool false) h96) (D2.t R q1 q3 q24 q47 q70 q93 h96)))))
def D1.g (R : Rt) (fr : Fr) (h : Hp) : Prop := gAgg (fr 0) fun z0 => uncons z0 fun w0_0 z0_0 => gBool w0_0 fun b0_0 => uncons z0_0 fun w0_1 z0_1 => gSlice w0_1 fun a0_1 l0_1 c0_1 => unnil z0_1 <| gAgg (fr 1) fun z1 => uncons z1 fun w1_0 z1_0 => gBool w1_0 fun b1_0 => uncons z1_0 fun w1_1 z1_1 => gSlice w1_1 fun a1_1 l1_1 c1_1 => unnil z1_1 <| D1.t R b0_0 a0_1 l0_1 c0_1 b1_0 a1_1 l1_1 c1_1 h
theorem D1.ok (R : Rt) (fr : Fr) (h : Hp) (g : D1.g R fr h) : den prog E C (retQ E [.tmp 4] R) fr h := by
  obtain ⟨z0, e0, g0_0⟩ := gAgg_elim' g
  obtain ⟨w0_0, z0_0, rfl, g0_0x⟩ := uncons_elim g0_0
  obtain ⟨b0_0, rfl, g0_1⟩ := gBool_elim g0_0x
  obtain ⟨w0_1, z0_1, rfl, g0_1x⟩ := uncons_elim g0_1
  obtain ⟨a0_1, l0_1, c0_1, rfl, g0_2⟩ := gSlice_elim g0_1x
  obtain ⟨rfl, g⟩ := unnil_elim g0_2
  obtain ⟨z1, e1, g1_0⟩ := gAgg_elim' g
  obtain ⟨w1_0, z1_0, rfl, g1_0x⟩ := uncons_elim g1_0
  obtain ⟨b1_0, rfl, g1_1⟩ := gBool_elim g1_0x
  obtain ⟨w1_1, z1_1, rfl, g1_1x⟩ := uncons_elim g1_1
  obtain ⟨a1_1, l1_1, c1_1, rfl, g1_2⟩ := gSlice_elim g1_1x
  obtain ⟨rfl, g⟩ := unnil_elim g1_2
  exact den_cut 7 (r := (cAt C [true, true, true, true, true, true, true])) (by kernel_rfl) (D2.ok R) (den_enter [(0, .agg #[.bool b0_0, .slice a0_1 l0_1 c0_1]), (1, .agg #[.bool b1_0, .slice a1_1 l1_1 c1_1])] ⟨e0, e1, trivial⟩ (by kernel_rfl) g)
def t (b0_0 : Bool) (a0_1 : Option Addr) (l0_1 : Nat) (c0_1 : Nat) (b1_0 : Bool) (a1_1 : Option Addr) (l1_1 : Nat) (c1_1 : Nat) (h : Hp) (R : Rt) : Prop := D1.t R b0_0 a0_1 l0_1 c0_1 b1_0 a1_1 l1_1 c1_1 h
theorem ok {b0_0 : Bool} {a0_1 : Option Addr} {l0_1 : Nat} {c0_1 : Nat} {b1_0 : Bool} {a1_1 : Option Addr} {l1_1 : Nat} {c1_1 : Nat} {h : Hp} {R : Rt} (g : t b0_0 a0_1 l0_1 c0_1 b1_0 a1_1 l1_1 c1_1 h R) : HC id #[.agg #[.bool b0_0, .slice a0_1 l0_1 c0_1], .agg #[.bool b1_0, .slice a1_1 l1_1 c1_1]] h R :=
  calls_of_den' envOk (c := C) (rs := [.tmp 4]) Tryd.func10 (by kernel_rfl) (by kernel_rfl) (by kernel_rfl) (args := [.agg #[.bool b0_0, .slice a0_1 l0_1 c0_1], .agg #[.bool b1_0, .slice a1_1 l1_1 c1_1]]) (by kernel_rfl) (D1.ok R _ h (gAgg_intro rfl (uncons_intro (gBool_intro rfl (uncons_intro (gSlice_intro rfl (unnil_intro (gAgg_intro rfl (uncons_intro (gBool_intro rfl (uncons_intro (gSlice_intro rfl (unnil_intro (g))))))))))))))
end gnomontop_quotients

namespace gnomontop_shifts
noncomputable def C : Code := bodyOf Tryd.f11
def D2.t (R : Rt) (q7 : Addr) (q9 : Addr) (q11 : Addr) (q13 : Addr) (q15 : Addr) (q17 : Addr) (h : Hp) : Prop :=
  ldK h (q7.add 0) fun v151 =>
  gBool v151 fun b_152 =>
  ldK h (q7.add 1) fun v153 =>
  gSlice v153 fun a_154 l_154 c_154 =>
  ldK h (q9.add 0) fun v155 =>
  gBool v155 fun b_156 =>
  ldK h (q9.add 1) fun v157 =>
  gSlice v157 fun a_158 l_158 c_158 =>
  HC gnomontop_sameInt.id #[.agg #[.bool b_152, .slice a_154 l_154 c_154], .agg #[.bool b_156, .slice a_158 l_158 c_158]] h fun v159 h160 =>
  gBool v159 fun b_161 =>
  cond b_161 (ldK h160 (q11.add 0) fun v162 =>
  gBool v162 fun b_163 =>
  ldK h160 (q11.add 1) fun v164 =>
  gSlice v164 fun a_165 l_165 c_165 =>
  ldK h160 (q13.add 0) fun v166 =>
  gBool v166 fun b_167 =>
  ldK h160 (q13.add 1) fun v168 =>
  gSlice v168 fun a_169 l_169 c_169 =>
  HC gnomontop_sameInt.id #[.agg #[.bool b_163, .slice a_165 l_165 c_165], .agg #[.bool b_167, .slice a_169 l_169 c_169]] h160 fun v170 h171 =>
  gBool v170 fun b_172 =>
  cond b_172 (ldK h171 (q15.add 0) fun v173 =>
  gBool v173 fun b_174 =>
  ldK h171 (q15.add 1) fun v175 =>
  gSlice v175 fun a_176 l_176 c_176 =>
  ldK h171 (q17.add 0) fun v177 =>
  gBool v177 fun b_178 =>
  ldK h171 (q17.add 1) fun v179 =>
  gSlice v179 fun a_180 l_180 c_180 =>
  HC gnomontop_sameInt.id #[.agg #[.bool b_174, .slice a_176 l_176 c_176], .agg #[.bool b_178, .slice a_180 l_180 c_180]] h171 fun v181 h182 =>
  gBool v181 fun b_183 =>
  R (.bool b_183) h182) (R (.bool false) h171)) (R (.bool false) h160)
def D2.g (R : Rt) (fr : Fr) (h : Hp) : Prop := gPtrS (fr 7) fun q7 => gPtrS (fr 9) fun q9 => gPtrS (fr 11) fun q11 => gPtrS (fr 13) fun q13 => gPtrS (fr 15) fun q15 => gPtrS (fr 17) fun q17 => D2.t R q7 q9 q11 q13 q15 q17 h
theorem D2.ok (R : Rt) (fr : Fr) (h : Hp) (g : D2.g R fr h) : den prog E (cAt C [true, true, true, true, true, true, true, true, true]) (retQ E [.tmp 4] R) fr h := by
  obtain ⟨q7, e7, g⟩ := gPtrS_elim g
  obtain ⟨q9, e9, g⟩ := gPtrS_elim g
  obtain ⟨q11, e11, g⟩ := gPtrS_elim g
  obtain ⟨q13, e13, g⟩ := gPtrS_elim g
  obtain ⟨q15, e15, g⟩ := gPtrS_elim g
  obtain ⟨q17, e17, g⟩ := gPtrS_elim g
  exact den_enter [(7, .pointer (some q7)), (9, .pointer (some q9)), (11, .pointer (some q11)), (13, .pointer (some q13)), (15, .pointer (some q15)), (17, .pointer (some q17))] ⟨e7, e9, e11, e13, e15, e17, trivial⟩ (by kernel_rfl) g
def D1.t (R : Rt) (b0_0 : Bool) (a0_1 : Option Addr) (l0_1 : Nat) (c0_1 : Nat) (x1 : Int) (h : Hp) : Prop :=
  boxK h 33 [.bool b0_0, .slice a0_1 l0_1 c0_1] fun q1 h2 =>
  HC num_Of.id #[.int .i64 1] h2 fun v3 h4 =>
  gAgg v3 fun y5 =>
  uncons y5 fun v6 y6 =>
  gBool v6 fun b_7 =>
  uncons y6 fun v8 y8 =>
  gSlice v8 fun a_9 l_9 c_9 =>
  unnil y8 <| HC num_Shl.id #[.agg #[.bool b_7, .slice a_9 l_9 c_9], .int .i64 x1] h4 fun v10 h11 =>
  gTup v10 fun y12 =>
  uncons y12 fun v13 y13 =>
  gAgg v13 fun y14 =>
  uncons y14 fun v15 y15 =>
  gBool v15 fun b_16 =>
  uncons y15 fun v17 y17 =>
  gSlice v17 fun a_18 l_18 c_18 =>
  unnil y17 <| uncons y13 fun v19 y19 =>
  gInt .i64 v19 fun x_20 =>
  unnil y19 <| boxK h11 33 T33.zs fun q21 h22 =>
  stK h22 (q21.add 0) (.bool b_16) fun h23 =>
  stK h23 (q21.add 1) (.slice a_18 l_18 c_18) fun h24 =>
  ldK h24 (q1.add 0) fun v25 =>
  gBool v25 fun b_26 =>
  ldK h24 (q1.add 1) fun v27 =>
  gSlice v27 fun a_28 l_28 c_28 =>
  HC num_FloorShr.id #[.agg #[.bool b_26, .slice a_28 l_28 c_28], .int .i64 x1] h24 fun v29 h30 =>
  gTup v29 fun y31 =>
  uncons y31 fun v32 y32 =>
  gAgg v32 fun y33 =>
  uncons y33 fun v34 y34 =>
  gBool v34 fun b_35 =>
  uncons y34 fun v36 y36 =>
  gSlice v36 fun a_37 l_37 c_37 =>
  unnil y36 <| uncons y32 fun v38 y38 =>
  gInt .i64 v38 fun x_39 =>
  unnil y38 <| boxK h30 33 T33.zs fun q40 h41 =>
  stK h41 (q40.add 0) (.bool b_35) fun h42 =>
  stK h42 (q40.add 1) (.slice a_37 l_37 c_37) fun h43 =>
  ldK h43 (q1.add 0) fun v44 =>
  gBool v44 fun b_45 =>
  ldK h43 (q1.add 1) fun v46 =>
  gSlice v46 fun a_47 l_47 c_47 =>
  ldK h43 (q21.add 0) fun v48 =>
  gBool v48 fun b_49 =>
  ldK h43 (q21.add 1) fun v50 =>
  gSlice v50 fun a_51 l_51 c_51 =>
  HC num_FloorDiv.id #[.agg #[.bool b_45, .slice a_47 l_47 c_47], .agg #[.bool b_49, .slice a_51 l_51 c_51]] h43 fun v52 h53 =>
  gTup v52 fun y54 =>
  uncons y54 fun v55 y55 =>
  gAgg v55 fun y56 =>
  uncons y56 fun v57 y57 =>
  gBool v57 fun b_58 =>
  uncons y57 fun v59 y59 =>
  gSlice v59 fun a_60 l_60 c_60 =>
  unnil y59 <| uncons y55 fun v61 y61 =>
  gInt .i64 v61 fun x_62 =>
  unnil y61 <| boxK h53 33 T33.zs fun q63 h64 =>
  stK h64 (q63.add 0) (.bool b_58) fun h65 =>
  stK h65 (q63.add 1) (.slice a_60 l_60 c_60) fun h66 =>
  ldK h66 (q1.add 0) fun v67 =>
  gBool v67 fun b_68 =>
  ldK h66 (q1.add 1) fun v69 =>
  gSlice v69 fun a_70 l_70 c_70 =>
  HC num_CeilShr.id #[.agg #[.bool b_68, .slice a_70 l_70 c_70], .int .i64 x1] h66 fun v71 h72 =>
  gTup v71 fun y73 =>
  uncons y73 fun v74 y74 =>
  gAgg v74 fun y75 =>
  uncons y75 fun v76 y76 =>
  gBool v76 fun b_77 =>
  uncons y76 fun v78 y78 =>
  gSlice v78 fun a_79 l_79 c_79 =>
  unnil y78 <| uncons y74 fun v80 y80 =>
  gInt .i64 v80 fun x_81 =>
  unnil y80 <| boxK h72 33 T33.zs fun q82 h83 =>
  stK h83 (q82.add 0) (.bool b_77) fun h84 =>
  stK h84 (q82.add 1) (.slice a_79 l_79 c_79) fun h85 =>
  ldK h85 (q1.add 0) fun v86 =>
  gBool v86 fun b_87 =>
  ldK h85 (q1.add 1) fun v88 =>
  gSlice v88 fun a_89 l_89 c_89 =>
  ldK h85 (q21.add 0) fun v90 =>
  gBool v90 fun b_91 =>
  ldK h85 (q21.add 1) fun v92 =>
  gSlice v92 fun a_93 l_93 c_93 =>
  HC num_CeilDiv.id #[.agg #[.bool b_87, .slice a_89 l_89 c_89], .agg #[.bool b_91, .slice a_93 l_93 c_93]] h85 fun v94 h95 =>
  gTup v94 fun y96 =>
  uncons y96 fun v97 y97 =>
  gAgg v97 fun y98 =>
  uncons y98 fun v99 y99 =>
  gBool v99 fun b_100 =>
  uncons y99 fun v101 y101 =>
  gSlice v101 fun a_102 l_102 c_102 =>
  unnil y101 <| uncons y97 fun v103 y103 =>
  gInt .i64 v103 fun x_104 =>
  unnil y103 <| boxK h95 33 T33.zs fun q105 h106 =>
  stK h106 (q105.add 0) (.bool b_100) fun h107 =>
  stK h107 (q105.add 1) (.slice a_102 l_102 c_102) fun h108 =>
  ldK h108 (q1.add 0) fun v109 =>
  gBool v109 fun b_110 =>
  ldK h108 (q1.add 1) fun v111 =>
  gSlice v111 fun a_112 l_112 c_112 =>
  HC num_NearShr.id #[.agg #[.bool b_110, .slice a_112 l_112 c_112], .int .i64 x1] h108 fun v113 h114 =>
  gTup v113 fun y115 =>
  uncons y115 fun v116 y116 =>
  gAgg v116 fun y117 =>
  uncons y117 fun v118 y118 =>
  gBool v118 fun b_119 =>
  uncons y118 fun v120 y120 =>
  gSlice v120 fun a_121 l_121 c_121 =>
  unnil y120 <| uncons y116 fun v122 y122 =>
  gInt .i64 v122 fun x_123 =>
  unnil y122 <| boxK h114 33 T33.zs fun q124 h125 =>
  stK h125 (q124.add 0) (.bool b_119) fun h126 =>
  stK h126 (q124.add 1) (.slice a_121 l_121 c_121) fun h127 =>
  ldK h127 (q1.add 0) fun v128 =>
  gBool v128 fun b_129 =>
  ldK h127 (q1.add 1) fun v130 =>
  gSlice v130 fun a_131 l_131 c_131 =>
  ldK h127 (q21.add 0) fun v132 =>
  gBool v132 fun b_133 =>
  ldK h127 (q21.add 1) fun v134 =>
  gSlice v134 fun a_135 l_135 c_135 =>
  HC num_NearDiv.id #[.agg #[.bool b_129, .slice a_131 l_131 c_131], .agg #[.bool b_133, .slice a_135 l_135 c_135]] h127 fun v136 h137 =>
  gTup v136 fun y138 =>
  uncons y138 fun v139 y139 =>
  gAgg v139 fun y140 =>
  uncons y140 fun v141 y141 =>
  gBool v141 fun b_142 =>
  uncons y141 fun v143 y143 =>
  gSlice v143 fun a_144 l_144 c_144 =>
  unnil y143 <| uncons y139 fun v145 y145 =>
  gInt .i64 v145 fun x_146 =>
  unnil y145 <| boxK h137 33 T33.zs fun q147 h148 =>
  stK h148 (q147.add 0) (.bool b_142) fun h149 =>
  stK h149 (q147.add 1) (.slice a_144 l_144 c_144) fun h150 =>
  cond (x_20 != 0) (R (.bool false) h150) (cond (x_39 != 0) (R (.bool false) h150) (cond (x_62 != 0) (R (.bool false) h150) (cond (x_81 != 0) (R (.bool false) h150) (cond (x_104 != 0) (R (.bool false) h150) (cond (x_123 != 0) (R (.bool false) h150) (cond (x_146 != 0) (R (.bool false) h150) (D2.t R q40 q63 q82 q105 q124 q147 h150)))))))
def D1.g (R : Rt) (fr : Fr) (h : Hp) : Prop := gAgg (fr 0) fun z0 => uncons z0 fun w0_0 z0_0 => gBool w0_0 fun b0_0 => uncons z0_0 fun w0_1 z0_1 => gSlice w0_1 fun a0_1 l0_1 c0_1 => unnil z0_1 <| gInt .i64 (fr 1) fun x1 => D1.t R b0_0 a0_1 l0_1 c0_1 x1 h
theorem D1.ok (R : Rt) (fr : Fr) (h : Hp) (g : D1.g R fr h) : den prog E C (retQ E [.tmp 4] R) fr h := by
  obtain ⟨z0, e0, g0_0⟩ := gAgg_elim' g
  obtain ⟨w0_0, z0_0, rfl, g0_0x⟩ := uncons_elim g0_0
  obtain ⟨b0_0, rfl, g0_1⟩ := gBool_elim g0_0x
  obtain ⟨w0_1, z0_1, rfl, g0_1x⟩ := uncons_elim g0_1
  obtain ⟨a0_1, l0_1, c0_1, rfl, g0_2⟩ := gSlice_elim g0_1x
  obtain ⟨rfl, g⟩ := unnil_elim g0_2
  obtain ⟨x1, e1, g⟩ := gInt_elim g
  exact den_cut 9 (r := (cAt C [true, true, true, true, true, true, true, true, true])) (by kernel_rfl) (D2.ok R) (den_enter [(0, .agg #[.bool b0_0, .slice a0_1 l0_1 c0_1]), (1, .int .i64 x1)] ⟨e0, e1, trivial⟩ (by kernel_rfl) g)
def t (b0_0 : Bool) (a0_1 : Option Addr) (l0_1 : Nat) (c0_1 : Nat) (x1 : Int) (h : Hp) (R : Rt) : Prop := D1.t R b0_0 a0_1 l0_1 c0_1 x1 h
theorem ok {b0_0 : Bool} {a0_1 : Option Addr} {l0_1 : Nat} {c0_1 : Nat} {x1 : Int} {h : Hp} {R : Rt} (g : t b0_0 a0_1 l0_1 c0_1 x1 h R) : HC id #[.agg #[.bool b0_0, .slice a0_1 l0_1 c0_1], .int .i64 x1] h R :=
  calls_of_den' envOk (c := C) (rs := [.tmp 4]) Tryd.func11 (by kernel_rfl) (by kernel_rfl) (by kernel_rfl) (args := [.agg #[.bool b0_0, .slice a0_1 l0_1 c0_1], .int .i64 x1]) (by kernel_rfl) (D1.ok R _ h (gAgg_intro rfl (uncons_intro (gBool_intro rfl (uncons_intro (gSlice_intro rfl (unnil_intro (gInt_intro rfl (g)))))))))
end gnomontop_shifts

namespace gnomontop_among
noncomputable def C : Code := bodyOf Tryd.f12
def D1.t (R : Rt) (x0 : Int) (x1 : Int) (h : Hp) : Prop :=
  x1 ≠ 0 ∧ letK (Int.tmod x0 x1) fun n1 =>
  cond (decide (n1 < 0)) (letK (IntKind.i64.wrap (n1 + x1)) fun n2 =>
  R (.int .i64 n2) h) (R (.int .i64 n1) h)
def D1.g (R : Rt) (fr : Fr) (h : Hp) : Prop := gInt .i64 (fr 0) fun x0 => gInt .i64 (fr 1) fun x1 => D1.t R x0 x1 h
theorem D1.ok (R : Rt) (fr : Fr) (h : Hp) (g : D1.g R fr h) : den prog E C (retQ E [.tmp 4] R) fr h := by
  obtain ⟨x0, e0, g⟩ := gInt_elim g
  obtain ⟨x1, e1, g⟩ := gInt_elim g
  exact den_enter [(0, .int .i64 x0), (1, .int .i64 x1)] ⟨e0, e1, trivial⟩ (by kernel_rfl) g
def t (x0 : Int) (x1 : Int) (h : Hp) (R : Rt) : Prop := D1.t R x0 x1 h
theorem ok {x0 : Int} {x1 : Int} {h : Hp} {R : Rt} (g : t x0 x1 h R) : HC id #[.int .i64 x0, .int .i64 x1] h R :=
  calls_of_den' envOk (c := C) (rs := [.tmp 4]) Tryd.func12 (by kernel_rfl) (by kernel_rfl) (by kernel_rfl) (args := [.int .i64 x0, .int .i64 x1]) (by kernel_rfl) (D1.ok R _ h (gInt_intro rfl (gInt_intro rfl (g))))
end gnomontop_among

namespace nat_Form
noncomputable def C : Code := bodyOf Tryd.f13
def D1.t (R : Rt) (a0 : Option Addr) (l0 : Nat) (c0 : Nat) (h : Hp) : Prop :=
  cond (decide ((((l0 : Nat) : Int)) ≤ 8192)) (cond ((((l0 : Nat) : Int)) == 0) (R (.bool true) h) (letK (IntKind.i64.wrap ((((l0 : Nat) : Int)) - 1)) fun n1 =>
  idxK a0 l0 n1 1 fun q2 =>
  ldK h q2 fun v3 =>
  gInt .u64 v3 fun x_4 =>
  R (.bool (x_4 != 0)) h)) (R (.bool false) h)
def D1.g (R : Rt) (fr : Fr) (h : Hp) : Prop := gSlice (fr 0) fun a0 l0 c0 => D1.t R a0 l0 c0 h
theorem D1.ok (R : Rt) (fr : Fr) (h : Hp) (g : D1.g R fr h) : den prog E C (retQ E [.tmp 2] R) fr h := by
  obtain ⟨a0, l0, c0, e0, g⟩ := gSlice_elim g
  exact den_enter [(0, .slice a0 l0 c0)] ⟨e0, trivial⟩ (by kernel_rfl) g
def t (a0 : Option Addr) (l0 : Nat) (c0 : Nat) (h : Hp) (R : Rt) : Prop := D1.t R a0 l0 c0 h
theorem ok {a0 : Option Addr} {l0 : Nat} {c0 : Nat} {h : Hp} {R : Rt} (g : t a0 l0 c0 h R) : HC id #[.slice a0 l0 c0] h R :=
  calls_of_den' envOk (c := C) (rs := [.tmp 2]) Tryd.func13 (by kernel_rfl) (by kernel_rfl) (by kernel_rfl) (args := [.slice a0 l0 c0]) (by kernel_rfl) (D1.ok R _ h (gSlice_intro rfl (g)))
end nat_Form

namespace nat_Cmp
noncomputable def C : Code := bodyOf Tryd.f14
def D2.t (R : Rt)  (h : Hp) : Prop :=
  R (.int .i64 0) h
def D2.g (R : Rt) (fr : Fr) (h : Hp) : Prop := D2.t R  h
theorem D2.ok (R : Rt) (fr : Fr) (h : Hp) (g : D2.g R fr h) : den prog E (cAt C [true, true, true, true]) (retQ E [.tmp 4] R) fr h := by
  exact den_enter [] trivial (by kernel_rfl) g
def L4.g (N : Option Addr → Nat → Nat → Option Addr → Nat → Nat → Int → Hp → Prop) (fr : Fr) (h : Hp) : Prop := gSlice (fr 5) fun a5 l5 c5 => gSlice (fr 6) fun a6 l6 c6 => gInt .i64 (fr 7) fun x7 => N a5 l5 c5 a6 l6 c6 x7 h
def D5.t (R : Rt) (N4 : Option Addr → Nat → Nat → Option Addr → Nat → Nat → Int → Hp → Prop) (a5 : Option Addr) (l5 : Nat) (c5 : Nat) (a6 : Option Addr) (l6 : Nat) (c6 : Nat) (x7 : Int) (h : Hp) : Prop :=
  cond (decide (x7 ≥ 0)) (idxK a5 l5 x7 1 fun q8 =>
  ldK h q8 fun v9 =>
  gInt .u64 v9 fun x_10 =>
  idxK a6 l6 x7 1 fun q11 =>
  ldK h q11 fun v12 =>
  gInt .u64 v12 fun x_13 =>
  cond (x_10 != x_13) (idxK a5 l5 x7 1 fun q14 =>
  ldK h q14 fun v15 =>
  gInt .u64 v15 fun x_16 =>
  idxK a6 l6 x7 1 fun q17 =>
  ldK h q17 fun v18 =>
  gInt .u64 v18 fun x_19 =>
  cond (decide (x_16 < x_19)) (R (.int .i64 (-1)) h) (R (.int .i64 1) h)) (letK (IntKind.i64.wrap (x7 - 1)) fun n20 =>
  N4 a5 l5 c5 a6 l6 c6 n20 h)) (D2.t R h)
def D5.g (R : Rt) (N4 : Option Addr → Nat → Nat → Option Addr → Nat → Nat → Int → Hp → Prop) (fr : Fr) (h : Hp) : Prop := gSlice (fr 5) fun a5 l5 c5 => gSlice (fr 6) fun a6 l6 c6 => gInt .i64 (fr 7) fun x7 => D5.t R N4 a5 l5 c5 a6 l6 c6 x7 h
theorem D5.ok (R : Rt) (N4 : Option Addr → Nat → Nat → Option Addr → Nat → Nat → Int → Hp → Prop) (fr : Fr) (h : Hp) (g : D5.g R N4 fr h) : den prog E (cAt C [true, true, true, false, true, false, false]) (Ex.then (L4.g N4) (Ex.inBlock 0 (Ex.then (D2.g R) (retQ E [.tmp 4] R)))) fr h := by
  obtain ⟨a5, l5, c5, e5, g⟩ := gSlice_elim g
  obtain ⟨a6, l6, c6, e6, g⟩ := gSlice_elim g
  obtain ⟨x7, e7, g⟩ := gInt_elim g
  exact den_enter [(5, .slice a5 l5 c5), (6, .slice a6 l6 c6), (7, .int .i64 x7)] ⟨e5, e6, e7, trivial⟩ (by kernel_rfl) g
def L4.t (R : Rt) : Nat → Option Addr → Nat → Nat → Option Addr → Nat → Nat → Int → Hp → Prop
  | 0 => fun _ _ _ _ _ _ _ _ => False
  | n + 1 => fun a5 l5 c5 a6 l6 c6 x7 h => D5.t R (L4.t R n) a5 l5 c5 a6 l6 c6 x7 h
theorem L4.ok (R : Rt) (fr : Fr) (h : Hp) (g : L4.g (fun a5 l5 c5 a6 l6 c6 x7 h => ∃ n, L4.t R n a5 l5 c5 a6 l6 c6 x7 h) fr h) : den prog E (cAt C [true, true, true, false, true, false]) (Ex.inBlock 0 (Ex.then (D2.g R) (retQ E [.tmp 4] R))) fr h := by
  obtain ⟨a5, l5, c5, e5, g⟩ := gSlice_elim g
  obtain ⟨a6, l6, c6, e6, g⟩ := gSlice_elim g
  obtain ⟨x7, e7, g⟩ := gInt_elim g
  obtain ⟨n, g⟩ := g
  refine loop_ok (fun n => L4.g (L4.t R n)) (b := (cAt C [true, true, true, false, true, false, false])) (by kernel_rfl) (fun fr h g => ?_) (fun n => D5.ok R (L4.t R n)) n fr h (gSlice_intro e5 (gSlice_intro e6 (gInt_intro e7 (g))))
  obtain ⟨a5, l5, c5, e5, g⟩ := gSlice_elim g
  obtain ⟨a6, l6, c6, e6, g⟩ := gSlice_elim g
  obtain ⟨x7, e7, g⟩ := gInt_elim g
  exact g
theorem B6.ok (R : Rt) (fr : Fr) (h : Hp) (g : L4.g (fun a5 l5 c5 a6 l6 c6 x7 h => ∃ n, L4.t R n a5 l5 c5 a6 l6 c6 x7 h) fr h) : den prog E (cAt C [true, true, true, false, true]) (Ex.then (D2.g R) (retQ E [.tmp 4] R)) fr h :=
  den_block (by kernel_rfl) (L4.ok R fr h g)
def D3.t (R : Rt) (a5 : Option Addr) (l5 : Nat) (c5 : Nat) (a6 : Option Addr) (l6 : Nat) (c6 : Nat) (h : Hp) : Prop :=
  letK (IntKind.i64.wrap ((((l5 : Nat) : Int)) - 1)) fun n7 => (∃ n, L4.t R n a5 l5 c5 a6 l6 c6 n7 h)
def D3.g (R : Rt) (fr : Fr) (h : Hp) : Prop := gSlice (fr 5) fun a5 l5 c5 => gSlice (fr 6) fun a6 l6 c6 => D3.t R a5 l5 c5 a6 l6 c6 h
theorem D3.ok (R : Rt) (fr : Fr) (h : Hp) (g : D3.g R fr h) : den prog E (cAt C [true, true, true, false]) (Ex.then (D2.g R) (retQ E [.tmp 4] R)) fr h := by
  obtain ⟨a5, l5, c5, e5, g⟩ := gSlice_elim g
  obtain ⟨a6, l6, c6, e6, g⟩ := gSlice_elim g
  exact den_cut 1 (r := (cAt C [true, true, true, false, true])) (by kernel_rfl) (B6.ok R) (den_enter [(5, .slice a5 l5 c5), (6, .slice a6 l6 c6)] ⟨e5, e6, trivial⟩ (by kernel_rfl) g)
theorem W7.ok (R : Rt) (fr : Fr) (h : Hp) (g : D3.g R fr h) : den prog E (cAt C [true, true, true]) (retQ E [.tmp 4] R) fr h :=
  den_then (by kernel_rfl) (D2.ok R) (D3.ok R fr h g)
def D1.t (R : Rt) (a0 : Option Addr) (l0 : Nat) (c0 : Nat) (a1 : Option Addr) (l1 : Nat) (c1 : Nat) (h : Hp) : Prop :=
  HC nat_trim.id #[.slice a0 l0 c0] h fun v1 h2 =>
  gSlice v1 fun a_3 l_3 c_3 =>
  HC nat_trim.id #[.slice a1 l1 c1] h2 fun v4 h5 =>
  gSlice v4 fun a_6 l_6 c_6 =>
  cond ((((l_3 : Nat) : Int)) != (((l_6 : Nat) : Int))) (cond (decide ((((l_3 : Nat) : Int)) < (((l_6 : Nat) : Int)))) (R (.int .i64 (-1)) h5) (R (.int .i64 1) h5)) (D3.t R a_3 l_3 c_3 a_6 l_6 c_6 h5)
def D1.g (R : Rt) (fr : Fr) (h : Hp) : Prop := gSlice (fr 0) fun a0 l0 c0 => gSlice (fr 1) fun a1 l1 c1 => D1.t R a0 l0 c0 a1 l1 c1 h
theorem D1.ok (R : Rt) (fr : Fr) (h : Hp) (g : D1.g R fr h) : den prog E C (retQ E [.tmp 4] R) fr h := by
  obtain ⟨a0, l0, c0, e0, g⟩ := gSlice_elim g
  obtain ⟨a1, l1, c1, e1, g⟩ := gSlice_elim g
  exact den_cut 3 (r := (cAt C [true, true, true])) (by kernel_rfl) (W7.ok R) (den_enter [(0, .slice a0 l0 c0), (1, .slice a1 l1 c1)] ⟨e0, e1, trivial⟩ (by kernel_rfl) g)
def t (a0 : Option Addr) (l0 : Nat) (c0 : Nat) (a1 : Option Addr) (l1 : Nat) (c1 : Nat) (h : Hp) (R : Rt) : Prop := D1.t R a0 l0 c0 a1 l1 c1 h
theorem ok {a0 : Option Addr} {l0 : Nat} {c0 : Nat} {a1 : Option Addr} {l1 : Nat} {c1 : Nat} {h : Hp} {R : Rt} (g : t a0 l0 c0 a1 l1 c1 h R) : HC id #[.slice a0 l0 c0, .slice a1 l1 c1] h R :=
  calls_of_den' envOk (c := C) (rs := [.tmp 4]) Tryd.func14 (by kernel_rfl) (by kernel_rfl) (by kernel_rfl) (args := [.slice a0 l0 c0, .slice a1 l1 c1]) (by kernel_rfl) (D1.ok R _ h (gSlice_intro rfl (gSlice_intro rfl (g))))
end nat_Cmp

namespace nat_Norm
noncomputable def C : Code := bodyOf Tryd.f15
def D1.t (R : Rt) (a0 : Option Addr) (l0 : Nat) (c0 : Nat) (h : Hp) : Prop :=
  HC nat_trim.id #[.slice a0 l0 c0] h fun v1 h2 =>
  gSlice v1 fun a_3 l_3 c_3 =>
  cond (decide ((((l_3 : Nat) : Int)) > 8192)) (R (.tuple #[.slice none 0 0, .int .i64 5]) h2) (mkK h2 28 T28 (((l_3 : Nat) : Int)) (((l_3 : Nat) : Int)) fun q4 h5 =>
  cpK h5 1 (some q4) ((((l_3 : Nat) : Int)).toNat) (.slice a_3 l_3 c_3) fun n6 h6 =>
  R (.tuple #[.slice (some q4) ((((l_3 : Nat) : Int)).toNat) ((((l_3 : Nat) : Int)).toNat), .int .i64 0]) h6)
def D1.g (R : Rt) (fr : Fr) (h : Hp) : Prop := gSlice (fr 0) fun a0 l0 c0 => D1.t R a0 l0 c0 h
theorem D1.ok (R : Rt) (fr : Fr) (h : Hp) (g : D1.g R fr h) : den prog E C (retQ E [.tmp 2, .tmp 3] R) fr h := by
  obtain ⟨a0, l0, c0, e0, g⟩ := gSlice_elim g
  exact den_enter [(0, .slice a0 l0 c0)] ⟨e0, trivial⟩ (by kernel_rfl) g
def t (a0 : Option Addr) (l0 : Nat) (c0 : Nat) (h : Hp) (R : Rt) : Prop := D1.t R a0 l0 c0 h
theorem ok {a0 : Option Addr} {l0 : Nat} {c0 : Nat} {h : Hp} {R : Rt} (g : t a0 l0 c0 h R) : HC id #[.slice a0 l0 c0] h R :=
  calls_of_den' envOk (c := C) (rs := [.tmp 2, .tmp 3]) Tryd.func15 (by kernel_rfl) (by kernel_rfl) (by kernel_rfl) (args := [.slice a0 l0 c0]) (by kernel_rfl) (D1.ok R _ h (gSlice_intro rfl (g)))
end nat_Norm

namespace nat_DivWord
noncomputable def C : Code := bodyOf Tryd.f16
def D2.t (R : Rt) (a7 : Option Addr) (l7 : Nat) (c7 : Nat) (x8 : Int) (h : Hp) : Prop :=
  HC nat_told.id #[.slice a7 l7 c7] h fun v6 h7 =>
  gTup v6 fun y8 =>
  uncons y8 fun v9 y9 =>
  gSlice v9 fun a_10 l_10 c_10 =>
  uncons y9 fun v11 y11 =>
  gInt .i64 v11 fun x_12 =>
  unnil y11 <| R (.tuple #[.slice a_10 l_10 c_10, .int .u64 x8, .int .i64 0]) h7
def D2.g (R : Rt) (fr : Fr) (h : Hp) : Prop := gSlice (fr 7) fun a7 l7 c7 => gInt .u64 (fr 8) fun x8 => D2.t R a7 l7 c7 x8 h
theorem D2.ok (R : Rt) (fr : Fr) (h : Hp) (g : D2.g R fr h) : den prog E (cAt C [true, true, true, true, true, true]) (retQ E [.tmp 4, .tmp 5, .tmp 6] R) fr h := by
  obtain ⟨a7, l7, c7, e7, g⟩ := gSlice_elim g
  obtain ⟨x8, e8, g⟩ := gInt_elim g
  exact den_enter [(7, .slice a7 l7 c7), (8, .int .u64 x8)] ⟨e7, e8, trivial⟩ (by kernel_rfl) g
def L4.g (N : Option Addr → Nat → Nat → Int → Option Addr → Nat → Nat → Int → Int → Hp → Prop) (fr : Fr) (h : Hp) : Prop := gSlice (fr 0) fun a0 l0 c0 => gInt .u64 (fr 1) fun x1 => gSlice (fr 7) fun a7 l7 c7 => gInt .u64 (fr 8) fun x8 => gInt .i64 (fr 9) fun x9 => N a0 l0 c0 x1 a7 l7 c7 x8 x9 h
def D5.t (R : Rt) (N4 : Option Addr → Nat → Nat → Int → Option Addr → Nat → Nat → Int → Int → Hp → Prop) (a0 : Option Addr) (l0 : Nat) (c0 : Nat) (x1 : Int) (a7 : Option Addr) (l7 : Nat) (c7 : Nat) (x8 : Int) (x9 : Int) (h : Hp) : Prop :=
  cond (decide (x9 ≥ 0)) (idxK a0 l0 x9 1 fun q14 =>
  ldK h q14 fun v15 =>
  gInt .u64 v15 fun x_16 =>
  HC bits_Div64.id #[.int .u64 x8, .int .u64 x_16, .int .u64 x1] h fun v17 h18 =>
  gTup v17 fun y19 =>
  uncons y19 fun v20 y20 =>
  gInt .u64 v20 fun x_21 =>
  uncons y20 fun v22 y22 =>
  gInt .u64 v22 fun x_23 =>
  unnil y22 <| idxK a7 l7 x9 1 fun q24 =>
  stK h18 q24 (.int .u64 x_21) fun h25 =>
  letK (IntKind.i64.wrap (x9 - 1)) fun n26 =>
  N4 a0 l0 c0 x1 a7 l7 c7 x_23 n26 h25) (D2.t R a7 l7 c7 x8 h)
def D5.g (R : Rt) (N4 : Option Addr → Nat → Nat → Int → Option Addr → Nat → Nat → Int → Int → Hp → Prop) (fr : Fr) (h : Hp) : Prop := gSlice (fr 0) fun a0 l0 c0 => gInt .u64 (fr 1) fun x1 => gSlice (fr 7) fun a7 l7 c7 => gInt .u64 (fr 8) fun x8 => gInt .i64 (fr 9) fun x9 => D5.t R N4 a0 l0 c0 x1 a7 l7 c7 x8 x9 h
theorem D5.ok (R : Rt) (N4 : Option Addr → Nat → Nat → Int → Option Addr → Nat → Nat → Int → Int → Hp → Prop) (fr : Fr) (h : Hp) (g : D5.g R N4 fr h) : den prog E (cAt C [true, true, true, true, true, false, true, false, false]) (Ex.then (L4.g N4) (Ex.inBlock 0 (Ex.then (D2.g R) (retQ E [.tmp 4, .tmp 5, .tmp 6] R)))) fr h := by
  obtain ⟨a0, l0, c0, e0, g⟩ := gSlice_elim g
  obtain ⟨x1, e1, g⟩ := gInt_elim g
  obtain ⟨a7, l7, c7, e7, g⟩ := gSlice_elim g
  obtain ⟨x8, e8, g⟩ := gInt_elim g
  obtain ⟨x9, e9, g⟩ := gInt_elim g
  exact den_enter [(0, .slice a0 l0 c0), (1, .int .u64 x1), (7, .slice a7 l7 c7), (8, .int .u64 x8), (9, .int .i64 x9)] ⟨e0, e1, e7, e8, e9, trivial⟩ (by kernel_rfl) g
def L4.t (R : Rt) : Nat → Option Addr → Nat → Nat → Int → Option Addr → Nat → Nat → Int → Int → Hp → Prop
  | 0 => fun _ _ _ _ _ _ _ _ _ _ => False
  | n + 1 => fun a0 l0 c0 x1 a7 l7 c7 x8 x9 h => D5.t R (L4.t R n) a0 l0 c0 x1 a7 l7 c7 x8 x9 h
theorem L4.ok (R : Rt) (fr : Fr) (h : Hp) (g : L4.g (fun a0 l0 c0 x1 a7 l7 c7 x8 x9 h => ∃ n, L4.t R n a0 l0 c0 x1 a7 l7 c7 x8 x9 h) fr h) : den prog E (cAt C [true, true, true, true, true, false, true, false]) (Ex.inBlock 0 (Ex.then (D2.g R) (retQ E [.tmp 4, .tmp 5, .tmp 6] R))) fr h := by
  obtain ⟨a0, l0, c0, e0, g⟩ := gSlice_elim g
  obtain ⟨x1, e1, g⟩ := gInt_elim g
  obtain ⟨a7, l7, c7, e7, g⟩ := gSlice_elim g
  obtain ⟨x8, e8, g⟩ := gInt_elim g
  obtain ⟨x9, e9, g⟩ := gInt_elim g
  obtain ⟨n, g⟩ := g
  refine loop_ok (fun n => L4.g (L4.t R n)) (b := (cAt C [true, true, true, true, true, false, true, false, false])) (by kernel_rfl) (fun fr h g => ?_) (fun n => D5.ok R (L4.t R n)) n fr h (gSlice_intro e0 (gInt_intro e1 (gSlice_intro e7 (gInt_intro e8 (gInt_intro e9 (g))))))
  obtain ⟨a0, l0, c0, e0, g⟩ := gSlice_elim g
  obtain ⟨x1, e1, g⟩ := gInt_elim g
  obtain ⟨a7, l7, c7, e7, g⟩ := gSlice_elim g
  obtain ⟨x8, e8, g⟩ := gInt_elim g
  obtain ⟨x9, e9, g⟩ := gInt_elim g
  exact g
theorem B6.ok (R : Rt) (fr : Fr) (h : Hp) (g : L4.g (fun a0 l0 c0 x1 a7 l7 c7 x8 x9 h => ∃ n, L4.t R n a0 l0 c0 x1 a7 l7 c7 x8 x9 h) fr h) : den prog E (cAt C [true, true, true, true, true, false, true]) (Ex.then (D2.g R) (retQ E [.tmp 4, .tmp 5, .tmp 6] R)) fr h :=
  den_block (by kernel_rfl) (L4.ok R fr h g)
def D3.t (R : Rt) (a0 : Option Addr) (l0 : Nat) (c0 : Nat) (x1 : Int) (a7 : Option Addr) (l7 : Nat) (c7 : Nat) (x8 : Int) (h : Hp) : Prop :=
  letK (IntKind.i64.wrap ((((l0 : Nat) : Int)) - 1)) fun n13 => (∃ n, L4.t R n a0 l0 c0 x1 a7 l7 c7 x8 n13 h)
def D3.g (R : Rt) (fr : Fr) (h : Hp) : Prop := gSlice (fr 0) fun a0 l0 c0 => gInt .u64 (fr 1) fun x1 => gSlice (fr 7) fun a7 l7 c7 => gInt .u64 (fr 8) fun x8 => D3.t R a0 l0 c0 x1 a7 l7 c7 x8 h
theorem D3.ok (R : Rt) (fr : Fr) (h : Hp) (g : D3.g R fr h) : den prog E (cAt C [true, true, true, true, true, false]) (Ex.then (D2.g R) (retQ E [.tmp 4, .tmp 5, .tmp 6] R)) fr h := by
  obtain ⟨a0, l0, c0, e0, g⟩ := gSlice_elim g
  obtain ⟨x1, e1, g⟩ := gInt_elim g
  obtain ⟨a7, l7, c7, e7, g⟩ := gSlice_elim g
  obtain ⟨x8, e8, g⟩ := gInt_elim g
  exact den_cut 1 (r := (cAt C [true, true, true, true, true, false, true])) (by kernel_rfl) (B6.ok R) (den_enter [(0, .slice a0 l0 c0), (1, .int .u64 x1), (7, .slice a7 l7 c7), (8, .int .u64 x8)] ⟨e0, e1, e7, e8, trivial⟩ (by kernel_rfl) g)
theorem W7.ok (R : Rt) (fr : Fr) (h : Hp) (g : D3.g R fr h) : den prog E (cAt C [true, true, true, true, true]) (retQ E [.tmp 4, .tmp 5, .tmp 6] R) fr h :=
  den_then (by kernel_rfl) (D2.ok R) (D3.ok R fr h g)
def D1.t (R : Rt) (a0 : Option Addr) (l0 : Nat) (c0 : Nat) (x1 : Int) (h : Hp) : Prop :=
  HC nat_Form.id #[.slice a0 l0 c0] h fun v1 h2 =>
  gBool v1 fun b_3 =>
  cond (!b_3) (R (.tuple #[.slice none 0 0, .int .u64 0, .int .i64 2]) h2) (cond (x1 == 0) (R (.tuple #[.slice none 0 0, .int .u64 0, .int .i64 4]) h2) (mkK h2 28 T28 (((l0 : Nat) : Int)) (((l0 : Nat) : Int)) fun q4 h5 =>
  D3.t R a0 l0 c0 x1 (some q4) ((((l0 : Nat) : Int)).toNat) ((((l0 : Nat) : Int)).toNat) 0 h5))
def D1.g (R : Rt) (fr : Fr) (h : Hp) : Prop := gSlice (fr 0) fun a0 l0 c0 => gInt .u64 (fr 1) fun x1 => D1.t R a0 l0 c0 x1 h
theorem D1.ok (R : Rt) (fr : Fr) (h : Hp) (g : D1.g R fr h) : den prog E C (retQ E [.tmp 4, .tmp 5, .tmp 6] R) fr h := by
  obtain ⟨a0, l0, c0, e0, g⟩ := gSlice_elim g
  obtain ⟨x1, e1, g⟩ := gInt_elim g
  exact den_cut 5 (r := (cAt C [true, true, true, true, true])) (by kernel_rfl) (W7.ok R) (den_enter [(0, .slice a0 l0 c0), (1, .int .u64 x1)] ⟨e0, e1, trivial⟩ (by kernel_rfl) g)
def t (a0 : Option Addr) (l0 : Nat) (c0 : Nat) (x1 : Int) (h : Hp) (R : Rt) : Prop := D1.t R a0 l0 c0 x1 h
theorem ok {a0 : Option Addr} {l0 : Nat} {c0 : Nat} {x1 : Int} {h : Hp} {R : Rt} (g : t a0 l0 c0 x1 h R) : HC id #[.slice a0 l0 c0, .int .u64 x1] h R :=
  calls_of_den' envOk (c := C) (rs := [.tmp 4, .tmp 5, .tmp 6]) Tryd.func16 (by kernel_rfl) (by kernel_rfl) (by kernel_rfl) (args := [.slice a0 l0 c0, .int .u64 x1]) (by kernel_rfl) (D1.ok R _ h (gSlice_intro rfl (gInt_intro rfl (g))))
end nat_DivWord

namespace nat_Word
noncomputable def C : Code := bodyOf Tryd.f17
def D1.t (R : Rt) (x0 : Int) (h : Hp) : Prop :=
  cond (x0 == 0) (R (.slice none 0 0) h) (boxK h 28 [.int .u64 x0] fun q1 h2 => R (.slice (some q1) 1 1) h2)
def D1.g (R : Rt) (fr : Fr) (h : Hp) : Prop := gInt .u64 (fr 0) fun x0 => D1.t R x0 h
theorem D1.ok (R : Rt) (fr : Fr) (h : Hp) (g : D1.g R fr h) : den prog E C (retQ E [.tmp 2] R) fr h := by
  obtain ⟨x0, e0, g⟩ := gInt_elim g
  exact den_enter [(0, .int .u64 x0)] ⟨e0, trivial⟩ (by kernel_rfl) g
def t (x0 : Int) (h : Hp) (R : Rt) : Prop := D1.t R x0 h
theorem ok {x0 : Int} {h : Hp} {R : Rt} (g : t x0 h R) : HC id #[.int .u64 x0] h R :=
  calls_of_den' envOk (c := C) (rs := [.tmp 2]) Tryd.func17 (by kernel_rfl) (by kernel_rfl) (by kernel_rfl) (args := [.int .u64 x0]) (by kernel_rfl) (D1.ok R _ h (gInt_intro rfl (g)))
end nat_Word

namespace bits_LeadingZeros64
noncomputable def C : Code := bodyOf Tryd.f18
def D1.t (R : Rt) (x0 : Int) (h : Hp) : Prop :=
  HC bits_Len64.id #[.int .u64 x0] h fun v1 h2 =>
  gInt .i64 v1 fun x_3 =>
  letK (IntKind.i64.wrap (64 - x_3)) fun n4 =>
  R (.int .i64 n4) h2
def D1.g (R : Rt) (fr : Fr) (h : Hp) : Prop := gInt .u64 (fr 0) fun x0 => D1.t R x0 h
theorem D1.ok (R : Rt) (fr : Fr) (h : Hp) (g : D1.g R fr h) : den prog E C (retQ E [.tmp 2] R) fr h := by
  obtain ⟨x0, e0, g⟩ := gInt_elim g
  exact den_enter [(0, .int .u64 x0)] ⟨e0, trivial⟩ (by kernel_rfl) g
def t (x0 : Int) (h : Hp) (R : Rt) : Prop := D1.t R x0 h
theorem ok {x0 : Int} {h : Hp} {R : Rt} (g : t x0 h R) : HC id #[.int .u64 x0] h R :=
  calls_of_den' envOk (c := C) (rs := [.tmp 2]) Tryd.func18 (by kernel_rfl) (by kernel_rfl) (by kernel_rfl) (args := [.int .u64 x0]) (by kernel_rfl) (D1.ok R _ h (gInt_intro rfl (g)))
end bits_LeadingZeros64

namespace natdiv_shifted
noncomputable def C : Code := bodyOf Tryd.f19
def D2.t (R : Rt) (a7 : Option Addr) (l7 : Nat) (c7 : Nat) (h : Hp) : Prop :=
  R (.slice a7 l7 c7) h
def D2.g (R : Rt) (fr : Fr) (h : Hp) : Prop := gSlice (fr 7) fun a7 l7 c7 => D2.t R a7 l7 c7 h
theorem D2.ok (R : Rt) (fr : Fr) (h : Hp) (g : D2.g R fr h) : den prog E (cAt C [true, true, true, true, true, true]) (retQ E [.tmp 6] R) fr h := by
  obtain ⟨a7, l7, c7, e7, g⟩ := gSlice_elim g
  exact den_enter [(7, .slice a7 l7 c7)] ⟨e7, trivial⟩ (by kernel_rfl) g
def L4.g (N : Int → Option Addr → Nat → Nat → Int → Int → Int → Hp → Prop) (fr : Fr) (h : Hp) : Prop := gInt .i64 (fr 1) fun x1 => gSlice (fr 7) fun a7 l7 c7 => gInt .u64 (fr 8) fun x8 => gInt .i64 (fr 19) fun x19 => gInt .i64 (fr 20) fun x20 => N x1 a7 l7 c7 x8 x19 x20 h
def D5.t (R : Rt) (N4 : Int → Option Addr → Nat → Nat → Int → Int → Int → Hp → Prop) (x1 : Int) (a7 : Option Addr) (l7 : Nat) (c7 : Nat) (x8 : Int) (x19 : Int) (x20 : Int) (h : Hp) : Prop :=
  cond (decide (x20 < x19)) (idxK a7 l7 x20 1 fun q4 =>
  ldK h q4 fun v5 =>
  gInt .u64 v5 fun x_6 =>
  0 ≤ x1 ∧ letK (shlI .u64 x_6 x1) fun n7 =>
  letK (orI .u64 n7 x8) fun n8 =>
  idxK a7 l7 x20 1 fun q9 =>
  ldK h q9 fun v10 =>
  gInt .u64 v10 fun x_11 =>
  letK (IntKind.i64.wrap (64 - x1)) fun n12 =>
  0 ≤ n12 ∧ letK (shrI .u64 x_11 n12) fun n13 =>
  idxK a7 l7 x20 1 fun q14 =>
  stK h q14 (.int .u64 n8) fun h15 =>
  letK (IntKind.i64.wrap (x20 + 1)) fun n16 =>
  N4 x1 a7 l7 c7 n13 x19 n16 h15) (D2.t R a7 l7 c7 h)
def D5.g (R : Rt) (N4 : Int → Option Addr → Nat → Nat → Int → Int → Int → Hp → Prop) (fr : Fr) (h : Hp) : Prop := gInt .i64 (fr 1) fun x1 => gSlice (fr 7) fun a7 l7 c7 => gInt .u64 (fr 8) fun x8 => gInt .i64 (fr 19) fun x19 => gInt .i64 (fr 20) fun x20 => D5.t R N4 x1 a7 l7 c7 x8 x19 x20 h
theorem D5.ok (R : Rt) (N4 : Int → Option Addr → Nat → Nat → Int → Int → Int → Hp → Prop) (fr : Fr) (h : Hp) (g : D5.g R N4 fr h) : den prog E (cAt C [true, true, true, true, true, false, true, false, false]) (Ex.then (L4.g N4) (Ex.inBlock 0 (Ex.then (D2.g R) (retQ E [.tmp 6] R)))) fr h := by
  obtain ⟨x1, e1, g⟩ := gInt_elim g
  obtain ⟨a7, l7, c7, e7, g⟩ := gSlice_elim g
  obtain ⟨x8, e8, g⟩ := gInt_elim g
  obtain ⟨x19, e19, g⟩ := gInt_elim g
  obtain ⟨x20, e20, g⟩ := gInt_elim g
  exact den_enter [(1, .int .i64 x1), (7, .slice a7 l7 c7), (8, .int .u64 x8), (19, .int .i64 x19), (20, .int .i64 x20)] ⟨e1, e7, e8, e19, e20, trivial⟩ (by kernel_rfl) g
def L4.t (R : Rt) : Nat → Int → Option Addr → Nat → Nat → Int → Int → Int → Hp → Prop
  | 0 => fun _ _ _ _ _ _ _ _ => False
  | n + 1 => fun x1 a7 l7 c7 x8 x19 x20 h => D5.t R (L4.t R n) x1 a7 l7 c7 x8 x19 x20 h
theorem L4.ok (R : Rt) (fr : Fr) (h : Hp) (g : L4.g (fun x1 a7 l7 c7 x8 x19 x20 h => ∃ n, L4.t R n x1 a7 l7 c7 x8 x19 x20 h) fr h) : den prog E (cAt C [true, true, true, true, true, false, true, false]) (Ex.inBlock 0 (Ex.then (D2.g R) (retQ E [.tmp 6] R))) fr h := by
  obtain ⟨x1, e1, g⟩ := gInt_elim g
  obtain ⟨a7, l7, c7, e7, g⟩ := gSlice_elim g
  obtain ⟨x8, e8, g⟩ := gInt_elim g
  obtain ⟨x19, e19, g⟩ := gInt_elim g
  obtain ⟨x20, e20, g⟩ := gInt_elim g
  obtain ⟨n, g⟩ := g
  refine loop_ok (fun n => L4.g (L4.t R n)) (b := (cAt C [true, true, true, true, true, false, true, false, false])) (by kernel_rfl) (fun fr h g => ?_) (fun n => D5.ok R (L4.t R n)) n fr h (gInt_intro e1 (gSlice_intro e7 (gInt_intro e8 (gInt_intro e19 (gInt_intro e20 (g))))))
  obtain ⟨x1, e1, g⟩ := gInt_elim g
  obtain ⟨a7, l7, c7, e7, g⟩ := gSlice_elim g
  obtain ⟨x8, e8, g⟩ := gInt_elim g
  obtain ⟨x19, e19, g⟩ := gInt_elim g
  obtain ⟨x20, e20, g⟩ := gInt_elim g
  exact g
theorem B6.ok (R : Rt) (fr : Fr) (h : Hp) (g : L4.g (fun x1 a7 l7 c7 x8 x19 x20 h => ∃ n, L4.t R n x1 a7 l7 c7 x8 x19 x20 h) fr h) : den prog E (cAt C [true, true, true, true, true, false, true]) (Ex.then (D2.g R) (retQ E [.tmp 6] R)) fr h :=
  den_block (by kernel_rfl) (L4.ok R fr h g)
def D3.t (R : Rt) (x1 : Int) (a7 : Option Addr) (l7 : Nat) (c7 : Nat) (x8 : Int) (h : Hp) : Prop :=
  (∃ n, L4.t R n x1 a7 l7 c7 x8 (((l7 : Nat) : Int)) 0 h)
def D3.g (R : Rt) (fr : Fr) (h : Hp) : Prop := gInt .i64 (fr 1) fun x1 => gSlice (fr 7) fun a7 l7 c7 => gInt .u64 (fr 8) fun x8 => D3.t R x1 a7 l7 c7 x8 h
theorem D3.ok (R : Rt) (fr : Fr) (h : Hp) (g : D3.g R fr h) : den prog E (cAt C [true, true, true, true, true, false]) (Ex.then (D2.g R) (retQ E [.tmp 6] R)) fr h := by
  obtain ⟨x1, e1, g⟩ := gInt_elim g
  obtain ⟨a7, l7, c7, e7, g⟩ := gSlice_elim g
  obtain ⟨x8, e8, g⟩ := gInt_elim g
  exact den_cut 1 (r := (cAt C [true, true, true, true, true, false, true])) (by kernel_rfl) (B6.ok R) (den_enter [(1, .int .i64 x1), (7, .slice a7 l7 c7), (8, .int .u64 x8)] ⟨e1, e7, e8, trivial⟩ (by kernel_rfl) g)
theorem W7.ok (R : Rt) (fr : Fr) (h : Hp) (g : D3.g R fr h) : den prog E (cAt C [true, true, true, true, true]) (retQ E [.tmp 6] R) fr h :=
  den_then (by kernel_rfl) (D2.ok R) (D3.ok R fr h g)
def D1.t (R : Rt) (a0 : Option Addr) (l0 : Nat) (c0 : Nat) (x1 : Int) (x2 : Int) (h : Hp) : Prop :=
  mkK h 28 T28 x2 x2 fun q1 h2 =>
  cpK h2 1 (some q1) x2.toNat (.slice a0 l0 c0) fun n3 h3 =>
  cond (x1 == 0) (R (.slice (some q1) x2.toNat x2.toNat) h3) (D3.t R x1 (some q1) x2.toNat x2.toNat 0 h3)
def D1.g (R : Rt) (fr : Fr) (h : Hp) : Prop := gSlice (fr 0) fun a0 l0 c0 => gInt .i64 (fr 1) fun x1 => gInt .i64 (fr 2) fun x2 => D1.t R a0 l0 c0 x1 x2 h
theorem D1.ok (R : Rt) (fr : Fr) (h : Hp) (g : D1.g R fr h) : den prog E C (retQ E [.tmp 6] R) fr h := by
  obtain ⟨a0, l0, c0, e0, g⟩ := gSlice_elim g
  obtain ⟨x1, e1, g⟩ := gInt_elim g
  obtain ⟨x2, e2, g⟩ := gInt_elim g
  exact den_cut 5 (r := (cAt C [true, true, true, true, true])) (by kernel_rfl) (W7.ok R) (den_enter [(0, .slice a0 l0 c0), (1, .int .i64 x1), (2, .int .i64 x2)] ⟨e0, e1, e2, trivial⟩ (by kernel_rfl) g)
def t (a0 : Option Addr) (l0 : Nat) (c0 : Nat) (x1 : Int) (x2 : Int) (h : Hp) (R : Rt) : Prop := D1.t R a0 l0 c0 x1 x2 h
theorem ok {a0 : Option Addr} {l0 : Nat} {c0 : Nat} {x1 : Int} {x2 : Int} {h : Hp} {R : Rt} (g : t a0 l0 c0 x1 x2 h R) : HC id #[.slice a0 l0 c0, .int .i64 x1, .int .i64 x2] h R :=
  calls_of_den' envOk (c := C) (rs := [.tmp 6]) Tryd.func19 (by kernel_rfl) (by kernel_rfl) (by kernel_rfl) (args := [.slice a0 l0 c0, .int .i64 x1, .int .i64 x2]) (by kernel_rfl) (D1.ok R _ h (gSlice_intro rfl (gInt_intro rfl (gInt_intro rfl (g)))))
end natdiv_shifted

namespace natdiv_long
noncomputable def C : Code := bodyOf Tryd.f20
def D3.t (R : Rt) (a6 : Option Addr) (l6 : Nat) (c6 : Nat) (h : Hp) : Prop :=
  R (.slice a6 l6 c6) h
def D3.g (R : Rt) (fr : Fr) (h : Hp) : Prop := gSlice (fr 6) fun a6 l6 c6 => D3.t R a6 l6 c6 h
theorem D3.ok (R : Rt) (fr : Fr) (h : Hp) (g : D3.g R fr h) : den prog E (cAt C [true, false, true, true, true, true]) (retQ E [.tmp 4] R) fr h := by
  obtain ⟨a6, l6, c6, e6, g⟩ := gSlice_elim g
  exact den_enter [(6, .slice a6 l6 c6)] ⟨e6, trivial⟩ (by kernel_rfl) g
def L5.g (N : Option Addr → Nat → Nat → Option Addr → Nat → Nat → Int → Option Addr → Nat → Nat → Int → Hp → Prop) (fr : Fr) (h : Hp) : Prop := gSlice (fr 0) fun a0 l0 c0 => gSlice (fr 1) fun a1 l1 c1 => gInt .i64 (fr 5) fun x5 => gSlice (fr 6) fun a6 l6 c6 => gInt .i64 (fr 7) fun x7 => N a0 l0 c0 a1 l1 c1 x5 a6 l6 c6 x7 h
def D7.t (R : Rt) (N5 : Option Addr → Nat → Nat → Option Addr → Nat → Nat → Int → Option Addr → Nat → Nat → Int → Hp → Prop) (a0 : Option Addr) (l0 : Nat) (c0 : Nat) (a1 : Option Addr) (l1 : Nat) (c1 : Nat) (x5 : Int) (a6 : Option Addr) (l6 : Nat) (c6 : Nat) (x7 : Int) (h : Hp) : Prop :=
  letK (IntKind.i64.wrap (x7 - 1)) fun n6 => N5 a0 l0 c0 a1 l1 c1 x5 a6 l6 c6 n6 h
def D7.g (R : Rt) (N5 : Option Addr → Nat → Nat → Option Addr → Nat → Nat → Int → Option Addr → Nat → Nat → Int → Hp → Prop) (fr : Fr) (h : Hp) : Prop := gSlice (fr 0) fun a0 l0 c0 => gSlice (fr 1) fun a1 l1 c1 => gInt .i64 (fr 5) fun x5 => gSlice (fr 6) fun a6 l6 c6 => gInt .i64 (fr 7) fun x7 => D7.t R N5 a0 l0 c0 a1 l1 c1 x5 a6 l6 c6 x7 h
theorem D7.ok (R : Rt) (N5 : Option Addr → Nat → Nat → Option Addr → Nat → Nat → Int → Option Addr → Nat → Nat → Int → Hp → Prop) (fr : Fr) (h : Hp) (g : D7.g R N5 fr h) : den prog E (cAt C [true, false, true, true, true, false, true, false, false, true, true]) (Ex.then (L5.g N5) (Ex.inBlock 0 (Ex.then (D3.g R) (retQ E [.tmp 4] R)))) fr h := by
  obtain ⟨a0, l0, c0, e0, g⟩ := gSlice_elim g
  obtain ⟨a1, l1, c1, e1, g⟩ := gSlice_elim g
  obtain ⟨x5, e5, g⟩ := gInt_elim g
  obtain ⟨a6, l6, c6, e6, g⟩ := gSlice_elim g
  obtain ⟨x7, e7, g⟩ := gInt_elim g
  exact den_enter [(0, .slice a0 l0 c0), (1, .slice a1 l1 c1), (5, .int .i64 x5), (6, .slice a6 l6 c6), (7, .int .i64 x7)] ⟨e0, e1, e5, e6, e7, trivial⟩ (by kernel_rfl) g
def L9.g (N : Option Addr → Nat → Nat → Option Addr → Nat → Nat → Int → Option Addr → Nat → Nat → Int → Int → Option Addr → Nat → Nat → Hp → Prop) (fr : Fr) (h : Hp) : Prop := gSlice (fr 0) fun a0 l0 c0 => gSlice (fr 1) fun a1 l1 c1 => gInt .i64 (fr 5) fun x5 => gSlice (fr 6) fun a6 l6 c6 => gInt .i64 (fr 7) fun x7 => gInt .u64 (fr 8) fun x8 => gSlice (fr 9) fun a9 l9 c9 => N a0 l0 c0 a1 l1 c1 x5 a6 l6 c6 x7 x8 a9 l9 c9 h
def D10.t (R : Rt) (N5 : Option Addr → Nat → Nat → Option Addr → Nat → Nat → Int → Option Addr → Nat → Nat → Int → Hp → Prop) (N9 : Option Addr → Nat → Nat → Option Addr → Nat → Nat → Int → Option Addr → Nat → Nat → Int → Int → Option Addr → Nat → Nat → Hp → Prop) (a0 : Option Addr) (l0 : Nat) (c0 : Nat) (a1 : Option Addr) (l1 : Nat) (c1 : Nat) (x5 : Int) (a6 : Option Addr) (l6 : Nat) (c6 : Nat) (x7 : Int) (x8 : Int) (a9 : Option Addr) (l9 : Nat) (c9 : Nat) (h : Hp) : Prop :=
  letK (IntKind.u64.wrap (x8 - 1)) fun n31 =>
  HC natdiv_giveBack.id #[.slice a9 l9 c9, .slice a1 l1 c1] h fun v32 h33 =>
  gInt .u64 v32 fun x_34 =>
  cond (x_34 == 1) (idxK a6 l6 x7 1 fun q35 =>
  stK h33 q35 (.int .u64 n31) fun h36 =>
  D7.t R N5 a0 l0 c0 a1 l1 c1 x5 a6 l6 c6 x7 h36) (N9 a0 l0 c0 a1 l1 c1 x5 a6 l6 c6 x7 n31 a9 l9 c9 h33)
def D10.g (R : Rt) (N5 : Option Addr → Nat → Nat → Option Addr → Nat → Nat → Int → Option Addr → Nat → Nat → Int → Hp → Prop) (N9 : Option Addr → Nat → Nat → Option Addr → Nat → Nat → Int → Option Addr → Nat → Nat → Int → Int → Option Addr → Nat → Nat → Hp → Prop) (fr : Fr) (h : Hp) : Prop := gSlice (fr 0) fun a0 l0 c0 => gSlice (fr 1) fun a1 l1 c1 => gInt .i64 (fr 5) fun x5 => gSlice (fr 6) fun a6 l6 c6 => gInt .i64 (fr 7) fun x7 => gInt .u64 (fr 8) fun x8 => gSlice (fr 9) fun a9 l9 c9 => D10.t R N5 N9 a0 l0 c0 a1 l1 c1 x5 a6 l6 c6 x7 x8 a9 l9 c9 h
theorem D10.ok (R : Rt) (N5 : Option Addr → Nat → Nat → Option Addr → Nat → Nat → Int → Option Addr → Nat → Nat → Int → Hp → Prop) (N9 : Option Addr → Nat → Nat → Option Addr → Nat → Nat → Int → Option Addr → Nat → Nat → Int → Int → Option Addr → Nat → Nat → Hp → Prop) (fr : Fr) (h : Hp) (g : D10.g R N5 N9 fr h) : den prog E (cAt C [true, false, true, true, true, false, true, false, false, true, false, false, true, true, true, false, false]) (Ex.then (L9.g N9) (Ex.inBlock 2 (Ex.inBlock 1 (Ex.then (D7.g R N5) (Ex.then (L5.g N5) (Ex.inBlock 0 (Ex.then (D3.g R) (retQ E [.tmp 4] R)))))))) fr h := by
  obtain ⟨a0, l0, c0, e0, g⟩ := gSlice_elim g
  obtain ⟨a1, l1, c1, e1, g⟩ := gSlice_elim g
  obtain ⟨x5, e5, g⟩ := gInt_elim g
  obtain ⟨a6, l6, c6, e6, g⟩ := gSlice_elim g
  obtain ⟨x7, e7, g⟩ := gInt_elim g
  obtain ⟨x8, e8, g⟩ := gInt_elim g
  obtain ⟨a9, l9, c9, e9, g⟩ := gSlice_elim g
  exact den_enter [(0, .slice a0 l0 c0), (1, .slice a1 l1 c1), (5, .int .i64 x5), (6, .slice a6 l6 c6), (7, .int .i64 x7), (8, .int .u64 x8), (9, .slice a9 l9 c9)] ⟨e0, e1, e5, e6, e7, e8, e9, trivial⟩ (by kernel_rfl) g
def L9.t (R : Rt) (N5 : Option Addr → Nat → Nat → Option Addr → Nat → Nat → Int → Option Addr → Nat → Nat → Int → Hp → Prop) : Nat → Option Addr → Nat → Nat → Option Addr → Nat → Nat → Int → Option Addr → Nat → Nat → Int → Int → Option Addr → Nat → Nat → Hp → Prop
  | 0 => fun _ _ _ _ _ _ _ _ _ _ _ _ _ _ _ _ => False
  | n + 1 => fun a0 l0 c0 a1 l1 c1 x5 a6 l6 c6 x7 x8 a9 l9 c9 h => D10.t R N5 (L9.t R N5 n) a0 l0 c0 a1 l1 c1 x5 a6 l6 c6 x7 x8 a9 l9 c9 h
theorem L9.ok (R : Rt) (N5 : Option Addr → Nat → Nat → Option Addr → Nat → Nat → Int → Option Addr → Nat → Nat → Int → Hp → Prop) (fr : Fr) (h : Hp) (g : L9.g (fun a0 l0 c0 a1 l1 c1 x5 a6 l6 c6 x7 x8 a9 l9 c9 h => ∃ n, L9.t R N5 n a0 l0 c0 a1 l1 c1 x5 a6 l6 c6 x7 x8 a9 l9 c9 h) fr h) : den prog E (cAt C [true, false, true, true, true, false, true, false, false, true, false, false, true, true, true, false]) (Ex.inBlock 2 (Ex.inBlock 1 (Ex.then (D7.g R N5) (Ex.then (L5.g N5) (Ex.inBlock 0 (Ex.then (D3.g R) (retQ E [.tmp 4] R))))))) fr h := by
  obtain ⟨a0, l0, c0, e0, g⟩ := gSlice_elim g
  obtain ⟨a1, l1, c1, e1, g⟩ := gSlice_elim g
  obtain ⟨x5, e5, g⟩ := gInt_elim g
  obtain ⟨a6, l6, c6, e6, g⟩ := gSlice_elim g
  obtain ⟨x7, e7, g⟩ := gInt_elim g
  obtain ⟨x8, e8, g⟩ := gInt_elim g
  obtain ⟨a9, l9, c9, e9, g⟩ := gSlice_elim g
  obtain ⟨n, g⟩ := g
  refine loop_ok (fun n => L9.g (L9.t R N5 n)) (b := (cAt C [true, false, true, true, true, false, true, false, false, true, false, false, true, true, true, false, false])) (by kernel_rfl) (fun fr h g => ?_) (fun n => D10.ok R N5 (L9.t R N5 n)) n fr h (gSlice_intro e0 (gSlice_intro e1 (gInt_intro e5 (gSlice_intro e6 (gInt_intro e7 (gInt_intro e8 (gSlice_intro e9 (g))))))))
  obtain ⟨a0, l0, c0, e0, g⟩ := gSlice_elim g
  obtain ⟨a1, l1, c1, e1, g⟩ := gSlice_elim g
  obtain ⟨x5, e5, g⟩ := gInt_elim g
  obtain ⟨a6, l6, c6, e6, g⟩ := gSlice_elim g
  obtain ⟨x7, e7, g⟩ := gInt_elim g
  obtain ⟨x8, e8, g⟩ := gInt_elim g
  obtain ⟨a9, l9, c9, e9, g⟩ := gSlice_elim g
  exact g
theorem B11.ok (R : Rt) (N5 : Option Addr → Nat → Nat → Option Addr → Nat → Nat → Int → Option Addr → Nat → Nat → Int → Hp → Prop) (fr : Fr) (h : Hp) (g : L9.g (fun a0 l0 c0 a1 l1 c1 x5 a6 l6 c6 x7 x8 a9 l9 c9 h => ∃ n, L9.t R N5 n a0 l0 c0 a1 l1 c1 x5 a6 l6 c6 x7 x8 a9 l9 c9 h) fr h) : den prog E (cAt C [true, false, true, true, true, false, true, false, false, true, false, false, true, true, true]) (Ex.inBlock 1 (Ex.then (D7.g R N5) (Ex.then (L5.g N5) (Ex.inBlock 0 (Ex.then (D3.g R) (retQ E [.tmp 4] R)))))) fr h :=
  den_block (by kernel_rfl) (L9.ok R N5 fr h g)
def D8.t (R : Rt) (N5 : Option Addr → Nat → Nat → Option Addr → Nat → Nat → Int → Option Addr → Nat → Nat → Int → Hp → Prop) (a0 : Option Addr) (l0 : Nat) (c0 : Nat) (a1 : Option Addr) (l1 : Nat) (c1 : Nat) (x5 : Int) (a6 : Option Addr) (l6 : Nat) (c6 : Nat) (x7 : Int) (h : Hp) : Prop :=
  letK (IntKind.i64.wrap (x7 + x5)) fun n7 =>
  idxK a0 l0 n7 1 fun q8 =>
  ldK h q8 fun v9 =>
  gInt .u64 v9 fun x_10 =>
  letK (IntKind.i64.wrap (x7 + x5)) fun n11 =>
  letK (IntKind.i64.wrap (n11 - 1)) fun n12 =>
  idxK a0 l0 n12 1 fun q13 =>
  ldK h q13 fun v14 =>
  gInt .u64 v14 fun x_15 =>
  letK (IntKind.i64.wrap (x5 - 1)) fun n16 =>
  idxK a1 l1 n16 1 fun q17 =>
  ldK h q17 fun v18 =>
  gInt .u64 v18 fun x_19 =>
  HC natdiv_trial.id #[.int .u64 x_10, .int .u64 x_15, .int .u64 x_19] h fun v20 h21 =>
  gInt .u64 v20 fun x_22 =>
  letK (IntKind.i64.wrap (x7 + x5)) fun n23 =>
  letK (IntKind.i64.wrap (n23 + 1)) fun n24 =>
  slK 1 a0 l0 c0 (some (.int .i64 x7)) (some (.int .i64 n24)) none fun a_25 l_25 c_25 =>
  HC natdiv_takeMul.id #[.slice a_25 l_25 c_25, .slice a1 l1 c1, .int .u64 x_22] h21 fun v26 h27 =>
  gInt .u64 v26 fun x_28 =>
  cond (x_28 == 0) (idxK a6 l6 x7 1 fun q29 =>
  stK h27 q29 (.int .u64 x_22) fun h30 =>
  D7.t R N5 a0 l0 c0 a1 l1 c1 x5 a6 l6 c6 x7 h30) ((∃ n, L9.t R N5 n a0 l0 c0 a1 l1 c1 x5 a6 l6 c6 x7 x_22 a_25 l_25 c_25 h27))
def D8.g (R : Rt) (N5 : Option Addr → Nat → Nat → Option Addr → Nat → Nat → Int → Option Addr → Nat → Nat → Int → Hp → Prop) (fr : Fr) (h : Hp) : Prop := gSlice (fr 0) fun a0 l0 c0 => gSlice (fr 1) fun a1 l1 c1 => gInt .i64 (fr 5) fun x5 => gSlice (fr 6) fun a6 l6 c6 => gInt .i64 (fr 7) fun x7 => D8.t R N5 a0 l0 c0 a1 l1 c1 x5 a6 l6 c6 x7 h
theorem D8.ok (R : Rt) (N5 : Option Addr → Nat → Nat → Option Addr → Nat → Nat → Int → Option Addr → Nat → Nat → Int → Hp → Prop) (fr : Fr) (h : Hp) (g : D8.g R N5 fr h) : den prog E (cAt C [true, false, true, true, true, false, true, false, false, true, false, false]) (Ex.inBlock 1 (Ex.then (D7.g R N5) (Ex.then (L5.g N5) (Ex.inBlock 0 (Ex.then (D3.g R) (retQ E [.tmp 4] R)))))) fr h := by
  obtain ⟨a0, l0, c0, e0, g⟩ := gSlice_elim g
  obtain ⟨a1, l1, c1, e1, g⟩ := gSlice_elim g
  obtain ⟨x5, e5, g⟩ := gInt_elim g
  obtain ⟨a6, l6, c6, e6, g⟩ := gSlice_elim g
  obtain ⟨x7, e7, g⟩ := gInt_elim g
  exact den_cut 3 (r := (cAt C [true, false, true, true, true, false, true, false, false, true, false, false, true, true, true])) (by kernel_rfl) (B11.ok R N5) (den_enter [(0, .slice a0 l0 c0), (1, .slice a1 l1 c1), (5, .int .i64 x5), (6, .slice a6 l6 c6), (7, .int .i64 x7)] ⟨e0, e1, e5, e6, e7, trivial⟩ (by kernel_rfl) g)
theorem B12.ok (R : Rt) (N5 : Option Addr → Nat → Nat → Option Addr → Nat → Nat → Int → Option Addr → Nat → Nat → Int → Hp → Prop) (fr : Fr) (h : Hp) (g : D8.g R N5 fr h) : den prog E (cAt C [true, false, true, true, true, false, true, false, false, true, false]) (Ex.then (D7.g R N5) (Ex.then (L5.g N5) (Ex.inBlock 0 (Ex.then (D3.g R) (retQ E [.tmp 4] R))))) fr h :=
  den_block (by kernel_rfl) (D8.ok R N5 fr h g)
theorem W13.ok (R : Rt) (N5 : Option Addr → Nat → Nat → Option Addr → Nat → Nat → Int → Option Addr → Nat → Nat → Int → Hp → Prop) (fr : Fr) (h : Hp) (g : D8.g R N5 fr h) : den prog E (cAt C [true, false, true, true, true, false, true, false, false, true]) (Ex.then (L5.g N5) (Ex.inBlock 0 (Ex.then (D3.g R) (retQ E [.tmp 4] R)))) fr h :=
  den_then (by kernel_rfl) (D7.ok R N5) (B12.ok R N5 fr h g)
def D6.t (R : Rt) (N5 : Option Addr → Nat → Nat → Option Addr → Nat → Nat → Int → Option Addr → Nat → Nat → Int → Hp → Prop) (a0 : Option Addr) (l0 : Nat) (c0 : Nat) (a1 : Option Addr) (l1 : Nat) (c1 : Nat) (x5 : Int) (a6 : Option Addr) (l6 : Nat) (c6 : Nat) (x7 : Int) (h : Hp) : Prop :=
  cond (decide (x7 ≥ 0)) (D8.t R N5 a0 l0 c0 a1 l1 c1 x5 a6 l6 c6 x7 h) (D3.t R a6 l6 c6 h)
def D6.g (R : Rt) (N5 : Option Addr → Nat → Nat → Option Addr → Nat → Nat → Int → Option Addr → Nat → Nat → Int → Hp → Prop) (fr : Fr) (h : Hp) : Prop := gSlice (fr 0) fun a0 l0 c0 => gSlice (fr 1) fun a1 l1 c1 => gInt .i64 (fr 5) fun x5 => gSlice (fr 6) fun a6 l6 c6 => gInt .i64 (fr 7) fun x7 => D6.t R N5 a0 l0 c0 a1 l1 c1 x5 a6 l6 c6 x7 h
theorem D6.ok (R : Rt) (N5 : Option Addr → Nat → Nat → Option Addr → Nat → Nat → Int → Option Addr → Nat → Nat → Int → Hp → Prop) (fr : Fr) (h : Hp) (g : D6.g R N5 fr h) : den prog E (cAt C [true, false, true, true, true, false, true, false, false]) (Ex.then (L5.g N5) (Ex.inBlock 0 (Ex.then (D3.g R) (retQ E [.tmp 4] R)))) fr h := by
  obtain ⟨a0, l0, c0, e0, g⟩ := gSlice_elim g
  obtain ⟨a1, l1, c1, e1, g⟩ := gSlice_elim g
  obtain ⟨x5, e5, g⟩ := gInt_elim g
  obtain ⟨a6, l6, c6, e6, g⟩ := gSlice_elim g
  obtain ⟨x7, e7, g⟩ := gInt_elim g
  exact den_cut 1 (r := (cAt C [true, false, true, true, true, false, true, false, false, true])) (by kernel_rfl) (W13.ok R N5) (den_enter [(0, .slice a0 l0 c0), (1, .slice a1 l1 c1), (5, .int .i64 x5), (6, .slice a6 l6 c6), (7, .int .i64 x7)] ⟨e0, e1, e5, e6, e7, trivial⟩ (by kernel_rfl) g)
def L5.t (R : Rt) : Nat → Option Addr → Nat → Nat → Option Addr → Nat → Nat → Int → Option Addr → Nat → Nat → Int → Hp → Prop
  | 0 => fun _ _ _ _ _ _ _ _ _ _ _ _ => False
  | n + 1 => fun a0 l0 c0 a1 l1 c1 x5 a6 l6 c6 x7 h => D6.t R (L5.t R n) a0 l0 c0 a1 l1 c1 x5 a6 l6 c6 x7 h
theorem L5.ok (R : Rt) (fr : Fr) (h : Hp) (g : L5.g (fun a0 l0 c0 a1 l1 c1 x5 a6 l6 c6 x7 h => ∃ n, L5.t R n a0 l0 c0 a1 l1 c1 x5 a6 l6 c6 x7 h) fr h) : den prog E (cAt C [true, false, true, true, true, false, true, false]) (Ex.inBlock 0 (Ex.then (D3.g R) (retQ E [.tmp 4] R))) fr h := by
  obtain ⟨a0, l0, c0, e0, g⟩ := gSlice_elim g
  obtain ⟨a1, l1, c1, e1, g⟩ := gSlice_elim g
  obtain ⟨x5, e5, g⟩ := gInt_elim g
  obtain ⟨a6, l6, c6, e6, g⟩ := gSlice_elim g
  obtain ⟨x7, e7, g⟩ := gInt_elim g
  obtain ⟨n, g⟩ := g
  refine loop_ok (fun n => L5.g (L5.t R n)) (b := (cAt C [true, false, true, true, true, false, true, false, false])) (by kernel_rfl) (fun fr h g => ?_) (fun n => D6.ok R (L5.t R n)) n fr h (gSlice_intro e0 (gSlice_intro e1 (gInt_intro e5 (gSlice_intro e6 (gInt_intro e7 (g))))))
  obtain ⟨a0, l0, c0, e0, g⟩ := gSlice_elim g
  obtain ⟨a1, l1, c1, e1, g⟩ := gSlice_elim g
  obtain ⟨x5, e5, g⟩ := gInt_elim g
  obtain ⟨a6, l6, c6, e6, g⟩ := gSlice_elim g
  obtain ⟨x7, e7, g⟩ := gInt_elim g
  exact g
theorem B14.ok (R : Rt) (fr : Fr) (h : Hp) (g : L5.g (fun a0 l0 c0 a1 l1 c1 x5 a6 l6 c6 x7 h => ∃ n, L5.t R n a0 l0 c0 a1 l1 c1 x5 a6 l6 c6 x7 h) fr h) : den prog E (cAt C [true, false, true, true, true, false, true]) (Ex.then (D3.g R) (retQ E [.tmp 4] R)) fr h :=
  den_block (by kernel_rfl) (L5.ok R fr h g)
def D4.t (R : Rt) (a0 : Option Addr) (l0 : Nat) (c0 : Nat) (a1 : Option Addr) (l1 : Nat) (c1 : Nat) (x5 : Int) (a6 : Option Addr) (l6 : Nat) (c6 : Nat) (h : Hp) : Prop :=
  letK (IntKind.i64.wrap ((((l0 : Nat) : Int)) - x5)) fun n4 =>
  letK (IntKind.i64.wrap (n4 - 1)) fun n5 =>
  (∃ n, L5.t R n a0 l0 c0 a1 l1 c1 x5 a6 l6 c6 n5 h)
def D4.g (R : Rt) (fr : Fr) (h : Hp) : Prop := gSlice (fr 0) fun a0 l0 c0 => gSlice (fr 1) fun a1 l1 c1 => gInt .i64 (fr 5) fun x5 => gSlice (fr 6) fun a6 l6 c6 => D4.t R a0 l0 c0 a1 l1 c1 x5 a6 l6 c6 h
theorem D4.ok (R : Rt) (fr : Fr) (h : Hp) (g : D4.g R fr h) : den prog E (cAt C [true, false, true, true, true, false]) (Ex.then (D3.g R) (retQ E [.tmp 4] R)) fr h := by
  obtain ⟨a0, l0, c0, e0, g⟩ := gSlice_elim g
  obtain ⟨a1, l1, c1, e1, g⟩ := gSlice_elim g
  obtain ⟨x5, e5, g⟩ := gInt_elim g
  obtain ⟨a6, l6, c6, e6, g⟩ := gSlice_elim g
  exact den_cut 1 (r := (cAt C [true, false, true, true, true, false, true])) (by kernel_rfl) (B14.ok R) (den_enter [(0, .slice a0 l0 c0), (1, .slice a1 l1 c1), (5, .int .i64 x5), (6, .slice a6 l6 c6)] ⟨e0, e1, e5, e6, trivial⟩ (by kernel_rfl) g)
theorem W15.ok (R : Rt) (fr : Fr) (h : Hp) (g : D4.g R fr h) : den prog E (cAt C [true, false, true, true, true]) (retQ E [.tmp 4] R) fr h :=
  den_then (by kernel_rfl) (D3.ok R) (D4.ok R fr h g)
def D2.t (R : Rt) (a0 : Option Addr) (l0 : Nat) (c0 : Nat) (a1 : Option Addr) (l1 : Nat) (c1 : Nat) (h : Hp) : Prop :=
  letK (IntKind.i64.wrap ((((l0 : Nat) : Int)) - (((l1 : Nat) : Int)))) fun n1 =>
  mkK h 28 T28 n1 n1 fun q2 h3 =>
  D4.t R a0 l0 c0 a1 l1 c1 (((l1 : Nat) : Int)) (some q2) n1.toNat n1.toNat h3
def D2.g (R : Rt) (fr : Fr) (h : Hp) : Prop := gSlice (fr 0) fun a0 l0 c0 => gSlice (fr 1) fun a1 l1 c1 => D2.t R a0 l0 c0 a1 l1 c1 h
theorem D2.ok (R : Rt) (fr : Fr) (h : Hp) (g : D2.g R fr h) : den prog E (cAt C [true, false]) (retQ E [.tmp 4] R) fr h := by
  obtain ⟨a0, l0, c0, e0, g⟩ := gSlice_elim g
  obtain ⟨a1, l1, c1, e1, g⟩ := gSlice_elim g
  exact den_cut 3 (r := (cAt C [true, false, true, true, true])) (by kernel_rfl) (W15.ok R) (den_enter [(0, .slice a0 l0 c0), (1, .slice a1 l1 c1)] ⟨e0, e1, trivial⟩ (by kernel_rfl) g)
theorem B16.ok (R : Rt) (fr : Fr) (h : Hp) (g : D2.g R fr h) : den prog E (cAt C [true]) (retQ E [.tmp 4] R) fr h :=
  den_scope (by kernel_rfl) (D2.ok R fr h g)
def D1.t (R : Rt) (a0 : Option Addr) (l0 : Nat) (c0 : Nat) (a1 : Option Addr) (l1 : Nat) (c1 : Nat) (h : Hp) : Prop :=
  D2.t R a0 l0 c0 a1 l1 c1 h
def D1.g (R : Rt) (fr : Fr) (h : Hp) : Prop := gSlice (fr 0) fun a0 l0 c0 => gSlice (fr 1) fun a1 l1 c1 => D1.t R a0 l0 c0 a1 l1 c1 h
theorem D1.ok (R : Rt) (fr : Fr) (h : Hp) (g : D1.g R fr h) : den prog E C (retQ E [.tmp 4] R) fr h := by
  obtain ⟨a0, l0, c0, e0, g⟩ := gSlice_elim g
  obtain ⟨a1, l1, c1, e1, g⟩ := gSlice_elim g
  exact den_cut 1 (r := (cAt C [true])) (by kernel_rfl) (B16.ok R) (den_enter [(0, .slice a0 l0 c0), (1, .slice a1 l1 c1)] ⟨e0, e1, trivial⟩ (by kernel_rfl) g)
def t (a0 : Option Addr) (l0 : Nat) (c0 : Nat) (a1 : Option Addr) (l1 : Nat) (c1 : Nat) (h : Hp) (R : Rt) : Prop := D1.t R a0 l0 c0 a1 l1 c1 h
theorem ok {a0 : Option Addr} {l0 : Nat} {c0 : Nat} {a1 : Option Addr} {l1 : Nat} {c1 : Nat} {h : Hp} {R : Rt} (g : t a0 l0 c0 a1 l1 c1 h R) : HC id #[.slice a0 l0 c0, .slice a1 l1 c1] h R :=
  calls_of_den' envOk (c := C) (rs := [.tmp 4]) Tryd.func20 (by kernel_rfl) (by kernel_rfl) (by kernel_rfl) (args := [.slice a0 l0 c0, .slice a1 l1 c1]) (by kernel_rfl) (D1.ok R _ h (gSlice_intro rfl (gSlice_intro rfl (g))))
end natdiv_long

namespace nat_Shr
noncomputable def C : Code := bodyOf Tryd.f21
def D2.t (R : Rt) (a8 : Option Addr) (l8 : Nat) (c8 : Nat) (h : Hp) : Prop :=
  HC nat_told.id #[.slice a8 l8 c8] h fun v9 h10 =>
  gTup v9 fun y11 =>
  uncons y11 fun v12 y12 =>
  gSlice v12 fun a_13 l_13 c_13 =>
  uncons y12 fun v14 y14 =>
  gInt .i64 v14 fun x_15 =>
  unnil y14 <| R (.tuple #[.slice a_13 l_13 c_13, .int .i64 x_15]) h10
def D2.g (R : Rt) (fr : Fr) (h : Hp) : Prop := gSlice (fr 8) fun a8 l8 c8 => D2.t R a8 l8 c8 h
theorem D2.ok (R : Rt) (fr : Fr) (h : Hp) (g : D2.g R fr h) : den prog E (cAt C [true, true, true, true, true, true, true]) (retQ E [.tmp 4, .tmp 5] R) fr h := by
  obtain ⟨a8, l8, c8, e8, g⟩ := gSlice_elim g
  exact den_enter [(8, .slice a8 l8 c8)] ⟨e8, trivial⟩ (by kernel_rfl) g
def L4.g (N : Option Addr → Nat → Nat → Int → Int → Option Addr → Nat → Nat → Int → Int → Hp → Prop) (fr : Fr) (h : Hp) : Prop := gSlice (fr 0) fun a0 l0 c0 => gInt .i64 (fr 6) fun x6 => gInt .i64 (fr 7) fun x7 => gSlice (fr 8) fun a8 l8 c8 => gInt .i64 (fr 29) fun x29 => gInt .i64 (fr 30) fun x30 => N a0 l0 c0 x6 x7 a8 l8 c8 x29 x30 h
def D5.t (R : Rt) (N4 : Option Addr → Nat → Nat → Int → Int → Option Addr → Nat → Nat → Int → Int → Hp → Prop) (a0 : Option Addr) (l0 : Nat) (c0 : Nat) (x6 : Int) (x7 : Int) (a8 : Option Addr) (l8 : Nat) (c8 : Nat) (x29 : Int) (x30 : Int) (h : Hp) : Prop :=
  cond (decide (x30 < x29)) (letK (IntKind.i64.wrap (x6 + x30)) fun n16 =>
  idxK a0 l0 n16 1 fun q17 =>
  ldK h q17 fun v18 =>
  gInt .u64 v18 fun x_19 =>
  0 ≤ x7 ∧ letK (shrI .u64 x_19 x7) fun n20 =>
  idxK a8 l8 x30 1 fun q21 =>
  stK h q21 (.int .u64 n20) fun h22 =>
  letK (IntKind.i64.wrap (x6 + x30)) fun n23 =>
  letK (IntKind.i64.wrap (n23 + 1)) fun n24 =>
  cond (decide (n24 < (((l0 : Nat) : Int)))) (idxK a8 l8 x30 1 fun q25 =>
  ldK h22 q25 fun v26 =>
  gInt .u64 v26 fun x_27 =>
  letK (IntKind.i64.wrap (x6 + x30)) fun n28 =>
  letK (IntKind.i64.wrap (n28 + 1)) fun n29 =>
  idxK a0 l0 n29 1 fun q30 =>
  ldK h22 q30 fun v31 =>
  gInt .u64 v31 fun x_32 =>
  0 ≤ (1 : Int) ∧ letK (shlI .u64 x_32 1) fun n33 =>
  letK (IntKind.i64.wrap (63 - x7)) fun n34 =>
  0 ≤ n34 ∧ letK (shlI .u64 n33 n34) fun n35 =>
  letK (orI .u64 x_27 n35) fun n36 =>
  idxK a8 l8 x30 1 fun q37 =>
  stK h22 q37 (.int .u64 n36) fun h38 =>
  letK (IntKind.i64.wrap (x30 + 1)) fun n39 =>
  N4 a0 l0 c0 x6 x7 a8 l8 c8 x29 n39 h38) (letK (IntKind.i64.wrap (x30 + 1)) fun n40 =>
  N4 a0 l0 c0 x6 x7 a8 l8 c8 x29 n40 h22)) (D2.t R a8 l8 c8 h)
def D5.g (R : Rt) (N4 : Option Addr → Nat → Nat → Int → Int → Option Addr → Nat → Nat → Int → Int → Hp → Prop) (fr : Fr) (h : Hp) : Prop := gSlice (fr 0) fun a0 l0 c0 => gInt .i64 (fr 6) fun x6 => gInt .i64 (fr 7) fun x7 => gSlice (fr 8) fun a8 l8 c8 => gInt .i64 (fr 29) fun x29 => gInt .i64 (fr 30) fun x30 => D5.t R N4 a0 l0 c0 x6 x7 a8 l8 c8 x29 x30 h
theorem D5.ok (R : Rt) (N4 : Option Addr → Nat → Nat → Int → Int → Option Addr → Nat → Nat → Int → Int → Hp → Prop) (fr : Fr) (h : Hp) (g : D5.g R N4 fr h) : den prog E (cAt C [true, true, true, true, true, true, false, true, false, false]) (Ex.then (L4.g N4) (Ex.inBlock 0 (Ex.then (D2.g R) (retQ E [.tmp 4, .tmp 5] R)))) fr h := by
  obtain ⟨a0, l0, c0, e0, g⟩ := gSlice_elim g
  obtain ⟨x6, e6, g⟩ := gInt_elim g
  obtain ⟨x7, e7, g⟩ := gInt_elim g
  obtain ⟨a8, l8, c8, e8, g⟩ := gSlice_elim g
  obtain ⟨x29, e29, g⟩ := gInt_elim g
  obtain ⟨x30, e30, g⟩ := gInt_elim g
  exact den_enter [(0, .slice a0 l0 c0), (6, .int .i64 x6), (7, .int .i64 x7), (8, .slice a8 l8 c8), (29, .int .i64 x29), (30, .int .i64 x30)] ⟨e0, e6, e7, e8, e29, e30, trivial⟩ (by kernel_rfl) g
def L4.t (R : Rt) : Nat → Option Addr → Nat → Nat → Int → Int → Option Addr → Nat → Nat → Int → Int → Hp → Prop
  | 0 => fun _ _ _ _ _ _ _ _ _ _ _ => False
  | n + 1 => fun a0 l0 c0 x6 x7 a8 l8 c8 x29 x30 h => D5.t R (L4.t R n) a0 l0 c0 x6 x7 a8 l8 c8 x29 x30 h
theorem L4.ok (R : Rt) (fr : Fr) (h : Hp) (g : L4.g (fun a0 l0 c0 x6 x7 a8 l8 c8 x29 x30 h => ∃ n, L4.t R n a0 l0 c0 x6 x7 a8 l8 c8 x29 x30 h) fr h) : den prog E (cAt C [true, true, true, true, true, true, false, true, false]) (Ex.inBlock 0 (Ex.then (D2.g R) (retQ E [.tmp 4, .tmp 5] R))) fr h := by
  obtain ⟨a0, l0, c0, e0, g⟩ := gSlice_elim g
  obtain ⟨x6, e6, g⟩ := gInt_elim g
  obtain ⟨x7, e7, g⟩ := gInt_elim g
  obtain ⟨a8, l8, c8, e8, g⟩ := gSlice_elim g
  obtain ⟨x29, e29, g⟩ := gInt_elim g
  obtain ⟨x30, e30, g⟩ := gInt_elim g
  obtain ⟨n, g⟩ := g
  refine loop_ok (fun n => L4.g (L4.t R n)) (b := (cAt C [true, true, true, true, true, true, false, true, false, false])) (by kernel_rfl) (fun fr h g => ?_) (fun n => D5.ok R (L4.t R n)) n fr h (gSlice_intro e0 (gInt_intro e6 (gInt_intro e7 (gSlice_intro e8 (gInt_intro e29 (gInt_intro e30 (g)))))))
  obtain ⟨a0, l0, c0, e0, g⟩ := gSlice_elim g
  obtain ⟨x6, e6, g⟩ := gInt_elim g
  obtain ⟨x7, e7, g⟩ := gInt_elim g
  obtain ⟨a8, l8, c8, e8, g⟩ := gSlice_elim g
  obtain ⟨x29, e29, g⟩ := gInt_elim g
  obtain ⟨x30, e30, g⟩ := gInt_elim g
  exact g
theorem B6.ok (R : Rt) (fr : Fr) (h : Hp) (g : L4.g (fun a0 l0 c0 x6 x7 a8 l8 c8 x29 x30 h => ∃ n, L4.t R n a0 l0 c0 x6 x7 a8 l8 c8 x29 x30 h) fr h) : den prog E (cAt C [true, true, true, true, true, true, false, true]) (Ex.then (D2.g R) (retQ E [.tmp 4, .tmp 5] R)) fr h :=
  den_block (by kernel_rfl) (L4.ok R fr h g)
def D3.t (R : Rt) (a0 : Option Addr) (l0 : Nat) (c0 : Nat) (x6 : Int) (x7 : Int) (a8 : Option Addr) (l8 : Nat) (c8 : Nat) (h : Hp) : Prop :=
  (∃ n, L4.t R n a0 l0 c0 x6 x7 a8 l8 c8 (((l8 : Nat) : Int)) 0 h)
def D3.g (R : Rt) (fr : Fr) (h : Hp) : Prop := gSlice (fr 0) fun a0 l0 c0 => gInt .i64 (fr 6) fun x6 => gInt .i64 (fr 7) fun x7 => gSlice (fr 8) fun a8 l8 c8 => D3.t R a0 l0 c0 x6 x7 a8 l8 c8 h
theorem D3.ok (R : Rt) (fr : Fr) (h : Hp) (g : D3.g R fr h) : den prog E (cAt C [true, true, true, true, true, true, false]) (Ex.then (D2.g R) (retQ E [.tmp 4, .tmp 5] R)) fr h := by
  obtain ⟨a0, l0, c0, e0, g⟩ := gSlice_elim g
  obtain ⟨x6, e6, g⟩ := gInt_elim g
  obtain ⟨x7, e7, g⟩ := gInt_elim g
  obtain ⟨a8, l8, c8, e8, g⟩ := gSlice_elim g
  exact den_cut 1 (r := (cAt C [true, true, true, true, true, true, false, true])) (by kernel_rfl) (B6.ok R) (den_enter [(0, .slice a0 l0 c0), (6, .int .i64 x6), (7, .int .i64 x7), (8, .slice a8 l8 c8)] ⟨e0, e6, e7, e8, trivial⟩ (by kernel_rfl) g)
theorem W7.ok (R : Rt) (fr : Fr) (h : Hp) (g : D3.g R fr h) : den prog E (cAt C [true, true, true, true, true, true]) (retQ E [.tmp 4, .tmp 5] R) fr h :=
  den_then (by kernel_rfl) (D2.ok R) (D3.ok R fr h g)
def D1.t (R : Rt) (a0 : Option Addr) (l0 : Nat) (c0 : Nat) (x1 : Int) (h : Hp) : Prop :=
  cond (decide (x1 < 0)) (R (.tuple #[.slice none 0 0, .int .i64 1]) h) (HC nat_Form.id #[.slice a0 l0 c0] h fun v1 h2 =>
  gBool v1 fun b_3 =>
  cond (!b_3) (R (.tuple #[.slice none 0 0, .int .i64 2]) h2) ((64 : Int) ≠ 0 ∧ letK (IntKind.i64.wrap (Int.tdiv x1 64)) fun n4 =>
  (64 : Int) ≠ 0 ∧ letK (Int.tmod x1 64) fun n5 =>
  cond (decide (n4 ≥ (((l0 : Nat) : Int)))) (R (.tuple #[.slice none 0 0, .int .i64 0]) h2) (letK (IntKind.i64.wrap ((((l0 : Nat) : Int)) - n4)) fun n6 =>
  mkK h2 28 T28 n6 n6 fun q7 h8 =>
  D3.t R a0 l0 c0 n4 n5 (some q7) n6.toNat n6.toNat h8)))
def D1.g (R : Rt) (fr : Fr) (h : Hp) : Prop := gSlice (fr 0) fun a0 l0 c0 => gInt .i64 (fr 1) fun x1 => D1.t R a0 l0 c0 x1 h
theorem D1.ok (R : Rt) (fr : Fr) (h : Hp) (g : D1.g R fr h) : den prog E C (retQ E [.tmp 4, .tmp 5] R) fr h := by
  obtain ⟨a0, l0, c0, e0, g⟩ := gSlice_elim g
  obtain ⟨x1, e1, g⟩ := gInt_elim g
  exact den_cut 6 (r := (cAt C [true, true, true, true, true, true])) (by kernel_rfl) (W7.ok R) (den_enter [(0, .slice a0 l0 c0), (1, .int .i64 x1)] ⟨e0, e1, trivial⟩ (by kernel_rfl) g)
def t (a0 : Option Addr) (l0 : Nat) (c0 : Nat) (x1 : Int) (h : Hp) (R : Rt) : Prop := D1.t R a0 l0 c0 x1 h
theorem ok {a0 : Option Addr} {l0 : Nat} {c0 : Nat} {x1 : Int} {h : Hp} {R : Rt} (g : t a0 l0 c0 x1 h R) : HC id #[.slice a0 l0 c0, .int .i64 x1] h R :=
  calls_of_den' envOk (c := C) (rs := [.tmp 4, .tmp 5]) Tryd.func21 (by kernel_rfl) (by kernel_rfl) (by kernel_rfl) (args := [.slice a0 l0 c0, .int .i64 x1]) (by kernel_rfl) (D1.ok R _ h (gSlice_intro rfl (gInt_intro rfl (g))))
end nat_Shr

namespace gnomonref01_To
noncomputable def C : Code := bodyOf Tryd.f22
def D2.t (R : Rt) (a4 : Option Addr) (l4 : Nat) (c4 : Nat) (h : Hp) : Prop :=
  R (.slice a4 l4 c4) h
def D2.g (R : Rt) (fr : Fr) (h : Hp) : Prop := gSlice (fr 4) fun a4 l4 c4 => D2.t R a4 l4 c4 h
theorem D2.ok (R : Rt) (fr : Fr) (h : Hp) (g : D2.g R fr h) : den prog E (cAt C [true, true, true, true]) (retQ E [.tmp 2] R) fr h := by
  obtain ⟨a4, l4, c4, e4, g⟩ := gSlice_elim g
  exact den_enter [(4, .slice a4 l4 c4)] ⟨e4, trivial⟩ (by kernel_rfl) g
def L4.g (N : Option Addr → Nat → Nat → Option Addr → Nat → Nat → Int → Hp → Prop) (fr : Fr) (h : Hp) : Prop := gSlice (fr 3) fun a3 l3 c3 => gSlice (fr 4) fun a4 l4 c4 => gInt .i64 (fr 5) fun x5 => N a3 l3 c3 a4 l4 c4 x5 h
def D5.t (R : Rt) (N4 : Option Addr → Nat → Nat → Option Addr → Nat → Nat → Int → Hp → Prop) (a3 : Option Addr) (l3 : Nat) (c3 : Nat) (a4 : Option Addr) (l4 : Nat) (c4 : Nat) (x5 : Int) (h : Hp) : Prop :=
  cond (decide (x5 < (((l3 : Nat) : Int)))) (idxK a3 l3 x5 1 fun q8 =>
  ldK h q8 fun v9 =>
  gInt .u32 v9 fun x_10 =>
  letK (IntKind.u64.wrap x_10) fun n11 =>
  letK (IntKind.i64.wrap (x5 + 1)) fun n12 =>
  cond (decide (n12 < (((l3 : Nat) : Int)))) (letK (IntKind.i64.wrap (x5 + 1)) fun n13 =>
  idxK a3 l3 n13 1 fun q14 =>
  ldK h q14 fun v15 =>
  gInt .u32 v15 fun x_16 =>
  letK (IntKind.u64.wrap x_16) fun n17 =>
  0 ≤ (32 : Int) ∧ letK (shlI .u64 n17 32) fun n18 =>
  letK (IntKind.u64.wrap (n11 + n18)) fun n19 =>
  boxK h 28 [.int .u64 n19] fun q20 h21 =>
  apK h21 28 T28 a4 l4 c4 (.slice (some q20) 1 1) fun a_22 l_22 c_22 h22 =>
  letK (IntKind.i64.wrap (x5 + 2)) fun n23 =>
  N4 a3 l3 c3 a_22 l_22 c_22 n23 h22) (boxK h 28 [.int .u64 n11] fun q24 h25 =>
  apK h25 28 T28 a4 l4 c4 (.slice (some q24) 1 1) fun a_26 l_26 c_26 h26 =>
  letK (IntKind.i64.wrap (x5 + 2)) fun n27 =>
  N4 a3 l3 c3 a_26 l_26 c_26 n27 h26)) (D2.t R a4 l4 c4 h)
def D5.g (R : Rt) (N4 : Option Addr → Nat → Nat → Option Addr → Nat → Nat → Int → Hp → Prop) (fr : Fr) (h : Hp) : Prop := gSlice (fr 3) fun a3 l3 c3 => gSlice (fr 4) fun a4 l4 c4 => gInt .i64 (fr 5) fun x5 => D5.t R N4 a3 l3 c3 a4 l4 c4 x5 h
theorem D5.ok (R : Rt) (N4 : Option Addr → Nat → Nat → Option Addr → Nat → Nat → Int → Hp → Prop) (fr : Fr) (h : Hp) (g : D5.g R N4 fr h) : den prog E (cAt C [true, true, true, false, true, false, false]) (Ex.then (L4.g N4) (Ex.inBlock 0 (Ex.then (D2.g R) (retQ E [.tmp 2] R)))) fr h := by
  obtain ⟨a3, l3, c3, e3, g⟩ := gSlice_elim g
  obtain ⟨a4, l4, c4, e4, g⟩ := gSlice_elim g
  obtain ⟨x5, e5, g⟩ := gInt_elim g
  exact den_enter [(3, .slice a3 l3 c3), (4, .slice a4 l4 c4), (5, .int .i64 x5)] ⟨e3, e4, e5, trivial⟩ (by kernel_rfl) g
def L4.t (R : Rt) : Nat → Option Addr → Nat → Nat → Option Addr → Nat → Nat → Int → Hp → Prop
  | 0 => fun _ _ _ _ _ _ _ _ => False
  | n + 1 => fun a3 l3 c3 a4 l4 c4 x5 h => D5.t R (L4.t R n) a3 l3 c3 a4 l4 c4 x5 h
theorem L4.ok (R : Rt) (fr : Fr) (h : Hp) (g : L4.g (fun a3 l3 c3 a4 l4 c4 x5 h => ∃ n, L4.t R n a3 l3 c3 a4 l4 c4 x5 h) fr h) : den prog E (cAt C [true, true, true, false, true, false]) (Ex.inBlock 0 (Ex.then (D2.g R) (retQ E [.tmp 2] R))) fr h := by
  obtain ⟨a3, l3, c3, e3, g⟩ := gSlice_elim g
  obtain ⟨a4, l4, c4, e4, g⟩ := gSlice_elim g
  obtain ⟨x5, e5, g⟩ := gInt_elim g
  obtain ⟨n, g⟩ := g
  refine loop_ok (fun n => L4.g (L4.t R n)) (b := (cAt C [true, true, true, false, true, false, false])) (by kernel_rfl) (fun fr h g => ?_) (fun n => D5.ok R (L4.t R n)) n fr h (gSlice_intro e3 (gSlice_intro e4 (gInt_intro e5 (g))))
  obtain ⟨a3, l3, c3, e3, g⟩ := gSlice_elim g
  obtain ⟨a4, l4, c4, e4, g⟩ := gSlice_elim g
  obtain ⟨x5, e5, g⟩ := gInt_elim g
  exact g
theorem B6.ok (R : Rt) (fr : Fr) (h : Hp) (g : L4.g (fun a3 l3 c3 a4 l4 c4 x5 h => ∃ n, L4.t R n a3 l3 c3 a4 l4 c4 x5 h) fr h) : den prog E (cAt C [true, true, true, false, true]) (Ex.then (D2.g R) (retQ E [.tmp 2] R)) fr h :=
  den_block (by kernel_rfl) (L4.ok R fr h g)
def D3.t (R : Rt) (a3 : Option Addr) (l3 : Nat) (c3 : Nat) (a4 : Option Addr) (l4 : Nat) (c4 : Nat) (h : Hp) : Prop :=
  (∃ n, L4.t R n a3 l3 c3 a4 l4 c4 0 h)
def D3.g (R : Rt) (fr : Fr) (h : Hp) : Prop := gSlice (fr 3) fun a3 l3 c3 => gSlice (fr 4) fun a4 l4 c4 => D3.t R a3 l3 c3 a4 l4 c4 h
theorem D3.ok (R : Rt) (fr : Fr) (h : Hp) (g : D3.g R fr h) : den prog E (cAt C [true, true, true, false]) (Ex.then (D2.g R) (retQ E [.tmp 2] R)) fr h := by
  obtain ⟨a3, l3, c3, e3, g⟩ := gSlice_elim g
  obtain ⟨a4, l4, c4, e4, g⟩ := gSlice_elim g
  exact den_cut 1 (r := (cAt C [true, true, true, false, true])) (by kernel_rfl) (B6.ok R) (den_enter [(3, .slice a3 l3 c3), (4, .slice a4 l4 c4)] ⟨e3, e4, trivial⟩ (by kernel_rfl) g)
theorem W7.ok (R : Rt) (fr : Fr) (h : Hp) (g : D3.g R fr h) : den prog E (cAt C [true, true, true]) (retQ E [.tmp 2] R) fr h :=
  den_then (by kernel_rfl) (D2.ok R) (D3.ok R fr h g)
def D1.t (R : Rt) (a0 : Option Addr) (l0 : Nat) (c0 : Nat) (h : Hp) : Prop :=
  HC gnomonref01_Norm.id #[.slice a0 l0 c0] h fun v1 h2 =>
  gSlice v1 fun a_3 l_3 c_3 =>
  (2 : Int) ≠ 0 ∧ letK (IntKind.i64.wrap (Int.tdiv (((l_3 : Nat) : Int)) 2)) fun n4 =>
  letK (IntKind.i64.wrap (n4 + 1)) fun n5 =>
  mkK h2 28 T28 0 n5 fun q6 h7 =>
  D3.t R a_3 l_3 c_3 (some q6) ((0 : Int).toNat) n5.toNat h7
def D1.g (R : Rt) (fr : Fr) (h : Hp) : Prop := gSlice (fr 0) fun a0 l0 c0 => D1.t R a0 l0 c0 h
theorem D1.ok (R : Rt) (fr : Fr) (h : Hp) (g : D1.g R fr h) : den prog E C (retQ E [.tmp 2] R) fr h := by
  obtain ⟨a0, l0, c0, e0, g⟩ := gSlice_elim g
  exact den_cut 3 (r := (cAt C [true, true, true])) (by kernel_rfl) (W7.ok R) (den_enter [(0, .slice a0 l0 c0)] ⟨e0, trivial⟩ (by kernel_rfl) g)
def t (a0 : Option Addr) (l0 : Nat) (c0 : Nat) (h : Hp) (R : Rt) : Prop := D1.t R a0 l0 c0 h
theorem ok {a0 : Option Addr} {l0 : Nat} {c0 : Nat} {h : Hp} {R : Rt} (g : t a0 l0 c0 h R) : HC id #[.slice a0 l0 c0] h R :=
  calls_of_den' envOk (c := C) (rs := [.tmp 2]) Tryd.func22 (by kernel_rfl) (by kernel_rfl) (by kernel_rfl) (args := [.slice a0 l0 c0]) (by kernel_rfl) (D1.ok R _ h (gSlice_intro rfl (g)))
end gnomonref01_To

namespace gnomonref01_From
noncomputable def C : Code := bodyOf Tryd.f23
def D2.t (R : Rt) (a3 : Option Addr) (l3 : Nat) (c3 : Nat) (h : Hp) : Prop :=
  HC gnomonref01_Norm.id #[.slice a3 l3 c3] h fun v4 h5 =>
  gSlice v4 fun a_6 l_6 c_6 =>
  R (.slice a_6 l_6 c_6) h5
def D2.g (R : Rt) (fr : Fr) (h : Hp) : Prop := gSlice (fr 3) fun a3 l3 c3 => D2.t R a3 l3 c3 h
theorem D2.ok (R : Rt) (fr : Fr) (h : Hp) (g : D2.g R fr h) : den prog E (cAt C [true, true, true]) (retQ E [.tmp 2] R) fr h := by
  obtain ⟨a3, l3, c3, e3, g⟩ := gSlice_elim g
  exact den_enter [(3, .slice a3 l3 c3)] ⟨e3, trivial⟩ (by kernel_rfl) g
def L4.g (N : Option Addr → Nat → Nat → Option Addr → Nat → Nat → Int → Hp → Prop) (fr : Fr) (h : Hp) : Prop := gSlice (fr 0) fun a0 l0 c0 => gSlice (fr 3) fun a3 l3 c3 => gInt .i64 (fr 4) fun x4 => N a0 l0 c0 a3 l3 c3 x4 h
def D5.t (R : Rt) (N4 : Option Addr → Nat → Nat → Option Addr → Nat → Nat → Int → Hp → Prop) (a0 : Option Addr) (l0 : Nat) (c0 : Nat) (a3 : Option Addr) (l3 : Nat) (c3 : Nat) (x4 : Int) (h : Hp) : Prop :=
  cond (decide (x4 < (((l0 : Nat) : Int)))) (idxK a0 l0 x4 1 fun q7 =>
  ldK h q7 fun v8 =>
  gInt .u64 v8 fun x_9 =>
  letK (andI .u64 x_9 4294967295) fun n10 =>
  letK (IntKind.u32.wrap n10) fun n11 =>
  idxK a0 l0 x4 1 fun q12 =>
  ldK h q12 fun v13 =>
  gInt .u64 v13 fun x_14 =>
  0 ≤ (32 : Int) ∧ letK (shrI .u64 x_14 32) fun n15 =>
  letK (IntKind.u32.wrap n15) fun n16 =>
  boxK h 71 [.int .u32 n11, .int .u32 n16] fun q17 h18 =>
  apK h18 71 T71 a3 l3 c3 (.slice (some q17) 2 2) fun a_19 l_19 c_19 h19 =>
  letK (IntKind.i64.wrap (x4 + 1)) fun n20 =>
  N4 a0 l0 c0 a_19 l_19 c_19 n20 h19) (D2.t R a3 l3 c3 h)
def D5.g (R : Rt) (N4 : Option Addr → Nat → Nat → Option Addr → Nat → Nat → Int → Hp → Prop) (fr : Fr) (h : Hp) : Prop := gSlice (fr 0) fun a0 l0 c0 => gSlice (fr 3) fun a3 l3 c3 => gInt .i64 (fr 4) fun x4 => D5.t R N4 a0 l0 c0 a3 l3 c3 x4 h
theorem D5.ok (R : Rt) (N4 : Option Addr → Nat → Nat → Option Addr → Nat → Nat → Int → Hp → Prop) (fr : Fr) (h : Hp) (g : D5.g R N4 fr h) : den prog E (cAt C [true, true, false, true, false, false]) (Ex.then (L4.g N4) (Ex.inBlock 0 (Ex.then (D2.g R) (retQ E [.tmp 2] R)))) fr h := by
  obtain ⟨a0, l0, c0, e0, g⟩ := gSlice_elim g
  obtain ⟨a3, l3, c3, e3, g⟩ := gSlice_elim g
  obtain ⟨x4, e4, g⟩ := gInt_elim g
  exact den_enter [(0, .slice a0 l0 c0), (3, .slice a3 l3 c3), (4, .int .i64 x4)] ⟨e0, e3, e4, trivial⟩ (by kernel_rfl) g
def L4.t (R : Rt) : Nat → Option Addr → Nat → Nat → Option Addr → Nat → Nat → Int → Hp → Prop
  | 0 => fun _ _ _ _ _ _ _ _ => False
  | n + 1 => fun a0 l0 c0 a3 l3 c3 x4 h => D5.t R (L4.t R n) a0 l0 c0 a3 l3 c3 x4 h
theorem L4.ok (R : Rt) (fr : Fr) (h : Hp) (g : L4.g (fun a0 l0 c0 a3 l3 c3 x4 h => ∃ n, L4.t R n a0 l0 c0 a3 l3 c3 x4 h) fr h) : den prog E (cAt C [true, true, false, true, false]) (Ex.inBlock 0 (Ex.then (D2.g R) (retQ E [.tmp 2] R))) fr h := by
  obtain ⟨a0, l0, c0, e0, g⟩ := gSlice_elim g
  obtain ⟨a3, l3, c3, e3, g⟩ := gSlice_elim g
  obtain ⟨x4, e4, g⟩ := gInt_elim g
  obtain ⟨n, g⟩ := g
  refine loop_ok (fun n => L4.g (L4.t R n)) (b := (cAt C [true, true, false, true, false, false])) (by kernel_rfl) (fun fr h g => ?_) (fun n => D5.ok R (L4.t R n)) n fr h (gSlice_intro e0 (gSlice_intro e3 (gInt_intro e4 (g))))
  obtain ⟨a0, l0, c0, e0, g⟩ := gSlice_elim g
  obtain ⟨a3, l3, c3, e3, g⟩ := gSlice_elim g
  obtain ⟨x4, e4, g⟩ := gInt_elim g
  exact g
theorem B6.ok (R : Rt) (fr : Fr) (h : Hp) (g : L4.g (fun a0 l0 c0 a3 l3 c3 x4 h => ∃ n, L4.t R n a0 l0 c0 a3 l3 c3 x4 h) fr h) : den prog E (cAt C [true, true, false, true]) (Ex.then (D2.g R) (retQ E [.tmp 2] R)) fr h :=
  den_block (by kernel_rfl) (L4.ok R fr h g)
def D3.t (R : Rt) (a0 : Option Addr) (l0 : Nat) (c0 : Nat) (a3 : Option Addr) (l3 : Nat) (c3 : Nat) (h : Hp) : Prop :=
  (∃ n, L4.t R n a0 l0 c0 a3 l3 c3 0 h)
def D3.g (R : Rt) (fr : Fr) (h : Hp) : Prop := gSlice (fr 0) fun a0 l0 c0 => gSlice (fr 3) fun a3 l3 c3 => D3.t R a0 l0 c0 a3 l3 c3 h
theorem D3.ok (R : Rt) (fr : Fr) (h : Hp) (g : D3.g R fr h) : den prog E (cAt C [true, true, false]) (Ex.then (D2.g R) (retQ E [.tmp 2] R)) fr h := by
  obtain ⟨a0, l0, c0, e0, g⟩ := gSlice_elim g
  obtain ⟨a3, l3, c3, e3, g⟩ := gSlice_elim g
  exact den_cut 1 (r := (cAt C [true, true, false, true])) (by kernel_rfl) (B6.ok R) (den_enter [(0, .slice a0 l0 c0), (3, .slice a3 l3 c3)] ⟨e0, e3, trivial⟩ (by kernel_rfl) g)
theorem W7.ok (R : Rt) (fr : Fr) (h : Hp) (g : D3.g R fr h) : den prog E (cAt C [true, true]) (retQ E [.tmp 2] R) fr h :=
  den_then (by kernel_rfl) (D2.ok R) (D3.ok R fr h g)
def D1.t (R : Rt) (a0 : Option Addr) (l0 : Nat) (c0 : Nat) (h : Hp) : Prop :=
  letK (IntKind.i64.wrap (2 * (((l0 : Nat) : Int)))) fun n1 =>
  mkK h 71 T71 0 n1 fun q2 h3 =>
  D3.t R a0 l0 c0 (some q2) ((0 : Int).toNat) n1.toNat h3
def D1.g (R : Rt) (fr : Fr) (h : Hp) : Prop := gSlice (fr 0) fun a0 l0 c0 => D1.t R a0 l0 c0 h
theorem D1.ok (R : Rt) (fr : Fr) (h : Hp) (g : D1.g R fr h) : den prog E C (retQ E [.tmp 2] R) fr h := by
  obtain ⟨a0, l0, c0, e0, g⟩ := gSlice_elim g
  exact den_cut 2 (r := (cAt C [true, true])) (by kernel_rfl) (W7.ok R) (den_enter [(0, .slice a0 l0 c0)] ⟨e0, trivial⟩ (by kernel_rfl) g)
def t (a0 : Option Addr) (l0 : Nat) (c0 : Nat) (h : Hp) (R : Rt) : Prop := D1.t R a0 l0 c0 h
theorem ok {a0 : Option Addr} {l0 : Nat} {c0 : Nat} {h : Hp} {R : Rt} (g : t a0 l0 c0 h R) : HC id #[.slice a0 l0 c0] h R :=
  calls_of_den' envOk (c := C) (rs := [.tmp 2]) Tryd.func23 (by kernel_rfl) (by kernel_rfl) (by kernel_rfl) (args := [.slice a0 l0 c0]) (by kernel_rfl) (D1.ok R _ h (gSlice_intro rfl (g)))
end gnomonref01_From

namespace natmul_Mul
noncomputable def C : Code := bodyOf Tryd.f24
def D2.t (R : Rt) (a0 : Option Addr) (l0 : Nat) (c0 : Nat) (a1 : Option Addr) (l1 : Nat) (c1 : Nat) (h : Hp) : Prop :=
  HC natmul_product.id #[.slice a0 l0 c0, .slice a1 l1 c1] h fun v7 h8 =>
  gSlice v7 fun a_9 l_9 c_9 =>
  HC natmul_told.id #[.slice a_9 l_9 c_9] h8 fun v10 h11 =>
  gTup v10 fun y12 =>
  uncons y12 fun v13 y13 =>
  gSlice v13 fun a_14 l_14 c_14 =>
  uncons y13 fun v15 y15 =>
  gInt .i64 v15 fun x_16 =>
  unnil y15 <| R (.tuple #[.slice a_14 l_14 c_14, .int .i64 x_16]) h11
def D2.g (R : Rt) (fr : Fr) (h : Hp) : Prop := gSlice (fr 0) fun a0 l0 c0 => gSlice (fr 1) fun a1 l1 c1 => D2.t R a0 l0 c0 a1 l1 c1 h
theorem D2.ok (R : Rt) (fr : Fr) (h : Hp) (g : D2.g R fr h) : den prog E (cAt C [true, true]) (retQ E [.tmp 4, .tmp 5] R) fr h := by
  obtain ⟨a0, l0, c0, e0, g⟩ := gSlice_elim g
  obtain ⟨a1, l1, c1, e1, g⟩ := gSlice_elim g
  exact den_enter [(0, .slice a0 l0 c0), (1, .slice a1 l1 c1)] ⟨e0, e1, trivial⟩ (by kernel_rfl) g
def D1.t (R : Rt) (a0 : Option Addr) (l0 : Nat) (c0 : Nat) (a1 : Option Addr) (l1 : Nat) (c1 : Nat) (h : Hp) : Prop :=
  HC nat_Form.id #[.slice a0 l0 c0] h fun v1 h2 =>
  gBool v1 fun b_3 =>
  cond (!b_3) (R (.tuple #[.slice none 0 0, .int .i64 2]) h2) (HC nat_Form.id #[.slice a1 l1 c1] h2 fun v4 h5 =>
  gBool v4 fun b_6 =>
  cond (!b_6) (R (.tuple #[.slice none 0 0, .int .i64 2]) h5) (D2.t R a0 l0 c0 a1 l1 c1 h5))
def D1.g (R : Rt) (fr : Fr) (h : Hp) : Prop := gSlice (fr 0) fun a0 l0 c0 => gSlice (fr 1) fun a1 l1 c1 => D1.t R a0 l0 c0 a1 l1 c1 h
theorem D1.ok (R : Rt) (fr : Fr) (h : Hp) (g : D1.g R fr h) : den prog E C (retQ E [.tmp 4, .tmp 5] R) fr h := by
  obtain ⟨a0, l0, c0, e0, g⟩ := gSlice_elim g
  obtain ⟨a1, l1, c1, e1, g⟩ := gSlice_elim g
  exact den_cut 2 (r := (cAt C [true, true])) (by kernel_rfl) (D2.ok R) (den_enter [(0, .slice a0 l0 c0), (1, .slice a1 l1 c1)] ⟨e0, e1, trivial⟩ (by kernel_rfl) g)
def t (a0 : Option Addr) (l0 : Nat) (c0 : Nat) (a1 : Option Addr) (l1 : Nat) (c1 : Nat) (h : Hp) (R : Rt) : Prop := D1.t R a0 l0 c0 a1 l1 c1 h
theorem ok {a0 : Option Addr} {l0 : Nat} {c0 : Nat} {a1 : Option Addr} {l1 : Nat} {c1 : Nat} {h : Hp} {R : Rt} (g : t a0 l0 c0 a1 l1 c1 h R) : HC id #[.slice a0 l0 c0, .slice a1 l1 c1] h R :=
  calls_of_den' envOk (c := C) (rs := [.tmp 4, .tmp 5]) Tryd.func24 (by kernel_rfl) (by kernel_rfl) (by kernel_rfl) (args := [.slice a0 l0 c0, .slice a1 l1 c1]) (by kernel_rfl) (D1.ok R _ h (gSlice_intro rfl (gSlice_intro rfl (g))))
end natmul_Mul

namespace nat_Add
noncomputable def C : Code := bodyOf Tryd.f25
def D4.t (R : Rt) (a0 : Option Addr) (l0 : Nat) (c0 : Nat) (a6 : Option Addr) (l6 : Nat) (c6 : Nat) (x7 : Int) (h : Hp) : Prop :=
  idxK a6 l6 (((l0 : Nat) : Int)) 1 fun q10 =>
  stK h q10 (.int .u64 x7) fun h11 =>
  HC nat_told.id #[.slice a6 l6 c6] h11 fun v12 h13 =>
  gTup v12 fun y14 =>
  uncons y14 fun v15 y15 =>
  gSlice v15 fun a_16 l_16 c_16 =>
  uncons y15 fun v17 y17 =>
  gInt .i64 v17 fun x_18 =>
  unnil y17 <| R (.tuple #[.slice a_16 l_16 c_16, .int .i64 x_18]) h13
def D4.g (R : Rt) (fr : Fr) (h : Hp) : Prop := gSlice (fr 0) fun a0 l0 c0 => gSlice (fr 6) fun a6 l6 c6 => gInt .u64 (fr 7) fun x7 => D4.t R a0 l0 c0 a6 l6 c6 x7 h
theorem D4.ok (R : Rt) (fr : Fr) (h : Hp) (g : D4.g R fr h) : den prog E (cAt C [true, true, true, true, true, true]) (retQ E [.tmp 4, .tmp 5] R) fr h := by
  obtain ⟨a0, l0, c0, e0, g⟩ := gSlice_elim g
  obtain ⟨a6, l6, c6, e6, g⟩ := gSlice_elim g
  obtain ⟨x7, e7, g⟩ := gInt_elim g
  exact den_enter [(0, .slice a0 l0 c0), (6, .slice a6 l6 c6), (7, .int .u64 x7)] ⟨e0, e6, e7, trivial⟩ (by kernel_rfl) g
def L6.g (N : Option Addr → Nat → Nat → Option Addr → Nat → Nat → Option Addr → Nat → Nat → Int → Int → Int → Hp → Prop) (fr : Fr) (h : Hp) : Prop := gSlice (fr 0) fun a0 l0 c0 => gSlice (fr 1) fun a1 l1 c1 => gSlice (fr 6) fun a6 l6 c6 => gInt .u64 (fr 7) fun x7 => gInt .i64 (fr 30) fun x30 => gInt .i64 (fr 31) fun x31 => N a0 l0 c0 a1 l1 c1 a6 l6 c6 x7 x30 x31 h
def D7.t (R : Rt) (N6 : Option Addr → Nat → Nat → Option Addr → Nat → Nat → Option Addr → Nat → Nat → Int → Int → Int → Hp → Prop) (a0 : Option Addr) (l0 : Nat) (c0 : Nat) (a1 : Option Addr) (l1 : Nat) (c1 : Nat) (a6 : Option Addr) (l6 : Nat) (c6 : Nat) (x7 : Int) (x30 : Int) (x31 : Int) (h : Hp) : Prop :=
  cond (decide (x31 < x30)) (cond (decide (x31 < (((l1 : Nat) : Int)))) (idxK a1 l1 x31 1 fun q19 =>
  ldK h q19 fun v20 =>
  gInt .u64 v20 fun x_21 =>
  idxK a0 l0 x31 1 fun q22 =>
  ldK h q22 fun v23 =>
  gInt .u64 v23 fun x_24 =>
  addK x_24 x_21 x7 fun n25 m25 =>
  idxK a6 l6 x31 1 fun q26 =>
  stK h q26 (.int .u64 n25) fun h27 =>
  letK (IntKind.i64.wrap (x31 + 1)) fun n28 =>
  N6 a0 l0 c0 a1 l1 c1 a6 l6 c6 m25 x30 n28 h27) (idxK a0 l0 x31 1 fun q29 =>
  ldK h q29 fun v30 =>
  gInt .u64 v30 fun x_31 =>
  addK x_31 0 x7 fun n32 m32 =>
  idxK a6 l6 x31 1 fun q33 =>
  stK h q33 (.int .u64 n32) fun h34 =>
  letK (IntKind.i64.wrap (x31 + 1)) fun n35 =>
  N6 a0 l0 c0 a1 l1 c1 a6 l6 c6 m32 x30 n35 h34)) (D4.t R a0 l0 c0 a6 l6 c6 x7 h)
def D7.g (R : Rt) (N6 : Option Addr → Nat → Nat → Option Addr → Nat → Nat → Option Addr → Nat → Nat → Int → Int → Int → Hp → Prop) (fr : Fr) (h : Hp) : Prop := gSlice (fr 0) fun a0 l0 c0 => gSlice (fr 1) fun a1 l1 c1 => gSlice (fr 6) fun a6 l6 c6 => gInt .u64 (fr 7) fun x7 => gInt .i64 (fr 30) fun x30 => gInt .i64 (fr 31) fun x31 => D7.t R N6 a0 l0 c0 a1 l1 c1 a6 l6 c6 x7 x30 x31 h
theorem D7.ok (R : Rt) (N6 : Option Addr → Nat → Nat → Option Addr → Nat → Nat → Option Addr → Nat → Nat → Int → Int → Int → Hp → Prop) (fr : Fr) (h : Hp) (g : D7.g R N6 fr h) : den prog E (cAt C [true, true, true, true, true, false, true, false, false]) (Ex.then (L6.g N6) (Ex.inBlock 0 (Ex.then (D4.g R) (retQ E [.tmp 4, .tmp 5] R)))) fr h := by
  obtain ⟨a0, l0, c0, e0, g⟩ := gSlice_elim g
  obtain ⟨a1, l1, c1, e1, g⟩ := gSlice_elim g
  obtain ⟨a6, l6, c6, e6, g⟩ := gSlice_elim g
  obtain ⟨x7, e7, g⟩ := gInt_elim g
  obtain ⟨x30, e30, g⟩ := gInt_elim g
  obtain ⟨x31, e31, g⟩ := gInt_elim g
  exact den_enter [(0, .slice a0 l0 c0), (1, .slice a1 l1 c1), (6, .slice a6 l6 c6), (7, .int .u64 x7), (30, .int .i64 x30), (31, .int .i64 x31)] ⟨e0, e1, e6, e7, e30, e31, trivial⟩ (by kernel_rfl) g
def L6.t (R : Rt) : Nat → Option Addr → Nat → Nat → Option Addr → Nat → Nat → Option Addr → Nat → Nat → Int → Int → Int → Hp → Prop
  | 0 => fun _ _ _ _ _ _ _ _ _ _ _ _ _ => False
  | n + 1 => fun a0 l0 c0 a1 l1 c1 a6 l6 c6 x7 x30 x31 h => D7.t R (L6.t R n) a0 l0 c0 a1 l1 c1 a6 l6 c6 x7 x30 x31 h
theorem L6.ok (R : Rt) (fr : Fr) (h : Hp) (g : L6.g (fun a0 l0 c0 a1 l1 c1 a6 l6 c6 x7 x30 x31 h => ∃ n, L6.t R n a0 l0 c0 a1 l1 c1 a6 l6 c6 x7 x30 x31 h) fr h) : den prog E (cAt C [true, true, true, true, true, false, true, false]) (Ex.inBlock 0 (Ex.then (D4.g R) (retQ E [.tmp 4, .tmp 5] R))) fr h := by
  obtain ⟨a0, l0, c0, e0, g⟩ := gSlice_elim g
  obtain ⟨a1, l1, c1, e1, g⟩ := gSlice_elim g
  obtain ⟨a6, l6, c6, e6, g⟩ := gSlice_elim g
  obtain ⟨x7, e7, g⟩ := gInt_elim g
  obtain ⟨x30, e30, g⟩ := gInt_elim g
  obtain ⟨x31, e31, g⟩ := gInt_elim g
  obtain ⟨n, g⟩ := g
  refine loop_ok (fun n => L6.g (L6.t R n)) (b := (cAt C [true, true, true, true, true, false, true, false, false])) (by kernel_rfl) (fun fr h g => ?_) (fun n => D7.ok R (L6.t R n)) n fr h (gSlice_intro e0 (gSlice_intro e1 (gSlice_intro e6 (gInt_intro e7 (gInt_intro e30 (gInt_intro e31 (g)))))))
  obtain ⟨a0, l0, c0, e0, g⟩ := gSlice_elim g
  obtain ⟨a1, l1, c1, e1, g⟩ := gSlice_elim g
  obtain ⟨a6, l6, c6, e6, g⟩ := gSlice_elim g
  obtain ⟨x7, e7, g⟩ := gInt_elim g
  obtain ⟨x30, e30, g⟩ := gInt_elim g
  obtain ⟨x31, e31, g⟩ := gInt_elim g
  exact g
theorem B8.ok (R : Rt) (fr : Fr) (h : Hp) (g : L6.g (fun a0 l0 c0 a1 l1 c1 a6 l6 c6 x7 x30 x31 h => ∃ n, L6.t R n a0 l0 c0 a1 l1 c1 a6 l6 c6 x7 x30 x31 h) fr h) : den prog E (cAt C [true, true, true, true, true, false, true]) (Ex.then (D4.g R) (retQ E [.tmp 4, .tmp 5] R)) fr h :=
  den_block (by kernel_rfl) (L6.ok R fr h g)
def D5.t (R : Rt) (a0 : Option Addr) (l0 : Nat) (c0 : Nat) (a1 : Option Addr) (l1 : Nat) (c1 : Nat) (a6 : Option Addr) (l6 : Nat) (c6 : Nat) (x7 : Int) (h : Hp) : Prop :=
  (∃ n, L6.t R n a0 l0 c0 a1 l1 c1 a6 l6 c6 x7 (((l0 : Nat) : Int)) 0 h)
def D5.g (R : Rt) (fr : Fr) (h : Hp) : Prop := gSlice (fr 0) fun a0 l0 c0 => gSlice (fr 1) fun a1 l1 c1 => gSlice (fr 6) fun a6 l6 c6 => gInt .u64 (fr 7) fun x7 => D5.t R a0 l0 c0 a1 l1 c1 a6 l6 c6 x7 h
theorem D5.ok (R : Rt) (fr : Fr) (h : Hp) (g : D5.g R fr h) : den prog E (cAt C [true, true, true, true, true, false]) (Ex.then (D4.g R) (retQ E [.tmp 4, .tmp 5] R)) fr h := by
  obtain ⟨a0, l0, c0, e0, g⟩ := gSlice_elim g
  obtain ⟨a1, l1, c1, e1, g⟩ := gSlice_elim g
  obtain ⟨a6, l6, c6, e6, g⟩ := gSlice_elim g
  obtain ⟨x7, e7, g⟩ := gInt_elim g
  exact den_cut 1 (r := (cAt C [true, true, true, true, true, false, true])) (by kernel_rfl) (B8.ok R) (den_enter [(0, .slice a0 l0 c0), (1, .slice a1 l1 c1), (6, .slice a6 l6 c6), (7, .int .u64 x7)] ⟨e0, e1, e6, e7, trivial⟩ (by kernel_rfl) g)
theorem W9.ok (R : Rt) (fr : Fr) (h : Hp) (g : D5.g R fr h) : den prog E (cAt C [true, true, true, true, true]) (retQ E [.tmp 4, .tmp 5] R) fr h :=
  den_then (by kernel_rfl) (D4.ok R) (D5.ok R fr h g)
def D3.t (R : Rt) (a0 : Option Addr) (l0 : Nat) (c0 : Nat) (a1 : Option Addr) (l1 : Nat) (c1 : Nat) (h : Hp) : Prop :=
  letK (IntKind.i64.wrap ((((l0 : Nat) : Int)) + 1)) fun n7 =>
  mkK h 28 T28 n7 n7 fun q8 h9 =>
  D5.t R a0 l0 c0 a1 l1 c1 (some q8) n7.toNat n7.toNat 0 h9
def D3.g (R : Rt) (fr : Fr) (h : Hp) : Prop := gSlice (fr 0) fun a0 l0 c0 => gSlice (fr 1) fun a1 l1 c1 => D3.t R a0 l0 c0 a1 l1 c1 h
theorem D3.ok (R : Rt) (fr : Fr) (h : Hp) (g : D3.g R fr h) : den prog E (cAt C [true, true, true]) (retQ E [.tmp 4, .tmp 5] R) fr h := by
  obtain ⟨a0, l0, c0, e0, g⟩ := gSlice_elim g
  obtain ⟨a1, l1, c1, e1, g⟩ := gSlice_elim g
  exact den_cut 2 (r := (cAt C [true, true, true, true, true])) (by kernel_rfl) (W9.ok R) (den_enter [(0, .slice a0 l0 c0), (1, .slice a1 l1 c1)] ⟨e0, e1, trivial⟩ (by kernel_rfl) g)
def D2.t (R : Rt) (a0 : Option Addr) (l0 : Nat) (c0 : Nat) (a1 : Option Addr) (l1 : Nat) (c1 : Nat) (h : Hp) : Prop :=
  cond (decide ((((l0 : Nat) : Int)) < (((l1 : Nat) : Int)))) (D3.t R a1 l1 c1 a0 l0 c0 h) (D3.t R a0 l0 c0 a1 l1 c1 h)
def D2.g (R : Rt) (fr : Fr) (h : Hp) : Prop := gSlice (fr 0) fun a0 l0 c0 => gSlice (fr 1) fun a1 l1 c1 => D2.t R a0 l0 c0 a1 l1 c1 h
theorem D2.ok (R : Rt) (fr : Fr) (h : Hp) (g : D2.g R fr h) : den prog E (cAt C [true, true]) (retQ E [.tmp 4, .tmp 5] R) fr h := by
  obtain ⟨a0, l0, c0, e0, g⟩ := gSlice_elim g
  obtain ⟨a1, l1, c1, e1, g⟩ := gSlice_elim g
  exact den_cut 1 (r := (cAt C [true, true, true])) (by kernel_rfl) (D3.ok R) (den_enter [(0, .slice a0 l0 c0), (1, .slice a1 l1 c1)] ⟨e0, e1, trivial⟩ (by kernel_rfl) g)
def D1.t (R : Rt) (a0 : Option Addr) (l0 : Nat) (c0 : Nat) (a1 : Option Addr) (l1 : Nat) (c1 : Nat) (h : Hp) : Prop :=
  HC nat_Form.id #[.slice a0 l0 c0] h fun v1 h2 =>
  gBool v1 fun b_3 =>
  cond (!b_3) (R (.tuple #[.slice none 0 0, .int .i64 2]) h2) (HC nat_Form.id #[.slice a1 l1 c1] h2 fun v4 h5 =>
  gBool v4 fun b_6 =>
  cond (!b_6) (R (.tuple #[.slice none 0 0, .int .i64 2]) h5) (D2.t R a0 l0 c0 a1 l1 c1 h5))
def D1.g (R : Rt) (fr : Fr) (h : Hp) : Prop := gSlice (fr 0) fun a0 l0 c0 => gSlice (fr 1) fun a1 l1 c1 => D1.t R a0 l0 c0 a1 l1 c1 h
theorem D1.ok (R : Rt) (fr : Fr) (h : Hp) (g : D1.g R fr h) : den prog E C (retQ E [.tmp 4, .tmp 5] R) fr h := by
  obtain ⟨a0, l0, c0, e0, g⟩ := gSlice_elim g
  obtain ⟨a1, l1, c1, e1, g⟩ := gSlice_elim g
  exact den_cut 2 (r := (cAt C [true, true])) (by kernel_rfl) (D2.ok R) (den_enter [(0, .slice a0 l0 c0), (1, .slice a1 l1 c1)] ⟨e0, e1, trivial⟩ (by kernel_rfl) g)
def t (a0 : Option Addr) (l0 : Nat) (c0 : Nat) (a1 : Option Addr) (l1 : Nat) (c1 : Nat) (h : Hp) (R : Rt) : Prop := D1.t R a0 l0 c0 a1 l1 c1 h
theorem ok {a0 : Option Addr} {l0 : Nat} {c0 : Nat} {a1 : Option Addr} {l1 : Nat} {c1 : Nat} {h : Hp} {R : Rt} (g : t a0 l0 c0 a1 l1 c1 h R) : HC id #[.slice a0 l0 c0, .slice a1 l1 c1] h R :=
  calls_of_den' envOk (c := C) (rs := [.tmp 4, .tmp 5]) Tryd.func25 (by kernel_rfl) (by kernel_rfl) (by kernel_rfl) (args := [.slice a0 l0 c0, .slice a1 l1 c1]) (by kernel_rfl) (D1.ok R _ h (gSlice_intro rfl (gSlice_intro rfl (g))))
end nat_Add

namespace natdiv_Root
noncomputable def C : Code := bodyOf Tryd.f26
def D1.t (R : Rt) (a0 : Option Addr) (l0 : Nat) (c0 : Nat) (h : Hp) : Prop :=
  HC nat_Form.id #[.slice a0 l0 c0] h fun v1 h2 =>
  gBool v1 fun b_3 =>
  cond (!b_3) (R (.tuple #[.slice none 0 0, .slice none 0 0, .int .i64 2]) h2) (HC natdiv_root.id #[.slice a0 l0 c0] h2 fun v4 h5 =>
  gSlice v4 fun a_6 l_6 c_6 =>
  HC natmul_Sqr.id #[.slice a_6 l_6 c_6] h5 fun v7 h8 =>
  gTup v7 fun y9 =>
  uncons y9 fun v10 y10 =>
  gSlice v10 fun a_11 l_11 c_11 =>
  uncons y10 fun v12 y12 =>
  gInt .i64 v12 fun x_13 =>
  unnil y12 <| HC nat_Sub.id #[.slice a0 l0 c0, .slice a_11 l_11 c_11] h8 fun v14 h15 =>
  gTup v14 fun y16 =>
  uncons y16 fun v17 y17 =>
  gSlice v17 fun a_18 l_18 c_18 =>
  uncons y17 fun v19 y19 =>
  gInt .i64 v19 fun x_20 =>
  unnil y19 <| R (.tuple #[.slice a_6 l_6 c_6, .slice a_18 l_18 c_18, .int .i64 0]) h15)
def D1.g (R : Rt) (fr : Fr) (h : Hp) : Prop := gSlice (fr 0) fun a0 l0 c0 => D1.t R a0 l0 c0 h
theorem D1.ok (R : Rt) (fr : Fr) (h : Hp) (g : D1.g R fr h) : den prog E C (retQ E [.tmp 2, .tmp 3, .tmp 4] R) fr h := by
  obtain ⟨a0, l0, c0, e0, g⟩ := gSlice_elim g
  exact den_enter [(0, .slice a0 l0 c0)] ⟨e0, trivial⟩ (by kernel_rfl) g
def t (a0 : Option Addr) (l0 : Nat) (c0 : Nat) (h : Hp) (R : Rt) : Prop := D1.t R a0 l0 c0 h
theorem ok {a0 : Option Addr} {l0 : Nat} {c0 : Nat} {h : Hp} {R : Rt} (g : t a0 l0 c0 h R) : HC id #[.slice a0 l0 c0] h R :=
  calls_of_den' envOk (c := C) (rs := [.tmp 2, .tmp 3, .tmp 4]) Tryd.func26 (by kernel_rfl) (by kernel_rfl) (by kernel_rfl) (args := [.slice a0 l0 c0]) (by kernel_rfl) (D1.ok R _ h (gSlice_intro rfl (g)))
end natdiv_Root

namespace natmul_Sqr
noncomputable def C : Code := bodyOf Tryd.f27
def D1.t (R : Rt) (a0 : Option Addr) (l0 : Nat) (c0 : Nat) (h : Hp) : Prop :=
  HC natmul_Mul.id #[.slice a0 l0 c0, .slice a0 l0 c0] h fun v1 h2 =>
  gTup v1 fun y3 =>
  uncons y3 fun v4 y4 =>
  gSlice v4 fun a_5 l_5 c_5 =>
  uncons y4 fun v6 y6 =>
  gInt .i64 v6 fun x_7 =>
  unnil y6 <| R (.tuple #[.slice a_5 l_5 c_5, .int .i64 x_7]) h2
def D1.g (R : Rt) (fr : Fr) (h : Hp) : Prop := gSlice (fr 0) fun a0 l0 c0 => D1.t R a0 l0 c0 h
theorem D1.ok (R : Rt) (fr : Fr) (h : Hp) (g : D1.g R fr h) : den prog E C (retQ E [.tmp 2, .tmp 3] R) fr h := by
  obtain ⟨a0, l0, c0, e0, g⟩ := gSlice_elim g
  exact den_enter [(0, .slice a0 l0 c0)] ⟨e0, trivial⟩ (by kernel_rfl) g
def t (a0 : Option Addr) (l0 : Nat) (c0 : Nat) (h : Hp) (R : Rt) : Prop := D1.t R a0 l0 c0 h
theorem ok {a0 : Option Addr} {l0 : Nat} {c0 : Nat} {h : Hp} {R : Rt} (g : t a0 l0 c0 h R) : HC id #[.slice a0 l0 c0] h R :=
  calls_of_den' envOk (c := C) (rs := [.tmp 2, .tmp 3]) Tryd.func27 (by kernel_rfl) (by kernel_rfl) (by kernel_rfl) (args := [.slice a0 l0 c0]) (by kernel_rfl) (D1.ok R _ h (gSlice_intro rfl (g)))
end natmul_Sqr

namespace nat_MulWord
noncomputable def C : Code := bodyOf Tryd.f28
def D2.t (R : Rt) (a0 : Option Addr) (l0 : Nat) (c0 : Nat) (a6 : Option Addr) (l6 : Nat) (c6 : Nat) (x7 : Int) (h : Hp) : Prop :=
  idxK a6 l6 (((l0 : Nat) : Int)) 1 fun q7 =>
  stK h q7 (.int .u64 x7) fun h8 =>
  HC nat_told.id #[.slice a6 l6 c6] h8 fun v9 h10 =>
  gTup v9 fun y11 =>
  uncons y11 fun v12 y12 =>
  gSlice v12 fun a_13 l_13 c_13 =>
  uncons y12 fun v14 y14 =>
  gInt .i64 v14 fun x_15 =>
  unnil y14 <| R (.tuple #[.slice a_13 l_13 c_13, .int .i64 x_15]) h10
def D2.g (R : Rt) (fr : Fr) (h : Hp) : Prop := gSlice (fr 0) fun a0 l0 c0 => gSlice (fr 6) fun a6 l6 c6 => gInt .u64 (fr 7) fun x7 => D2.t R a0 l0 c0 a6 l6 c6 x7 h
theorem D2.ok (R : Rt) (fr : Fr) (h : Hp) (g : D2.g R fr h) : den prog E (cAt C [true, true, true, true, true]) (retQ E [.tmp 4, .tmp 5] R) fr h := by
  obtain ⟨a0, l0, c0, e0, g⟩ := gSlice_elim g
  obtain ⟨a6, l6, c6, e6, g⟩ := gSlice_elim g
  obtain ⟨x7, e7, g⟩ := gInt_elim g
  exact den_enter [(0, .slice a0 l0 c0), (6, .slice a6 l6 c6), (7, .int .u64 x7)] ⟨e0, e6, e7, trivial⟩ (by kernel_rfl) g
def L4.g (N : Option Addr → Nat → Nat → Int → Option Addr → Nat → Nat → Int → Int → Int → Hp → Prop) (fr : Fr) (h : Hp) : Prop := gSlice (fr 0) fun a0 l0 c0 => gInt .u64 (fr 1) fun x1 => gSlice (fr 6) fun a6 l6 c6 => gInt .u64 (fr 7) fun x7 => gInt .i64 (fr 20) fun x20 => gInt .i64 (fr 21) fun x21 => N a0 l0 c0 x1 a6 l6 c6 x7 x20 x21 h
def D5.t (R : Rt) (N4 : Option Addr → Nat → Nat → Int → Option Addr → Nat → Nat → Int → Int → Int → Hp → Prop) (a0 : Option Addr) (l0 : Nat) (c0 : Nat) (x1 : Int) (a6 : Option Addr) (l6 : Nat) (c6 : Nat) (x7 : Int) (x20 : Int) (x21 : Int) (h : Hp) : Prop :=
  cond (decide (x21 < x20)) (idxK a0 l0 x21 1 fun q16 =>
  ldK h q16 fun v17 =>
  gInt .u64 v17 fun x_18 =>
  HC bits_Mul64.id #[.int .u64 x_18, .int .u64 x1] h fun v19 h20 =>
  gTup v19 fun y21 =>
  uncons y21 fun v22 y22 =>
  gInt .u64 v22 fun x_23 =>
  uncons y22 fun v24 y24 =>
  gInt .u64 v24 fun x_25 =>
  unnil y24 <| addK x_25 x7 0 fun n26 m26 =>
  idxK a6 l6 x21 1 fun q27 =>
  stK h20 q27 (.int .u64 n26) fun h28 =>
  letK (IntKind.u64.wrap (x_23 + m26)) fun n29 =>
  letK (IntKind.i64.wrap (x21 + 1)) fun n30 =>
  N4 a0 l0 c0 x1 a6 l6 c6 n29 x20 n30 h28) (D2.t R a0 l0 c0 a6 l6 c6 x7 h)
def D5.g (R : Rt) (N4 : Option Addr → Nat → Nat → Int → Option Addr → Nat → Nat → Int → Int → Int → Hp → Prop) (fr : Fr) (h : Hp) : Prop := gSlice (fr 0) fun a0 l0 c0 => gInt .u64 (fr 1) fun x1 => gSlice (fr 6) fun a6 l6 c6 => gInt .u64 (fr 7) fun x7 => gInt .i64 (fr 20) fun x20 => gInt .i64 (fr 21) fun x21 => D5.t R N4 a0 l0 c0 x1 a6 l6 c6 x7 x20 x21 h
theorem D5.ok (R : Rt) (N4 : Option Addr → Nat → Nat → Int → Option Addr → Nat → Nat → Int → Int → Int → Hp → Prop) (fr : Fr) (h : Hp) (g : D5.g R N4 fr h) : den prog E (cAt C [true, true, true, true, false, true, false, false]) (Ex.then (L4.g N4) (Ex.inBlock 0 (Ex.then (D2.g R) (retQ E [.tmp 4, .tmp 5] R)))) fr h := by
  obtain ⟨a0, l0, c0, e0, g⟩ := gSlice_elim g
  obtain ⟨x1, e1, g⟩ := gInt_elim g
  obtain ⟨a6, l6, c6, e6, g⟩ := gSlice_elim g
  obtain ⟨x7, e7, g⟩ := gInt_elim g
  obtain ⟨x20, e20, g⟩ := gInt_elim g
  obtain ⟨x21, e21, g⟩ := gInt_elim g
  exact den_enter [(0, .slice a0 l0 c0), (1, .int .u64 x1), (6, .slice a6 l6 c6), (7, .int .u64 x7), (20, .int .i64 x20), (21, .int .i64 x21)] ⟨e0, e1, e6, e7, e20, e21, trivial⟩ (by kernel_rfl) g
def L4.t (R : Rt) : Nat → Option Addr → Nat → Nat → Int → Option Addr → Nat → Nat → Int → Int → Int → Hp → Prop
  | 0 => fun _ _ _ _ _ _ _ _ _ _ _ => False
  | n + 1 => fun a0 l0 c0 x1 a6 l6 c6 x7 x20 x21 h => D5.t R (L4.t R n) a0 l0 c0 x1 a6 l6 c6 x7 x20 x21 h
theorem L4.ok (R : Rt) (fr : Fr) (h : Hp) (g : L4.g (fun a0 l0 c0 x1 a6 l6 c6 x7 x20 x21 h => ∃ n, L4.t R n a0 l0 c0 x1 a6 l6 c6 x7 x20 x21 h) fr h) : den prog E (cAt C [true, true, true, true, false, true, false]) (Ex.inBlock 0 (Ex.then (D2.g R) (retQ E [.tmp 4, .tmp 5] R))) fr h := by
  obtain ⟨a0, l0, c0, e0, g⟩ := gSlice_elim g
  obtain ⟨x1, e1, g⟩ := gInt_elim g
  obtain ⟨a6, l6, c6, e6, g⟩ := gSlice_elim g
  obtain ⟨x7, e7, g⟩ := gInt_elim g
  obtain ⟨x20, e20, g⟩ := gInt_elim g
  obtain ⟨x21, e21, g⟩ := gInt_elim g
  obtain ⟨n, g⟩ := g
  refine loop_ok (fun n => L4.g (L4.t R n)) (b := (cAt C [true, true, true, true, false, true, false, false])) (by kernel_rfl) (fun fr h g => ?_) (fun n => D5.ok R (L4.t R n)) n fr h (gSlice_intro e0 (gInt_intro e1 (gSlice_intro e6 (gInt_intro e7 (gInt_intro e20 (gInt_intro e21 (g)))))))
  obtain ⟨a0, l0, c0, e0, g⟩ := gSlice_elim g
  obtain ⟨x1, e1, g⟩ := gInt_elim g
  obtain ⟨a6, l6, c6, e6, g⟩ := gSlice_elim g
  obtain ⟨x7, e7, g⟩ := gInt_elim g
  obtain ⟨x20, e20, g⟩ := gInt_elim g
  obtain ⟨x21, e21, g⟩ := gInt_elim g
  exact g
theorem B6.ok (R : Rt) (fr : Fr) (h : Hp) (g : L4.g (fun a0 l0 c0 x1 a6 l6 c6 x7 x20 x21 h => ∃ n, L4.t R n a0 l0 c0 x1 a6 l6 c6 x7 x20 x21 h) fr h) : den prog E (cAt C [true, true, true, true, false, true]) (Ex.then (D2.g R) (retQ E [.tmp 4, .tmp 5] R)) fr h :=
  den_block (by kernel_rfl) (L4.ok R fr h g)
def D3.t (R : Rt) (a0 : Option Addr) (l0 : Nat) (c0 : Nat) (x1 : Int) (a6 : Option Addr) (l6 : Nat) (c6 : Nat) (x7 : Int) (h : Hp) : Prop :=
  (∃ n, L4.t R n a0 l0 c0 x1 a6 l6 c6 x7 (((l0 : Nat) : Int)) 0 h)
def D3.g (R : Rt) (fr : Fr) (h : Hp) : Prop := gSlice (fr 0) fun a0 l0 c0 => gInt .u64 (fr 1) fun x1 => gSlice (fr 6) fun a6 l6 c6 => gInt .u64 (fr 7) fun x7 => D3.t R a0 l0 c0 x1 a6 l6 c6 x7 h
theorem D3.ok (R : Rt) (fr : Fr) (h : Hp) (g : D3.g R fr h) : den prog E (cAt C [true, true, true, true, false]) (Ex.then (D2.g R) (retQ E [.tmp 4, .tmp 5] R)) fr h := by
  obtain ⟨a0, l0, c0, e0, g⟩ := gSlice_elim g
  obtain ⟨x1, e1, g⟩ := gInt_elim g
  obtain ⟨a6, l6, c6, e6, g⟩ := gSlice_elim g
  obtain ⟨x7, e7, g⟩ := gInt_elim g
  exact den_cut 1 (r := (cAt C [true, true, true, true, false, true])) (by kernel_rfl) (B6.ok R) (den_enter [(0, .slice a0 l0 c0), (1, .int .u64 x1), (6, .slice a6 l6 c6), (7, .int .u64 x7)] ⟨e0, e1, e6, e7, trivial⟩ (by kernel_rfl) g)
theorem W7.ok (R : Rt) (fr : Fr) (h : Hp) (g : D3.g R fr h) : den prog E (cAt C [true, true, true, true]) (retQ E [.tmp 4, .tmp 5] R) fr h :=
  den_then (by kernel_rfl) (D2.ok R) (D3.ok R fr h g)
def D1.t (R : Rt) (a0 : Option Addr) (l0 : Nat) (c0 : Nat) (x1 : Int) (h : Hp) : Prop :=
  HC nat_Form.id #[.slice a0 l0 c0] h fun v1 h2 =>
  gBool v1 fun b_3 =>
  cond (!b_3) (R (.tuple #[.slice none 0 0, .int .i64 2]) h2) (letK (IntKind.i64.wrap ((((l0 : Nat) : Int)) + 1)) fun n4 =>
  mkK h2 28 T28 n4 n4 fun q5 h6 =>
  D3.t R a0 l0 c0 x1 (some q5) n4.toNat n4.toNat 0 h6)
def D1.g (R : Rt) (fr : Fr) (h : Hp) : Prop := gSlice (fr 0) fun a0 l0 c0 => gInt .u64 (fr 1) fun x1 => D1.t R a0 l0 c0 x1 h
theorem D1.ok (R : Rt) (fr : Fr) (h : Hp) (g : D1.g R fr h) : den prog E C (retQ E [.tmp 4, .tmp 5] R) fr h := by
  obtain ⟨a0, l0, c0, e0, g⟩ := gSlice_elim g
  obtain ⟨x1, e1, g⟩ := gInt_elim g
  exact den_cut 4 (r := (cAt C [true, true, true, true])) (by kernel_rfl) (W7.ok R) (den_enter [(0, .slice a0 l0 c0), (1, .int .u64 x1)] ⟨e0, e1, trivial⟩ (by kernel_rfl) g)
def t (a0 : Option Addr) (l0 : Nat) (c0 : Nat) (x1 : Int) (h : Hp) (R : Rt) : Prop := D1.t R a0 l0 c0 x1 h
theorem ok {a0 : Option Addr} {l0 : Nat} {c0 : Nat} {x1 : Int} {h : Hp} {R : Rt} (g : t a0 l0 c0 x1 h R) : HC id #[.slice a0 l0 c0, .int .u64 x1] h R :=
  calls_of_den' envOk (c := C) (rs := [.tmp 4, .tmp 5]) Tryd.func28 (by kernel_rfl) (by kernel_rfl) (by kernel_rfl) (args := [.slice a0 l0 c0, .int .u64 x1]) (by kernel_rfl) (D1.ok R _ h (gSlice_intro rfl (gInt_intro rfl (g))))
end nat_MulWord

namespace natdiv_Text
noncomputable def C : Code := bodyOf Tryd.f29
def D3.t (R : Rt) (q8 : Addr) (h : Hp) : Prop :=
  HC strings_Builder_Len.id #[.pointer (some q8)] h fun v9 h10 =>
  gInt .i64 v9 fun x_11 =>
  cond (x_11 == 0) (R (.tuple #[.string (⟨#[48]⟩ : ByteArray), .int .i64 0]) h10) (HC strings_Builder_Len.id #[.pointer (some q8)] h10 fun v12 h13 =>
  gInt .i64 v12 fun x_14 =>
  cond (decide (x_14 > 4900)) (R (.tuple #[.string (⟨#[]⟩ : ByteArray), .int .i64 5]) h13) (HC strings_Builder_String.id #[.pointer (some q8)] h13 fun v15 h16 =>
  gStr v15 fun s_17 =>
  R (.tuple #[.string s_17, .int .i64 0]) h16))
def D3.g (R : Rt) (fr : Fr) (h : Hp) : Prop := gPtrS (fr 8) fun q8 => D3.t R q8 h
theorem D3.ok (R : Rt) (fr : Fr) (h : Hp) (g : D3.g R fr h) : den prog E (cAt C [true, true, true, true, true, true, true]) (retQ E [.tmp 2, .tmp 3] R) fr h := by
  obtain ⟨q8, e8, g⟩ := gPtrS_elim g
  exact den_enter [(8, .pointer (some q8))] ⟨e8, trivial⟩ (by kernel_rfl) g
def L5.g (N : Option Addr → Nat → Nat → Addr → Int → Int → Hp → Prop) (fr : Fr) (h : Hp) : Prop := gSlice (fr 4) fun a4 l4 c4 => gPtrS (fr 8) fun q8 => gInt .i64 (fr 40) fun x40 => gInt .i64 (fr 41) fun x41 => N a4 l4 c4 q8 x40 x41 h
def D6.t (R : Rt) (N5 : Option Addr → Nat → Nat → Addr → Int → Int → Hp → Prop) (a4 : Option Addr) (l4 : Nat) (c4 : Nat) (q8 : Addr) (x40 : Int) (x41 : Int) (h : Hp) : Prop :=
  cond (decide (x41 < x40)) (letK (IntKind.i64.wrap ((((l4 : Nat) : Int)) - 1)) fun n18 =>
  letK (IntKind.i64.wrap (n18 - x41)) fun n19 =>
  idxK a4 l4 n19 1 fun q20 =>
  ldK h q20 fun v21 =>
  gInt .u8 v21 fun x_22 =>
  cond (x_22 != 48) (HC strings_Builder_WriteByte.id #[.pointer (some q8), .int .u8 x_22] h fun v23 h24 =>
  letK (IntKind.i64.wrap (x41 + 1)) fun n25 =>
  N5 a4 l4 c4 q8 x40 n25 h24) (HC strings_Builder_Len.id #[.pointer (some q8)] h fun v26 h27 =>
  gInt .i64 v26 fun x_28 =>
  cond (decide (x_28 > 0)) (HC strings_Builder_WriteByte.id #[.pointer (some q8), .int .u8 x_22] h27 fun v29 h30 =>
  letK (IntKind.i64.wrap (x41 + 1)) fun n31 =>
  N5 a4 l4 c4 q8 x40 n31 h30) (letK (IntKind.i64.wrap (x41 + 1)) fun n32 =>
  N5 a4 l4 c4 q8 x40 n32 h27))) (D3.t R q8 h)
def D6.g (R : Rt) (N5 : Option Addr → Nat → Nat → Addr → Int → Int → Hp → Prop) (fr : Fr) (h : Hp) : Prop := gSlice (fr 4) fun a4 l4 c4 => gPtrS (fr 8) fun q8 => gInt .i64 (fr 40) fun x40 => gInt .i64 (fr 41) fun x41 => D6.t R N5 a4 l4 c4 q8 x40 x41 h
theorem D6.ok (R : Rt) (N5 : Option Addr → Nat → Nat → Addr → Int → Int → Hp → Prop) (fr : Fr) (h : Hp) (g : D6.g R N5 fr h) : den prog E (cAt C [true, true, true, true, true, true, false, true, false, false]) (Ex.then (L5.g N5) (Ex.inBlock 4 (Ex.then (D3.g R) (retQ E [.tmp 2, .tmp 3] R)))) fr h := by
  obtain ⟨a4, l4, c4, e4, g⟩ := gSlice_elim g
  obtain ⟨q8, e8, g⟩ := gPtrS_elim g
  obtain ⟨x40, e40, g⟩ := gInt_elim g
  obtain ⟨x41, e41, g⟩ := gInt_elim g
  exact den_enter [(4, .slice a4 l4 c4), (8, .pointer (some q8)), (40, .int .i64 x40), (41, .int .i64 x41)] ⟨e4, e8, e40, e41, trivial⟩ (by kernel_rfl) g
def L5.t (R : Rt) : Nat → Option Addr → Nat → Nat → Addr → Int → Int → Hp → Prop
  | 0 => fun _ _ _ _ _ _ _ => False
  | n + 1 => fun a4 l4 c4 q8 x40 x41 h => D6.t R (L5.t R n) a4 l4 c4 q8 x40 x41 h
theorem L5.ok (R : Rt) (fr : Fr) (h : Hp) (g : L5.g (fun a4 l4 c4 q8 x40 x41 h => ∃ n, L5.t R n a4 l4 c4 q8 x40 x41 h) fr h) : den prog E (cAt C [true, true, true, true, true, true, false, true, false]) (Ex.inBlock 4 (Ex.then (D3.g R) (retQ E [.tmp 2, .tmp 3] R))) fr h := by
  obtain ⟨a4, l4, c4, e4, g⟩ := gSlice_elim g
  obtain ⟨q8, e8, g⟩ := gPtrS_elim g
  obtain ⟨x40, e40, g⟩ := gInt_elim g
  obtain ⟨x41, e41, g⟩ := gInt_elim g
  obtain ⟨n, g⟩ := g
  refine loop_ok (fun n => L5.g (L5.t R n)) (b := (cAt C [true, true, true, true, true, true, false, true, false, false])) (by kernel_rfl) (fun fr h g => ?_) (fun n => D6.ok R (L5.t R n)) n fr h (gSlice_intro e4 (gPtrS_intro e8 (gInt_intro e40 (gInt_intro e41 (g)))))
  obtain ⟨a4, l4, c4, e4, g⟩ := gSlice_elim g
  obtain ⟨q8, e8, g⟩ := gPtrS_elim g
  obtain ⟨x40, e40, g⟩ := gInt_elim g
  obtain ⟨x41, e41, g⟩ := gInt_elim g
  exact g
theorem B7.ok (R : Rt) (fr : Fr) (h : Hp) (g : L5.g (fun a4 l4 c4 q8 x40 x41 h => ∃ n, L5.t R n a4 l4 c4 q8 x40 x41 h) fr h) : den prog E (cAt C [true, true, true, true, true, true, false, true]) (Ex.then (D3.g R) (retQ E [.tmp 2, .tmp 3] R)) fr h :=
  den_block (by kernel_rfl) (L5.ok R fr h g)
def D4.t (R : Rt) (a4 : Option Addr) (l4 : Nat) (c4 : Nat) (q8 : Addr) (h : Hp) : Prop :=
  (∃ n, L5.t R n a4 l4 c4 q8 (((l4 : Nat) : Int)) 0 h)
def D4.g (R : Rt) (fr : Fr) (h : Hp) : Prop := gSlice (fr 4) fun a4 l4 c4 => gPtrS (fr 8) fun q8 => D4.t R a4 l4 c4 q8 h
theorem D4.ok (R : Rt) (fr : Fr) (h : Hp) (g : D4.g R fr h) : den prog E (cAt C [true, true, true, true, true, true, false]) (Ex.then (D3.g R) (retQ E [.tmp 2, .tmp 3] R)) fr h := by
  obtain ⟨a4, l4, c4, e4, g⟩ := gSlice_elim g
  obtain ⟨q8, e8, g⟩ := gPtrS_elim g
  exact den_cut 1 (r := (cAt C [true, true, true, true, true, true, false, true])) (by kernel_rfl) (B7.ok R) (den_enter [(4, .slice a4 l4 c4), (8, .pointer (some q8))] ⟨e4, e8, trivial⟩ (by kernel_rfl) g)
theorem W8.ok (R : Rt) (fr : Fr) (h : Hp) (g : D4.g R fr h) : den prog E (cAt C [true, true, true, true, true, true]) (retQ E [.tmp 2, .tmp 3] R) fr h :=
  den_then (by kernel_rfl) (D3.ok R) (D4.ok R fr h g)
def D2.t (R : Rt) (a4 : Option Addr) (l4 : Nat) (c4 : Nat) (h : Hp) : Prop :=
  boxK h 76 T76.zs fun q7 h8 => D4.t R a4 l4 c4 q7 h8
def D2.g (R : Rt) (fr : Fr) (h : Hp) : Prop := gSlice (fr 4) fun a4 l4 c4 => D2.t R a4 l4 c4 h
theorem D2.ok (R : Rt) (fr : Fr) (h : Hp) (g : D2.g R fr h) : den prog E (cAt C [true, true, true, true, true]) (retQ E [.tmp 2, .tmp 3] R) fr h := by
  obtain ⟨a4, l4, c4, e4, g⟩ := gSlice_elim g
  exact den_cut 1 (r := (cAt C [true, true, true, true, true, true])) (by kernel_rfl) (W8.ok R) (den_enter [(4, .slice a4 l4 c4)] ⟨e4, trivial⟩ (by kernel_rfl) g)
def L9.g (N : Option Addr → Nat → Nat → Option Addr → Nat → Nat → Hp → Prop) (fr : Fr) (h : Hp) : Prop := gSlice (fr 0) fun a0 l0 c0 => gSlice (fr 4) fun a4 l4 c4 => N a0 l0 c0 a4 l4 c4 h
def D12.t (R : Rt) (N9 : Option Addr → Nat → Nat → Option Addr → Nat → Nat → Hp → Prop) (a4 : Option Addr) (l4 : Nat) (c4 : Nat) (a5 : Option Addr) (l5 : Nat) (c5 : Nat) (h : Hp) : Prop :=
  N9 a5 l5 c5 a4 l4 c4 h
def D12.g (R : Rt) (N9 : Option Addr → Nat → Nat → Option Addr → Nat → Nat → Hp → Prop) (fr : Fr) (h : Hp) : Prop := gSlice (fr 4) fun a4 l4 c4 => gSlice (fr 5) fun a5 l5 c5 => D12.t R N9 a4 l4 c4 a5 l5 c5 h
theorem D12.ok (R : Rt) (N9 : Option Addr → Nat → Nat → Option Addr → Nat → Nat → Hp → Prop) (fr : Fr) (h : Hp) (g : D12.g R N9 fr h) : den prog E (cAt C [true, true, true, true, false, false, false, true, false, true, true]) (Ex.inBlock 1 (Ex.then (L9.g N9) (Ex.inBlock 0 (Ex.then (D2.g R) (retQ E [.tmp 2, .tmp 3] R))))) fr h := by
  obtain ⟨a4, l4, c4, e4, g⟩ := gSlice_elim g
  obtain ⟨a5, l5, c5, e5, g⟩ := gSlice_elim g
  exact den_enter [(4, .slice a4 l4 c4), (5, .slice a5 l5 c5)] ⟨e4, e5, trivial⟩ (by kernel_rfl) g
def L14.g (N : Option Addr → Nat → Nat → Option Addr → Nat → Nat → Int → Int → Hp → Prop) (fr : Fr) (h : Hp) : Prop := gSlice (fr 4) fun a4 l4 c4 => gSlice (fr 5) fun a5 l5 c5 => gInt .u64 (fr 6) fun x6 => gInt .i64 (fr 26) fun x26 => N a4 l4 c4 a5 l5 c5 x6 x26 h
def D15.t (R : Rt) (N9 : Option Addr → Nat → Nat → Option Addr → Nat → Nat → Hp → Prop) (N14 : Option Addr → Nat → Nat → Option Addr → Nat → Nat → Int → Int → Hp → Prop) (a4 : Option Addr) (l4 : Nat) (c4 : Nat) (a5 : Option Addr) (l5 : Nat) (c5 : Nat) (x6 : Int) (x26 : Int) (h : Hp) : Prop :=
  cond (decide (x26 < 19)) ((10 : Int) ≠ 0 ∧ letK (Int.tmod x6 10) fun n42 =>
  letK (IntKind.u64.wrap (48 + n42)) fun n43 =>
  letK (IntKind.u8.wrap n43) fun n44 =>
  boxK h 5 [.int .u8 n44] fun q45 h46 =>
  apK h46 5 T5 a4 l4 c4 (.slice (some q45) 1 1) fun a_47 l_47 c_47 h47 =>
  (10 : Int) ≠ 0 ∧ letK (IntKind.u64.wrap (Int.tdiv x6 10)) fun n48 =>
  letK (IntKind.i64.wrap (x26 + 1)) fun n49 =>
  N14 a_47 l_47 c_47 a5 l5 c5 n48 n49 h47) (D12.t R N9 a4 l4 c4 a5 l5 c5 h)
def D15.g (R : Rt) (N9 : Option Addr → Nat → Nat → Option Addr → Nat → Nat → Hp → Prop) (N14 : Option Addr → Nat → Nat → Option Addr → Nat → Nat → Int → Int → Hp → Prop) (fr : Fr) (h : Hp) : Prop := gSlice (fr 4) fun a4 l4 c4 => gSlice (fr 5) fun a5 l5 c5 => gInt .u64 (fr 6) fun x6 => gInt .i64 (fr 26) fun x26 => D15.t R N9 N14 a4 l4 c4 a5 l5 c5 x6 x26 h
theorem D15.ok (R : Rt) (N9 : Option Addr → Nat → Nat → Option Addr → Nat → Nat → Hp → Prop) (N14 : Option Addr → Nat → Nat → Option Addr → Nat → Nat → Int → Int → Hp → Prop) (fr : Fr) (h : Hp) (g : D15.g R N9 N14 fr h) : den prog E (cAt C [true, true, true, true, false, false, false, true, false, true, false, true, false, false]) (Ex.then (L14.g N14) (Ex.inBlock 2 (Ex.then (D12.g R N9) (Ex.inBlock 1 (Ex.then (L9.g N9) (Ex.inBlock 0 (Ex.then (D2.g R) (retQ E [.tmp 2, .tmp 3] R)))))))) fr h := by
  obtain ⟨a4, l4, c4, e4, g⟩ := gSlice_elim g
  obtain ⟨a5, l5, c5, e5, g⟩ := gSlice_elim g
  obtain ⟨x6, e6, g⟩ := gInt_elim g
  obtain ⟨x26, e26, g⟩ := gInt_elim g
  exact den_enter [(4, .slice a4 l4 c4), (5, .slice a5 l5 c5), (6, .int .u64 x6), (26, .int .i64 x26)] ⟨e4, e5, e6, e26, trivial⟩ (by kernel_rfl) g
def L14.t (R : Rt) (N9 : Option Addr → Nat → Nat → Option Addr → Nat → Nat → Hp → Prop) : Nat → Option Addr → Nat → Nat → Option Addr → Nat → Nat → Int → Int → Hp → Prop
  | 0 => fun _ _ _ _ _ _ _ _ _ => False
  | n + 1 => fun a4 l4 c4 a5 l5 c5 x6 x26 h => D15.t R N9 (L14.t R N9 n) a4 l4 c4 a5 l5 c5 x6 x26 h
theorem L14.ok (R : Rt) (N9 : Option Addr → Nat → Nat → Option Addr → Nat → Nat → Hp → Prop) (fr : Fr) (h : Hp) (g : L14.g (fun a4 l4 c4 a5 l5 c5 x6 x26 h => ∃ n, L14.t R N9 n a4 l4 c4 a5 l5 c5 x6 x26 h) fr h) : den prog E (cAt C [true, true, true, true, false, false, false, true, false, true, false, true, false]) (Ex.inBlock 2 (Ex.then (D12.g R N9) (Ex.inBlock 1 (Ex.then (L9.g N9) (Ex.inBlock 0 (Ex.then (D2.g R) (retQ E [.tmp 2, .tmp 3] R))))))) fr h := by
  obtain ⟨a4, l4, c4, e4, g⟩ := gSlice_elim g
  obtain ⟨a5, l5, c5, e5, g⟩ := gSlice_elim g
  obtain ⟨x6, e6, g⟩ := gInt_elim g
  obtain ⟨x26, e26, g⟩ := gInt_elim g
  obtain ⟨n, g⟩ := g
  refine loop_ok (fun n => L14.g (L14.t R N9 n)) (b := (cAt C [true, true, true, true, false, false, false, true, false, true, false, true, false, false])) (by kernel_rfl) (fun fr h g => ?_) (fun n => D15.ok R N9 (L14.t R N9 n)) n fr h (gSlice_intro e4 (gSlice_intro e5 (gInt_intro e6 (gInt_intro e26 (g)))))
  obtain ⟨a4, l4, c4, e4, g⟩ := gSlice_elim g
  obtain ⟨a5, l5, c5, e5, g⟩ := gSlice_elim g
  obtain ⟨x6, e6, g⟩ := gInt_elim g
  obtain ⟨x26, e26, g⟩ := gInt_elim g
  exact g
theorem B16.ok (R : Rt) (N9 : Option Addr → Nat → Nat → Option Addr → Nat → Nat → Hp → Prop) (fr : Fr) (h : Hp) (g : L14.g (fun a4 l4 c4 a5 l5 c5 x6 x26 h => ∃ n, L14.t R N9 n a4 l4 c4 a5 l5 c5 x6 x26 h) fr h) : den prog E (cAt C [true, true, true, true, false, false, false, true, false, true, false, true]) (Ex.then (D12.g R N9) (Ex.inBlock 1 (Ex.then (L9.g N9) (Ex.inBlock 0 (Ex.then (D2.g R) (retQ E [.tmp 2, .tmp 3] R)))))) fr h :=
  den_block (by kernel_rfl) (L14.ok R N9 fr h g)
def D13.t (R : Rt) (N9 : Option Addr → Nat → Nat → Option Addr → Nat → Nat → Hp → Prop) (a4 : Option Addr) (l4 : Nat) (c4 : Nat) (a5 : Option Addr) (l5 : Nat) (c5 : Nat) (x6 : Int) (h : Hp) : Prop :=
  (∃ n, L14.t R N9 n a4 l4 c4 a5 l5 c5 x6 0 h)
def D13.g (R : Rt) (N9 : Option Addr → Nat → Nat → Option Addr → Nat → Nat → Hp → Prop) (fr : Fr) (h : Hp) : Prop := gSlice (fr 4) fun a4 l4 c4 => gSlice (fr 5) fun a5 l5 c5 => gInt .u64 (fr 6) fun x6 => D13.t R N9 a4 l4 c4 a5 l5 c5 x6 h
theorem D13.ok (R : Rt) (N9 : Option Addr → Nat → Nat → Option Addr → Nat → Nat → Hp → Prop) (fr : Fr) (h : Hp) (g : D13.g R N9 fr h) : den prog E (cAt C [true, true, true, true, false, false, false, true, false, true, false]) (Ex.then (D12.g R N9) (Ex.inBlock 1 (Ex.then (L9.g N9) (Ex.inBlock 0 (Ex.then (D2.g R) (retQ E [.tmp 2, .tmp 3] R)))))) fr h := by
  obtain ⟨a4, l4, c4, e4, g⟩ := gSlice_elim g
  obtain ⟨a5, l5, c5, e5, g⟩ := gSlice_elim g
  obtain ⟨x6, e6, g⟩ := gInt_elim g
  exact den_cut 1 (r := (cAt C [true, true, true, true, false, false, false, true, false, true, false, true])) (by kernel_rfl) (B16.ok R N9) (den_enter [(4, .slice a4 l4 c4), (5, .slice a5 l5 c5), (6, .int .u64 x6)] ⟨e4, e5, e6, trivial⟩ (by kernel_rfl) g)
theorem W17.ok (R : Rt) (N9 : Option Addr → Nat → Nat → Option Addr → Nat → Nat → Hp → Prop) (fr : Fr) (h : Hp) (g : D13.g R N9 fr h) : den prog E (cAt C [true, true, true, true, false, false, false, true, false, true]) (Ex.inBlock 1 (Ex.then (L9.g N9) (Ex.inBlock 0 (Ex.then (D2.g R) (retQ E [.tmp 2, .tmp 3] R))))) fr h :=
  den_then (by kernel_rfl) (D12.ok R N9) (D13.ok R N9 fr h g)
def D11.t (R : Rt) (N9 : Option Addr → Nat → Nat → Option Addr → Nat → Nat → Hp → Prop) (a0 : Option Addr) (l0 : Nat) (c0 : Nat) (a4 : Option Addr) (l4 : Nat) (c4 : Nat) (h : Hp) : Prop :=
  HC nat_DivWord.id #[.slice a0 l0 c0, .int .u64 10000000000000000000] h fun v33 h34 =>
  gTup v33 fun y35 =>
  uncons y35 fun v36 y36 =>
  gSlice v36 fun a_37 l_37 c_37 =>
  uncons y36 fun v38 y38 =>
  gInt .u64 v38 fun x_39 =>
  uncons y38 fun v40 y40 =>
  gInt .i64 v40 fun x_41 =>
  unnil y40 <| D13.t R N9 a4 l4 c4 a_37 l_37 c_37 x_39 h34
def D11.g (R : Rt) (N9 : Option Addr → Nat → Nat → Option Addr → Nat → Nat → Hp → Prop) (fr : Fr) (h : Hp) : Prop := gSlice (fr 0) fun a0 l0 c0 => gSlice (fr 4) fun a4 l4 c4 => D11.t R N9 a0 l0 c0 a4 l4 c4 h
theorem D11.ok (R : Rt) (N9 : Option Addr → Nat → Nat → Option Addr → Nat → Nat → Hp → Prop) (fr : Fr) (h : Hp) (g : D11.g R N9 fr h) : den prog E (cAt C [true, true, true, true, false, false, false, true, false]) (Ex.inBlock 1 (Ex.then (L9.g N9) (Ex.inBlock 0 (Ex.then (D2.g R) (retQ E [.tmp 2, .tmp 3] R))))) fr h := by
  obtain ⟨a0, l0, c0, e0, g⟩ := gSlice_elim g
  obtain ⟨a4, l4, c4, e4, g⟩ := gSlice_elim g
  exact den_cut 1 (r := (cAt C [true, true, true, true, false, false, false, true, false, true])) (by kernel_rfl) (W17.ok R N9) (den_enter [(0, .slice a0 l0 c0), (4, .slice a4 l4 c4)] ⟨e0, e4, trivial⟩ (by kernel_rfl) g)
theorem B18.ok (R : Rt) (N9 : Option Addr → Nat → Nat → Option Addr → Nat → Nat → Hp → Prop) (fr : Fr) (h : Hp) (g : D11.g R N9 fr h) : den prog E (cAt C [true, true, true, true, false, false, false, true]) (Ex.then (L9.g N9) (Ex.inBlock 0 (Ex.then (D2.g R) (retQ E [.tmp 2, .tmp 3] R)))) fr h :=
  den_block (by kernel_rfl) (D11.ok R N9 fr h g)
def D10.t (R : Rt) (N9 : Option Addr → Nat → Nat → Option Addr → Nat → Nat → Hp → Prop) (a0 : Option Addr) (l0 : Nat) (c0 : Nat) (a4 : Option Addr) (l4 : Nat) (c4 : Nat) (h : Hp) : Prop :=
  cond (decide ((((l0 : Nat) : Int)) > 0)) (D11.t R N9 a0 l0 c0 a4 l4 c4 h) (D2.t R a4 l4 c4 h)
def D10.g (R : Rt) (N9 : Option Addr → Nat → Nat → Option Addr → Nat → Nat → Hp → Prop) (fr : Fr) (h : Hp) : Prop := gSlice (fr 0) fun a0 l0 c0 => gSlice (fr 4) fun a4 l4 c4 => D10.t R N9 a0 l0 c0 a4 l4 c4 h
theorem D10.ok (R : Rt) (N9 : Option Addr → Nat → Nat → Option Addr → Nat → Nat → Hp → Prop) (fr : Fr) (h : Hp) (g : D10.g R N9 fr h) : den prog E (cAt C [true, true, true, true, false, false, false]) (Ex.then (L9.g N9) (Ex.inBlock 0 (Ex.then (D2.g R) (retQ E [.tmp 2, .tmp 3] R)))) fr h := by
  obtain ⟨a0, l0, c0, e0, g⟩ := gSlice_elim g
  obtain ⟨a4, l4, c4, e4, g⟩ := gSlice_elim g
  exact den_cut 1 (r := (cAt C [true, true, true, true, false, false, false, true])) (by kernel_rfl) (B18.ok R N9) (den_enter [(0, .slice a0 l0 c0), (4, .slice a4 l4 c4)] ⟨e0, e4, trivial⟩ (by kernel_rfl) g)
def L9.t (R : Rt) : Nat → Option Addr → Nat → Nat → Option Addr → Nat → Nat → Hp → Prop
  | 0 => fun _ _ _ _ _ _ _ => False
  | n + 1 => fun a0 l0 c0 a4 l4 c4 h => D10.t R (L9.t R n) a0 l0 c0 a4 l4 c4 h
theorem L9.ok (R : Rt) (fr : Fr) (h : Hp) (g : L9.g (fun a0 l0 c0 a4 l4 c4 h => ∃ n, L9.t R n a0 l0 c0 a4 l4 c4 h) fr h) : den prog E (cAt C [true, true, true, true, false, false]) (Ex.inBlock 0 (Ex.then (D2.g R) (retQ E [.tmp 2, .tmp 3] R))) fr h := by
  obtain ⟨a0, l0, c0, e0, g⟩ := gSlice_elim g
  obtain ⟨a4, l4, c4, e4, g⟩ := gSlice_elim g
  obtain ⟨n, g⟩ := g
  refine loop_ok (fun n => L9.g (L9.t R n)) (b := (cAt C [true, true, true, true, false, false, false])) (by kernel_rfl) (fun fr h g => ?_) (fun n => D10.ok R (L9.t R n)) n fr h (gSlice_intro e0 (gSlice_intro e4 (g)))
  obtain ⟨a0, l0, c0, e0, g⟩ := gSlice_elim g
  obtain ⟨a4, l4, c4, e4, g⟩ := gSlice_elim g
  exact g
theorem B19.ok (R : Rt) (fr : Fr) (h : Hp) (g : L9.g (fun a0 l0 c0 a4 l4 c4 h => ∃ n, L9.t R n a0 l0 c0 a4 l4 c4 h) fr h) : den prog E (cAt C [true, true, true, true, false]) (Ex.then (D2.g R) (retQ E [.tmp 2, .tmp 3] R)) fr h :=
  den_block (by kernel_rfl) (L9.ok R fr h g)
theorem W20.ok (R : Rt) (fr : Fr) (h : Hp) (g : L9.g (fun a0 l0 c0 a4 l4 c4 h => ∃ n, L9.t R n a0 l0 c0 a4 l4 c4 h) fr h) : den prog E (cAt C [true, true, true, true]) (retQ E [.tmp 2, .tmp 3] R) fr h :=
  den_then (by kernel_rfl) (D2.ok R) (B19.ok R fr h g)
def D1.t (R : Rt) (a0 : Option Addr) (l0 : Nat) (c0 : Nat) (h : Hp) : Prop :=
  HC nat_Form.id #[.slice a0 l0 c0] h fun v1 h2 =>
  gBool v1 fun b_3 =>
  cond (!b_3) (R (.tuple #[.string (⟨#[]⟩ : ByteArray), .int .i64 2]) h2) (HC nat_Bits.id #[.slice a0 l0 c0] h2 fun v4 h5 =>
  gInt .i64 v4 fun x_6 =>
  cond (decide (x_6 > 16278)) (R (.tuple #[.string (⟨#[]⟩ : ByteArray), .int .i64 5]) h5) ((∃ n, L9.t R n a0 l0 c0 none 0 0 h5)))
def D1.g (R : Rt) (fr : Fr) (h : Hp) : Prop := gSlice (fr 0) fun a0 l0 c0 => D1.t R a0 l0 c0 h
theorem D1.ok (R : Rt) (fr : Fr) (h : Hp) (g : D1.g R fr h) : den prog E C (retQ E [.tmp 2, .tmp 3] R) fr h := by
  obtain ⟨a0, l0, c0, e0, g⟩ := gSlice_elim g
  exact den_cut 4 (r := (cAt C [true, true, true, true])) (by kernel_rfl) (W20.ok R) (den_enter [(0, .slice a0 l0 c0)] ⟨e0, trivial⟩ (by kernel_rfl) g)
def t (a0 : Option Addr) (l0 : Nat) (c0 : Nat) (h : Hp) (R : Rt) : Prop := D1.t R a0 l0 c0 h
theorem ok {a0 : Option Addr} {l0 : Nat} {c0 : Nat} {h : Hp} {R : Rt} (g : t a0 l0 c0 h R) : HC id #[.slice a0 l0 c0] h R :=
  calls_of_den' envOk (c := C) (rs := [.tmp 2, .tmp 3]) Tryd.func29 (by kernel_rfl) (by kernel_rfl) (by kernel_rfl) (args := [.slice a0 l0 c0]) (by kernel_rfl) (D1.ok R _ h (gSlice_intro rfl (g)))
end natdiv_Text

namespace nat_Bits
noncomputable def C : Code := bodyOf Tryd.f30
def D1.t (R : Rt) (a0 : Option Addr) (l0 : Nat) (c0 : Nat) (h : Hp) : Prop :=
  HC nat_trim.id #[.slice a0 l0 c0] h fun v1 h2 =>
  gSlice v1 fun a_3 l_3 c_3 =>
  cond ((((l_3 : Nat) : Int)) == 0) (R (.int .i64 0) h2) (letK (IntKind.i64.wrap ((((l_3 : Nat) : Int)) - 1)) fun n4 =>
  letK (IntKind.i64.wrap (64 * n4)) fun n5 =>
  letK (IntKind.i64.wrap ((((l_3 : Nat) : Int)) - 1)) fun n6 =>
  idxK a_3 l_3 n6 1 fun q7 =>
  ldK h2 q7 fun v8 =>
  gInt .u64 v8 fun x_9 =>
  HC bits_Len64.id #[.int .u64 x_9] h2 fun v10 h11 =>
  gInt .i64 v10 fun x_12 =>
  letK (IntKind.i64.wrap (n5 + x_12)) fun n13 =>
  R (.int .i64 n13) h11)
def D1.g (R : Rt) (fr : Fr) (h : Hp) : Prop := gSlice (fr 0) fun a0 l0 c0 => D1.t R a0 l0 c0 h
theorem D1.ok (R : Rt) (fr : Fr) (h : Hp) (g : D1.g R fr h) : den prog E C (retQ E [.tmp 2] R) fr h := by
  obtain ⟨a0, l0, c0, e0, g⟩ := gSlice_elim g
  exact den_enter [(0, .slice a0 l0 c0)] ⟨e0, trivial⟩ (by kernel_rfl) g
def t (a0 : Option Addr) (l0 : Nat) (c0 : Nat) (h : Hp) (R : Rt) : Prop := D1.t R a0 l0 c0 h
theorem ok {a0 : Option Addr} {l0 : Nat} {c0 : Nat} {h : Hp} {R : Rt} (g : t a0 l0 c0 h R) : HC id #[.slice a0 l0 c0] h R :=
  calls_of_den' envOk (c := C) (rs := [.tmp 2]) Tryd.func30 (by kernel_rfl) (by kernel_rfl) (by kernel_rfl) (args := [.slice a0 l0 c0]) (by kernel_rfl) (D1.ok R _ h (gSlice_intro rfl (g)))
end nat_Bits

namespace natdiv_Read
noncomputable def C : Code := bodyOf Tryd.f31
def D2.t (R : Rt) (a4 : Option Addr) (l4 : Nat) (c4 : Nat) (h : Hp) : Prop :=
  R (.tuple #[.slice a4 l4 c4, .int .i64 0]) h
def D2.g (R : Rt) (fr : Fr) (h : Hp) : Prop := gSlice (fr 4) fun a4 l4 c4 => D2.t R a4 l4 c4 h
theorem D2.ok (R : Rt) (fr : Fr) (h : Hp) (g : D2.g R fr h) : den prog E (cAt C [true, true, true, true, true, true, true]) (retQ E [.tmp 2, .tmp 3] R) fr h := by
  obtain ⟨a4, l4, c4, e4, g⟩ := gSlice_elim g
  exact den_enter [(4, .slice a4 l4 c4)] ⟨e4, trivial⟩ (by kernel_rfl) g
def L4.g (N : ByteArray → Option Addr → Nat → Nat → Int → Int → Addr → Hp → Prop) (fr : Fr) (h : Hp) : Prop := gStr (fr 0) fun s0 => gSlice (fr 4) fun a4 l4 c4 => gInt .u64 (fr 5) fun x5 => gInt .u64 (fr 6) fun x6 => gPtrS (fr 15) fun q15 => N s0 a4 l4 c4 x5 x6 q15 h
def D5.t (R : Rt) (N4 : ByteArray → Option Addr → Nat → Nat → Int → Int → Addr → Hp → Prop) (s0 : ByteArray) (a4 : Option Addr) (l4 : Nat) (c4 : Nat) (x5 : Int) (x6 : Int) (q15 : Addr) (h : Hp) : Prop :=
  nxK h q15 (fun n3 m3 h4 =>
  cond (decide (m3 < 48)) (R (.tuple #[.slice none 0 0, .int .i64 8]) h4) (cond (decide (m3 > 57)) (R (.tuple #[.slice none 0 0, .int .i64 8]) h4) (letK (IntKind.u64.wrap (x5 * 10)) fun n5 =>
  letK (IntKind.i32.wrap (m3 - 48)) fun n6 =>
  letK (IntKind.u64.wrap n6) fun n7 =>
  letK (IntKind.u64.wrap (n5 + n7)) fun n8 =>
  letK (IntKind.u64.wrap (x6 * 10)) fun n9 =>
  cond (n9 == 10000000000000000000) (HC nat_MulWord.id #[.slice a4 l4 c4, .int .u64 n9] h4 fun v10 h11 =>
  gTup v10 fun y12 =>
  uncons y12 fun v13 y13 =>
  gSlice v13 fun a_14 l_14 c_14 =>
  uncons y13 fun v15 y15 =>
  gInt .i64 v15 fun x_16 =>
  unnil y15 <| HC nat_Word.id #[.int .u64 n8] h11 fun v17 h18 =>
  gSlice v17 fun a_19 l_19 c_19 =>
  HC nat_Add.id #[.slice a_14 l_14 c_14, .slice a_19 l_19 c_19] h18 fun v20 h21 =>
  gTup v20 fun y22 =>
  uncons y22 fun v23 y23 =>
  gSlice v23 fun a_24 l_24 c_24 =>
  uncons y23 fun v25 y25 =>
  gInt .i64 v25 fun x_26 =>
  unnil y25 <| N4 s0 a_24 l_24 c_24 0 1 q15 h21) (letK (IntKind.i64.wrap ((((s0.size : Nat) : Int)) - 1)) fun n27 =>
  cond (n3 == n27) (HC nat_MulWord.id #[.slice a4 l4 c4, .int .u64 n9] h4 fun v28 h29 =>
  gTup v28 fun y30 =>
  uncons y30 fun v31 y31 =>
  gSlice v31 fun a_32 l_32 c_32 =>
  uncons y31 fun v33 y33 =>
  gInt .i64 v33 fun x_34 =>
  unnil y33 <| HC nat_Word.id #[.int .u64 n8] h29 fun v35 h36 =>
  gSlice v35 fun a_37 l_37 c_37 =>
  HC nat_Add.id #[.slice a_32 l_32 c_32, .slice a_37 l_37 c_37] h36 fun v38 h39 =>
  gTup v38 fun y40 =>
  uncons y40 fun v41 y41 =>
  gSlice v41 fun a_42 l_42 c_42 =>
  uncons y41 fun v43 y43 =>
  gInt .i64 v43 fun x_44 =>
  unnil y43 <| N4 s0 a_42 l_42 c_42 0 1 q15 h39) (N4 s0 a4 l4 c4 n8 n9 q15 h4))))) (D2.t R a4 l4 c4 h)
def D5.g (R : Rt) (N4 : ByteArray → Option Addr → Nat → Nat → Int → Int → Addr → Hp → Prop) (fr : Fr) (h : Hp) : Prop := gStr (fr 0) fun s0 => gSlice (fr 4) fun a4 l4 c4 => gInt .u64 (fr 5) fun x5 => gInt .u64 (fr 6) fun x6 => gPtrS (fr 15) fun q15 => D5.t R N4 s0 a4 l4 c4 x5 x6 q15 h
theorem D5.ok (R : Rt) (N4 : ByteArray → Option Addr → Nat → Nat → Int → Int → Addr → Hp → Prop) (fr : Fr) (h : Hp) (g : D5.g R N4 fr h) : den prog E (cAt C [true, true, true, true, true, true, false, true, false, false]) (Ex.then (L4.g N4) (Ex.inBlock 0 (Ex.then (D2.g R) (retQ E [.tmp 2, .tmp 3] R)))) fr h := by
  obtain ⟨s0, e0, g⟩ := gStr_elim g
  obtain ⟨a4, l4, c4, e4, g⟩ := gSlice_elim g
  obtain ⟨x5, e5, g⟩ := gInt_elim g
  obtain ⟨x6, e6, g⟩ := gInt_elim g
  obtain ⟨q15, e15, g⟩ := gPtrS_elim g
  exact den_enter [(0, .string s0), (4, .slice a4 l4 c4), (5, .int .u64 x5), (6, .int .u64 x6), (15, .pointer (some q15))] ⟨e0, e4, e5, e6, e15, trivial⟩ (by kernel_rfl) g
def L4.t (R : Rt) : Nat → ByteArray → Option Addr → Nat → Nat → Int → Int → Addr → Hp → Prop
  | 0 => fun _ _ _ _ _ _ _ _ => False
  | n + 1 => fun s0 a4 l4 c4 x5 x6 q15 h => D5.t R (L4.t R n) s0 a4 l4 c4 x5 x6 q15 h
theorem L4.ok (R : Rt) (fr : Fr) (h : Hp) (g : L4.g (fun s0 a4 l4 c4 x5 x6 q15 h => ∃ n, L4.t R n s0 a4 l4 c4 x5 x6 q15 h) fr h) : den prog E (cAt C [true, true, true, true, true, true, false, true, false]) (Ex.inBlock 0 (Ex.then (D2.g R) (retQ E [.tmp 2, .tmp 3] R))) fr h := by
  obtain ⟨s0, e0, g⟩ := gStr_elim g
  obtain ⟨a4, l4, c4, e4, g⟩ := gSlice_elim g
  obtain ⟨x5, e5, g⟩ := gInt_elim g
  obtain ⟨x6, e6, g⟩ := gInt_elim g
  obtain ⟨q15, e15, g⟩ := gPtrS_elim g
  obtain ⟨n, g⟩ := g
  refine loop_ok (fun n => L4.g (L4.t R n)) (b := (cAt C [true, true, true, true, true, true, false, true, false, false])) (by kernel_rfl) (fun fr h g => ?_) (fun n => D5.ok R (L4.t R n)) n fr h (gStr_intro e0 (gSlice_intro e4 (gInt_intro e5 (gInt_intro e6 (gPtrS_intro e15 (g))))))
  obtain ⟨s0, e0, g⟩ := gStr_elim g
  obtain ⟨a4, l4, c4, e4, g⟩ := gSlice_elim g
  obtain ⟨x5, e5, g⟩ := gInt_elim g
  obtain ⟨x6, e6, g⟩ := gInt_elim g
  obtain ⟨q15, e15, g⟩ := gPtrS_elim g
  exact g
theorem B6.ok (R : Rt) (fr : Fr) (h : Hp) (g : L4.g (fun s0 a4 l4 c4 x5 x6 q15 h => ∃ n, L4.t R n s0 a4 l4 c4 x5 x6 q15 h) fr h) : den prog E (cAt C [true, true, true, true, true, true, false, true]) (Ex.then (D2.g R) (retQ E [.tmp 2, .tmp 3] R)) fr h :=
  den_block (by kernel_rfl) (L4.ok R fr h g)
def D3.t (R : Rt) (s0 : ByteArray) (a4 : Option Addr) (l4 : Nat) (c4 : Nat) (x5 : Int) (x6 : Int) (h : Hp) : Prop :=
  rgK h s0 fun q1 h2 => (∃ n, L4.t R n s0 a4 l4 c4 x5 x6 q1 h2)
def D3.g (R : Rt) (fr : Fr) (h : Hp) : Prop := gStr (fr 0) fun s0 => gSlice (fr 4) fun a4 l4 c4 => gInt .u64 (fr 5) fun x5 => gInt .u64 (fr 6) fun x6 => D3.t R s0 a4 l4 c4 x5 x6 h
theorem D3.ok (R : Rt) (fr : Fr) (h : Hp) (g : D3.g R fr h) : den prog E (cAt C [true, true, true, true, true, true, false]) (Ex.then (D2.g R) (retQ E [.tmp 2, .tmp 3] R)) fr h := by
  obtain ⟨s0, e0, g⟩ := gStr_elim g
  obtain ⟨a4, l4, c4, e4, g⟩ := gSlice_elim g
  obtain ⟨x5, e5, g⟩ := gInt_elim g
  obtain ⟨x6, e6, g⟩ := gInt_elim g
  exact den_cut 1 (r := (cAt C [true, true, true, true, true, true, false, true])) (by kernel_rfl) (B6.ok R) (den_enter [(0, .string s0), (4, .slice a4 l4 c4), (5, .int .u64 x5), (6, .int .u64 x6)] ⟨e0, e4, e5, e6, trivial⟩ (by kernel_rfl) g)
theorem W7.ok (R : Rt) (fr : Fr) (h : Hp) (g : D3.g R fr h) : den prog E (cAt C [true, true, true, true, true, true]) (retQ E [.tmp 2, .tmp 3] R) fr h :=
  den_then (by kernel_rfl) (D2.ok R) (D3.ok R fr h g)
def D1.t (R : Rt) (s0 : ByteArray) (h : Hp) : Prop :=
  cond (decide ((((s0.size : Nat) : Int)) > 4900)) (R (.tuple #[.slice none 0 0, .int .i64 7]) h) (cond (s0.toList == (⟨#[]⟩ : ByteArray).toList) (R (.tuple #[.slice none 0 0, .int .i64 8]) h) (D3.t R s0 none 0 0 0 1 h))
def D1.g (R : Rt) (fr : Fr) (h : Hp) : Prop := gStr (fr 0) fun s0 => D1.t R s0 h
theorem D1.ok (R : Rt) (fr : Fr) (h : Hp) (g : D1.g R fr h) : den prog E C (retQ E [.tmp 2, .tmp 3] R) fr h := by
  obtain ⟨s0, e0, g⟩ := gStr_elim g
  exact den_cut 6 (r := (cAt C [true, true, true, true, true, true])) (by kernel_rfl) (W7.ok R) (den_enter [(0, .string s0)] ⟨e0, trivial⟩ (by kernel_rfl) g)
def t (s0 : ByteArray) (h : Hp) (R : Rt) : Prop := D1.t R s0 h
theorem ok {s0 : ByteArray} {h : Hp} {R : Rt} (g : t s0 h R) : HC id #[.string s0] h R :=
  calls_of_den' envOk (c := C) (rs := [.tmp 2, .tmp 3]) Tryd.func31 (by kernel_rfl) (by kernel_rfl) (by kernel_rfl) (args := [.string s0]) (by kernel_rfl) (D1.ok R _ h (gStr_intro rfl (g)))
end natdiv_Read

namespace num_FloorDiv
noncomputable def C : Code := bodyOf Tryd.f32
def D1.t (R : Rt) (b0_0 : Bool) (a0_1 : Option Addr) (l0_1 : Nat) (c0_1 : Nat) (b1_0 : Bool) (a1_1 : Option Addr) (l1_1 : Nat) (c1_1 : Nat) (h : Hp) : Prop :=
  boxK h 33 [.bool b0_0, .slice a0_1 l0_1 c0_1] fun q1 h2 =>
  boxK h2 33 [.bool b1_0, .slice a1_1 l1_1 c1_1] fun q3 h4 =>
  boxK h4 33 T33.zs fun q5 h6 =>
  ldK h6 (q1.add 0) fun v7 =>
  gBool v7 fun b_8 =>
  ldK h6 (q1.add 1) fun v9 =>
  gSlice v9 fun a_10 l_10 c_10 =>
  ldK h6 (q3.add 0) fun v11 =>
  gBool v11 fun b_12 =>
  ldK h6 (q3.add 1) fun v13 =>
  gSlice v13 fun a_14 l_14 c_14 =>
  HC num_way_div.id #[.int .i64 0, .agg #[.bool b_8, .slice a_10 l_10 c_10], .agg #[.bool b_12, .slice a_14 l_14 c_14]] h6 fun v15 h16 =>
  gTup v15 fun y17 =>
  uncons y17 fun v18 y18 =>
  gAgg v18 fun y19 =>
  uncons y19 fun v20 y20 =>
  gBool v20 fun b_21 =>
  uncons y20 fun v22 y22 =>
  gSlice v22 fun a_23 l_23 c_23 =>
  unnil y22 <| uncons y18 fun v24 y24 =>
  gInt .i64 v24 fun x_25 =>
  unnil y24 <| stK h16 (q5.add 0) (.bool b_21) fun h26 =>
  stK h26 (q5.add 1) (.slice a_23 l_23 c_23) fun h27 =>
  ldK h27 (q5.add 0) fun v28 =>
  gBool v28 fun b_29 =>
  ldK h27 (q5.add 1) fun v30 =>
  gSlice v30 fun a_31 l_31 c_31 =>
  R (.tuple #[.agg #[.bool b_29, .slice a_31 l_31 c_31], .int .i64 x_25]) h27
def D1.g (R : Rt) (fr : Fr) (h : Hp) : Prop := gAgg (fr 0) fun z0 => uncons z0 fun w0_0 z0_0 => gBool w0_0 fun b0_0 => uncons z0_0 fun w0_1 z0_1 => gSlice w0_1 fun a0_1 l0_1 c0_1 => unnil z0_1 <| gAgg (fr 1) fun z1 => uncons z1 fun w1_0 z1_0 => gBool w1_0 fun b1_0 => uncons z1_0 fun w1_1 z1_1 => gSlice w1_1 fun a1_1 l1_1 c1_1 => unnil z1_1 <| D1.t R b0_0 a0_1 l0_1 c0_1 b1_0 a1_1 l1_1 c1_1 h
theorem D1.ok (R : Rt) (fr : Fr) (h : Hp) (g : D1.g R fr h) : den prog E C (retQ E [.cell 4 33, .tmp 5] R) fr h := by
  obtain ⟨z0, e0, g0_0⟩ := gAgg_elim' g
  obtain ⟨w0_0, z0_0, rfl, g0_0x⟩ := uncons_elim g0_0
  obtain ⟨b0_0, rfl, g0_1⟩ := gBool_elim g0_0x
  obtain ⟨w0_1, z0_1, rfl, g0_1x⟩ := uncons_elim g0_1
  obtain ⟨a0_1, l0_1, c0_1, rfl, g0_2⟩ := gSlice_elim g0_1x
  obtain ⟨rfl, g⟩ := unnil_elim g0_2
  obtain ⟨z1, e1, g1_0⟩ := gAgg_elim' g
  obtain ⟨w1_0, z1_0, rfl, g1_0x⟩ := uncons_elim g1_0
  obtain ⟨b1_0, rfl, g1_1⟩ := gBool_elim g1_0x
  obtain ⟨w1_1, z1_1, rfl, g1_1x⟩ := uncons_elim g1_1
  obtain ⟨a1_1, l1_1, c1_1, rfl, g1_2⟩ := gSlice_elim g1_1x
  obtain ⟨rfl, g⟩ := unnil_elim g1_2
  exact den_enter [(0, .agg #[.bool b0_0, .slice a0_1 l0_1 c0_1]), (1, .agg #[.bool b1_0, .slice a1_1 l1_1 c1_1])] ⟨e0, e1, trivial⟩ (by kernel_rfl) g
def t (b0_0 : Bool) (a0_1 : Option Addr) (l0_1 : Nat) (c0_1 : Nat) (b1_0 : Bool) (a1_1 : Option Addr) (l1_1 : Nat) (c1_1 : Nat) (h : Hp) (R : Rt) : Prop := D1.t R b0_0 a0_1 l0_1 c0_1 b1_0 a1_1 l1_1 c1_1 h
theorem ok {b0_0 : Bool} {a0_1 : Option Addr} {l0_1 : Nat} {c0_1 : Nat} {b1_0 : Bool} {a1_1 : Option Addr} {l1_1 : Nat} {c1_1 : Nat} {h : Hp} {R : Rt} (g : t b0_0 a0_1 l0_1 c0_1 b1_0 a1_1 l1_1 c1_1 h R) : HC id #[.agg #[.bool b0_0, .slice a0_1 l0_1 c0_1], .agg #[.bool b1_0, .slice a1_1 l1_1 c1_1]] h R :=
  calls_of_den' envOk (c := C) (rs := [.cell 4 33, .tmp 5]) Tryd.func32 (by kernel_rfl) (by kernel_rfl) (by kernel_rfl) (args := [.agg #[.bool b0_0, .slice a0_1 l0_1 c0_1], .agg #[.bool b1_0, .slice a1_1 l1_1 c1_1]]) (by kernel_rfl) (D1.ok R _ h (gAgg_intro rfl (uncons_intro (gBool_intro rfl (uncons_intro (gSlice_intro rfl (unnil_intro (gAgg_intro rfl (uncons_intro (gBool_intro rfl (uncons_intro (gSlice_intro rfl (unnil_intro (g))))))))))))))
end num_FloorDiv

namespace num_CeilDiv
noncomputable def C : Code := bodyOf Tryd.f33
def D1.t (R : Rt) (b0_0 : Bool) (a0_1 : Option Addr) (l0_1 : Nat) (c0_1 : Nat) (b1_0 : Bool) (a1_1 : Option Addr) (l1_1 : Nat) (c1_1 : Nat) (h : Hp) : Prop :=
  boxK h 33 [.bool b0_0, .slice a0_1 l0_1 c0_1] fun q1 h2 =>
  boxK h2 33 [.bool b1_0, .slice a1_1 l1_1 c1_1] fun q3 h4 =>
  boxK h4 33 T33.zs fun q5 h6 =>
  ldK h6 (q1.add 0) fun v7 =>
  gBool v7 fun b_8 =>
  ldK h6 (q1.add 1) fun v9 =>
  gSlice v9 fun a_10 l_10 c_10 =>
  ldK h6 (q3.add 0) fun v11 =>
  gBool v11 fun b_12 =>
  ldK h6 (q3.add 1) fun v13 =>
  gSlice v13 fun a_14 l_14 c_14 =>
  HC num_way_div.id #[.int .i64 1, .agg #[.bool b_8, .slice a_10 l_10 c_10], .agg #[.bool b_12, .slice a_14 l_14 c_14]] h6 fun v15 h16 =>
  gTup v15 fun y17 =>
  uncons y17 fun v18 y18 =>
  gAgg v18 fun y19 =>
  uncons y19 fun v20 y20 =>
  gBool v20 fun b_21 =>
  uncons y20 fun v22 y22 =>
  gSlice v22 fun a_23 l_23 c_23 =>
  unnil y22 <| uncons y18 fun v24 y24 =>
  gInt .i64 v24 fun x_25 =>
  unnil y24 <| stK h16 (q5.add 0) (.bool b_21) fun h26 =>
  stK h26 (q5.add 1) (.slice a_23 l_23 c_23) fun h27 =>
  ldK h27 (q5.add 0) fun v28 =>
  gBool v28 fun b_29 =>
  ldK h27 (q5.add 1) fun v30 =>
  gSlice v30 fun a_31 l_31 c_31 =>
  R (.tuple #[.agg #[.bool b_29, .slice a_31 l_31 c_31], .int .i64 x_25]) h27
def D1.g (R : Rt) (fr : Fr) (h : Hp) : Prop := gAgg (fr 0) fun z0 => uncons z0 fun w0_0 z0_0 => gBool w0_0 fun b0_0 => uncons z0_0 fun w0_1 z0_1 => gSlice w0_1 fun a0_1 l0_1 c0_1 => unnil z0_1 <| gAgg (fr 1) fun z1 => uncons z1 fun w1_0 z1_0 => gBool w1_0 fun b1_0 => uncons z1_0 fun w1_1 z1_1 => gSlice w1_1 fun a1_1 l1_1 c1_1 => unnil z1_1 <| D1.t R b0_0 a0_1 l0_1 c0_1 b1_0 a1_1 l1_1 c1_1 h
theorem D1.ok (R : Rt) (fr : Fr) (h : Hp) (g : D1.g R fr h) : den prog E C (retQ E [.cell 4 33, .tmp 5] R) fr h := by
  obtain ⟨z0, e0, g0_0⟩ := gAgg_elim' g
  obtain ⟨w0_0, z0_0, rfl, g0_0x⟩ := uncons_elim g0_0
  obtain ⟨b0_0, rfl, g0_1⟩ := gBool_elim g0_0x
  obtain ⟨w0_1, z0_1, rfl, g0_1x⟩ := uncons_elim g0_1
  obtain ⟨a0_1, l0_1, c0_1, rfl, g0_2⟩ := gSlice_elim g0_1x
  obtain ⟨rfl, g⟩ := unnil_elim g0_2
  obtain ⟨z1, e1, g1_0⟩ := gAgg_elim' g
  obtain ⟨w1_0, z1_0, rfl, g1_0x⟩ := uncons_elim g1_0
  obtain ⟨b1_0, rfl, g1_1⟩ := gBool_elim g1_0x
  obtain ⟨w1_1, z1_1, rfl, g1_1x⟩ := uncons_elim g1_1
  obtain ⟨a1_1, l1_1, c1_1, rfl, g1_2⟩ := gSlice_elim g1_1x
  obtain ⟨rfl, g⟩ := unnil_elim g1_2
  exact den_enter [(0, .agg #[.bool b0_0, .slice a0_1 l0_1 c0_1]), (1, .agg #[.bool b1_0, .slice a1_1 l1_1 c1_1])] ⟨e0, e1, trivial⟩ (by kernel_rfl) g
def t (b0_0 : Bool) (a0_1 : Option Addr) (l0_1 : Nat) (c0_1 : Nat) (b1_0 : Bool) (a1_1 : Option Addr) (l1_1 : Nat) (c1_1 : Nat) (h : Hp) (R : Rt) : Prop := D1.t R b0_0 a0_1 l0_1 c0_1 b1_0 a1_1 l1_1 c1_1 h
theorem ok {b0_0 : Bool} {a0_1 : Option Addr} {l0_1 : Nat} {c0_1 : Nat} {b1_0 : Bool} {a1_1 : Option Addr} {l1_1 : Nat} {c1_1 : Nat} {h : Hp} {R : Rt} (g : t b0_0 a0_1 l0_1 c0_1 b1_0 a1_1 l1_1 c1_1 h R) : HC id #[.agg #[.bool b0_0, .slice a0_1 l0_1 c0_1], .agg #[.bool b1_0, .slice a1_1 l1_1 c1_1]] h R :=
  calls_of_den' envOk (c := C) (rs := [.cell 4 33, .tmp 5]) Tryd.func33 (by kernel_rfl) (by kernel_rfl) (by kernel_rfl) (args := [.agg #[.bool b0_0, .slice a0_1 l0_1 c0_1], .agg #[.bool b1_0, .slice a1_1 l1_1 c1_1]]) (by kernel_rfl) (D1.ok R _ h (gAgg_intro rfl (uncons_intro (gBool_intro rfl (uncons_intro (gSlice_intro rfl (unnil_intro (gAgg_intro rfl (uncons_intro (gBool_intro rfl (uncons_intro (gSlice_intro rfl (unnil_intro (g))))))))))))))
end num_CeilDiv

namespace num_NearDiv
noncomputable def C : Code := bodyOf Tryd.f34
def D1.t (R : Rt) (b0_0 : Bool) (a0_1 : Option Addr) (l0_1 : Nat) (c0_1 : Nat) (b1_0 : Bool) (a1_1 : Option Addr) (l1_1 : Nat) (c1_1 : Nat) (h : Hp) : Prop :=
  boxK h 33 [.bool b0_0, .slice a0_1 l0_1 c0_1] fun q1 h2 =>
  boxK h2 33 [.bool b1_0, .slice a1_1 l1_1 c1_1] fun q3 h4 =>
  boxK h4 33 T33.zs fun q5 h6 =>
  ldK h6 (q1.add 0) fun v7 =>
  gBool v7 fun b_8 =>
  ldK h6 (q1.add 1) fun v9 =>
  gSlice v9 fun a_10 l_10 c_10 =>
  ldK h6 (q3.add 0) fun v11 =>
  gBool v11 fun b_12 =>
  ldK h6 (q3.add 1) fun v13 =>
  gSlice v13 fun a_14 l_14 c_14 =>
  HC num_way_div.id #[.int .i64 2, .agg #[.bool b_8, .slice a_10 l_10 c_10], .agg #[.bool b_12, .slice a_14 l_14 c_14]] h6 fun v15 h16 =>
  gTup v15 fun y17 =>
  uncons y17 fun v18 y18 =>
  gAgg v18 fun y19 =>
  uncons y19 fun v20 y20 =>
  gBool v20 fun b_21 =>
  uncons y20 fun v22 y22 =>
  gSlice v22 fun a_23 l_23 c_23 =>
  unnil y22 <| uncons y18 fun v24 y24 =>
  gInt .i64 v24 fun x_25 =>
  unnil y24 <| stK h16 (q5.add 0) (.bool b_21) fun h26 =>
  stK h26 (q5.add 1) (.slice a_23 l_23 c_23) fun h27 =>
  ldK h27 (q5.add 0) fun v28 =>
  gBool v28 fun b_29 =>
  ldK h27 (q5.add 1) fun v30 =>
  gSlice v30 fun a_31 l_31 c_31 =>
  R (.tuple #[.agg #[.bool b_29, .slice a_31 l_31 c_31], .int .i64 x_25]) h27
def D1.g (R : Rt) (fr : Fr) (h : Hp) : Prop := gAgg (fr 0) fun z0 => uncons z0 fun w0_0 z0_0 => gBool w0_0 fun b0_0 => uncons z0_0 fun w0_1 z0_1 => gSlice w0_1 fun a0_1 l0_1 c0_1 => unnil z0_1 <| gAgg (fr 1) fun z1 => uncons z1 fun w1_0 z1_0 => gBool w1_0 fun b1_0 => uncons z1_0 fun w1_1 z1_1 => gSlice w1_1 fun a1_1 l1_1 c1_1 => unnil z1_1 <| D1.t R b0_0 a0_1 l0_1 c0_1 b1_0 a1_1 l1_1 c1_1 h
theorem D1.ok (R : Rt) (fr : Fr) (h : Hp) (g : D1.g R fr h) : den prog E C (retQ E [.cell 4 33, .tmp 5] R) fr h := by
  obtain ⟨z0, e0, g0_0⟩ := gAgg_elim' g
  obtain ⟨w0_0, z0_0, rfl, g0_0x⟩ := uncons_elim g0_0
  obtain ⟨b0_0, rfl, g0_1⟩ := gBool_elim g0_0x
  obtain ⟨w0_1, z0_1, rfl, g0_1x⟩ := uncons_elim g0_1
  obtain ⟨a0_1, l0_1, c0_1, rfl, g0_2⟩ := gSlice_elim g0_1x
  obtain ⟨rfl, g⟩ := unnil_elim g0_2
  obtain ⟨z1, e1, g1_0⟩ := gAgg_elim' g
  obtain ⟨w1_0, z1_0, rfl, g1_0x⟩ := uncons_elim g1_0
  obtain ⟨b1_0, rfl, g1_1⟩ := gBool_elim g1_0x
  obtain ⟨w1_1, z1_1, rfl, g1_1x⟩ := uncons_elim g1_1
  obtain ⟨a1_1, l1_1, c1_1, rfl, g1_2⟩ := gSlice_elim g1_1x
  obtain ⟨rfl, g⟩ := unnil_elim g1_2
  exact den_enter [(0, .agg #[.bool b0_0, .slice a0_1 l0_1 c0_1]), (1, .agg #[.bool b1_0, .slice a1_1 l1_1 c1_1])] ⟨e0, e1, trivial⟩ (by kernel_rfl) g
def t (b0_0 : Bool) (a0_1 : Option Addr) (l0_1 : Nat) (c0_1 : Nat) (b1_0 : Bool) (a1_1 : Option Addr) (l1_1 : Nat) (c1_1 : Nat) (h : Hp) (R : Rt) : Prop := D1.t R b0_0 a0_1 l0_1 c0_1 b1_0 a1_1 l1_1 c1_1 h
theorem ok {b0_0 : Bool} {a0_1 : Option Addr} {l0_1 : Nat} {c0_1 : Nat} {b1_0 : Bool} {a1_1 : Option Addr} {l1_1 : Nat} {c1_1 : Nat} {h : Hp} {R : Rt} (g : t b0_0 a0_1 l0_1 c0_1 b1_0 a1_1 l1_1 c1_1 h R) : HC id #[.agg #[.bool b0_0, .slice a0_1 l0_1 c0_1], .agg #[.bool b1_0, .slice a1_1 l1_1 c1_1]] h R :=
  calls_of_den' envOk (c := C) (rs := [.cell 4 33, .tmp 5]) Tryd.func34 (by kernel_rfl) (by kernel_rfl) (by kernel_rfl) (args := [.agg #[.bool b0_0, .slice a0_1 l0_1 c0_1], .agg #[.bool b1_0, .slice a1_1 l1_1 c1_1]]) (by kernel_rfl) (D1.ok R _ h (gAgg_intro rfl (uncons_intro (gBool_intro rfl (uncons_intro (gSlice_intro rfl (unnil_intro (gAgg_intro rfl (uncons_intro (gBool_intro rfl (uncons_intro (gSlice_intro rfl (unnil_intro (g))))))))))))))
end num_NearDiv

namespace num_Mod
noncomputable def C : Code := bodyOf Tryd.f35
def D3.t (R : Rt) (q3 : Addr) (q4 : Addr) (a7 : Option Addr) (l7 : Nat) (c7 : Nat) (x8 : Int) (h : Hp) : Prop :=
  ldK h (q3.add 0) fun v73 =>
  gBool v73 fun b_74 =>
  HC num_told.id #[.bool b_74, .slice a7 l7 c7, .int .i64 x8] h fun v75 h76 =>
  gTup v75 fun y77 =>
  uncons y77 fun v78 y78 =>
  gAgg v78 fun y79 =>
  uncons y79 fun v80 y80 =>
  gBool v80 fun b_81 =>
  uncons y80 fun v82 y82 =>
  gSlice v82 fun a_83 l_83 c_83 =>
  unnil y82 <| uncons y78 fun v84 y84 =>
  gInt .i64 v84 fun x_85 =>
  unnil y84 <| stK h76 (q4.add 0) (.bool b_81) fun h86 =>
  stK h86 (q4.add 1) (.slice a_83 l_83 c_83) fun h87 =>
  ldK h87 (q4.add 0) fun v88 =>
  gBool v88 fun b_89 =>
  ldK h87 (q4.add 1) fun v90 =>
  gSlice v90 fun a_91 l_91 c_91 =>
  R (.tuple #[.agg #[.bool b_89, .slice a_91 l_91 c_91], .int .i64 x_85]) h87
def D3.g (R : Rt) (fr : Fr) (h : Hp) : Prop := gPtrS (fr 3) fun q3 => gPtrS (fr 4) fun q4 => gSlice (fr 7) fun a7 l7 c7 => gInt .i64 (fr 8) fun x8 => D3.t R q3 q4 a7 l7 c7 x8 h
theorem D3.ok (R : Rt) (fr : Fr) (h : Hp) (g : D3.g R fr h) : den prog E (cAt C [true, true, true, true, true, true]) (retQ E [.cell 4 33, .tmp 5] R) fr h := by
  obtain ⟨q3, e3, g⟩ := gPtrS_elim g
  obtain ⟨q4, e4, g⟩ := gPtrS_elim g
  obtain ⟨a7, l7, c7, e7, g⟩ := gSlice_elim g
  obtain ⟨x8, e8, g⟩ := gInt_elim g
  exact den_enter [(3, .pointer (some q3)), (4, .pointer (some q4)), (7, .slice a7 l7 c7), (8, .int .i64 x8)] ⟨e3, e4, e7, e8, trivial⟩ (by kernel_rfl) g
def D2.t (R : Rt) (q2 : Addr) (q3 : Addr) (q4 : Addr) (h : Hp) : Prop :=
  ldK h (q3.add 1) fun v33 =>
  gSlice v33 fun a_34 l_34 c_34 =>
  cond ((((l_34 : Nat) : Int)) == 0) (stK h (q4.add 0) (.bool false) fun h35 =>
  stK h35 (q4.add 1) (.slice none 0 0) fun h36 =>
  ldK h36 (q4.add 0) fun v37 =>
  gBool v37 fun b_38 =>
  ldK h36 (q4.add 1) fun v39 =>
  gSlice v39 fun a_40 l_40 c_40 =>
  R (.tuple #[.agg #[.bool b_38, .slice a_40 l_40 c_40], .int .i64 4]) h36) (ldK h (q2.add 1) fun v41 =>
  gSlice v41 fun a_42 l_42 c_42 =>
  ldK h (q3.add 1) fun v43 =>
  gSlice v43 fun a_44 l_44 c_44 =>
  HC natdiv_QuoRem.id #[.slice a_42 l_42 c_42, .slice a_44 l_44 c_44] h fun v45 h46 =>
  gTup v45 fun y47 =>
  uncons y47 fun v48 y48 =>
  gSlice v48 fun a_49 l_49 c_49 =>
  uncons y48 fun v50 y50 =>
  gSlice v50 fun a_51 l_51 c_51 =>
  uncons y50 fun v52 y52 =>
  gInt .i64 v52 fun x_53 =>
  unnil y52 <| cond (x_53 != 0) (stK h46 (q4.add 0) (.bool false) fun h54 =>
  stK h54 (q4.add 1) (.slice none 0 0) fun h55 =>
  ldK h55 (q4.add 0) fun v56 =>
  gBool v56 fun b_57 =>
  ldK h55 (q4.add 1) fun v58 =>
  gSlice v58 fun a_59 l_59 c_59 =>
  R (.tuple #[.agg #[.bool b_57, .slice a_59 l_59 c_59], .int .i64 x_53]) h55) (ldK h46 (q2.add 0) fun v60 =>
  gBool v60 fun b_61 =>
  ldK h46 (q3.add 0) fun v62 =>
  gBool v62 fun b_63 =>
  cond (!(b_61 == b_63)) (cond (decide ((((l_51 : Nat) : Int)) > 0)) (ldK h46 (q3.add 1) fun v64 =>
  gSlice v64 fun a_65 l_65 c_65 =>
  HC nat_Sub.id #[.slice a_65 l_65 c_65, .slice a_51 l_51 c_51] h46 fun v66 h67 =>
  gTup v66 fun y68 =>
  uncons y68 fun v69 y69 =>
  gSlice v69 fun a_70 l_70 c_70 =>
  uncons y69 fun v71 y71 =>
  gInt .i64 v71 fun x_72 =>
  unnil y71 <| D3.t R q3 q4 a_70 l_70 c_70 x_72 h67) (D3.t R q3 q4 a_51 l_51 c_51 x_53 h46)) (D3.t R q3 q4 a_51 l_51 c_51 x_53 h46)))
def D2.g (R : Rt) (fr : Fr) (h : Hp) : Prop := gPtrS (fr 2) fun q2 => gPtrS (fr 3) fun q3 => gPtrS (fr 4) fun q4 => D2.t R q2 q3 q4 h
theorem D2.ok (R : Rt) (fr : Fr) (h : Hp) (g : D2.g R fr h) : den prog E (cAt C [true, true]) (retQ E [.cell 4 33, .tmp 5] R) fr h := by
  obtain ⟨q2, e2, g⟩ := gPtrS_elim g
  obtain ⟨q3, e3, g⟩ := gPtrS_elim g
  obtain ⟨q4, e4, g⟩ := gPtrS_elim g
  exact den_cut 4 (r := (cAt C [true, true, true, true, true, true])) (by kernel_rfl) (D3.ok R) (den_enter [(2, .pointer (some q2)), (3, .pointer (some q3)), (4, .pointer (some q4))] ⟨e2, e3, e4, trivial⟩ (by kernel_rfl) g)
def D1.t (R : Rt) (b0_0 : Bool) (a0_1 : Option Addr) (l0_1 : Nat) (c0_1 : Nat) (b1_0 : Bool) (a1_1 : Option Addr) (l1_1 : Nat) (c1_1 : Nat) (h : Hp) : Prop :=
  boxK h 33 [.bool b0_0, .slice a0_1 l0_1 c0_1] fun q1 h2 =>
  boxK h2 33 [.bool b1_0, .slice a1_1 l1_1 c1_1] fun q3 h4 =>
  boxK h4 33 T33.zs fun q5 h6 =>
  ldK h6 (q1.add 0) fun v7 =>
  gBool v7 fun b_8 =>
  ldK h6 (q1.add 1) fun v9 =>
  gSlice v9 fun a_10 l_10 c_10 =>
  HC num_Form.id #[.agg #[.bool b_8, .slice a_10 l_10 c_10]] h6 fun v11 h12 =>
  gBool v11 fun b_13 =>
  cond (!b_13) (stK h12 (q5.add 0) (.bool false) fun h14 =>
  stK h14 (q5.add 1) (.slice none 0 0) fun h15 =>
  ldK h15 (q5.add 0) fun v16 =>
  gBool v16 fun b_17 =>
  ldK h15 (q5.add 1) fun v18 =>
  gSlice v18 fun a_19 l_19 c_19 =>
  R (.tuple #[.agg #[.bool b_17, .slice a_19 l_19 c_19], .int .i64 2]) h15) (ldK h12 (q3.add 0) fun v20 =>
  gBool v20 fun b_21 =>
  ldK h12 (q3.add 1) fun v22 =>
  gSlice v22 fun a_23 l_23 c_23 =>
  HC num_Form.id #[.agg #[.bool b_21, .slice a_23 l_23 c_23]] h12 fun v24 h25 =>
  gBool v24 fun b_26 =>
  cond (!b_26) (stK h25 (q5.add 0) (.bool false) fun h27 =>
  stK h27 (q5.add 1) (.slice none 0 0) fun h28 =>
  ldK h28 (q5.add 0) fun v29 =>
  gBool v29 fun b_30 =>
  ldK h28 (q5.add 1) fun v31 =>
  gSlice v31 fun a_32 l_32 c_32 =>
  R (.tuple #[.agg #[.bool b_30, .slice a_32 l_32 c_32], .int .i64 2]) h28) (D2.t R q1 q3 q5 h25))
def D1.g (R : Rt) (fr : Fr) (h : Hp) : Prop := gAgg (fr 0) fun z0 => uncons z0 fun w0_0 z0_0 => gBool w0_0 fun b0_0 => uncons z0_0 fun w0_1 z0_1 => gSlice w0_1 fun a0_1 l0_1 c0_1 => unnil z0_1 <| gAgg (fr 1) fun z1 => uncons z1 fun w1_0 z1_0 => gBool w1_0 fun b1_0 => uncons z1_0 fun w1_1 z1_1 => gSlice w1_1 fun a1_1 l1_1 c1_1 => unnil z1_1 <| D1.t R b0_0 a0_1 l0_1 c0_1 b1_0 a1_1 l1_1 c1_1 h
theorem D1.ok (R : Rt) (fr : Fr) (h : Hp) (g : D1.g R fr h) : den prog E C (retQ E [.cell 4 33, .tmp 5] R) fr h := by
  obtain ⟨z0, e0, g0_0⟩ := gAgg_elim' g
  obtain ⟨w0_0, z0_0, rfl, g0_0x⟩ := uncons_elim g0_0
  obtain ⟨b0_0, rfl, g0_1⟩ := gBool_elim g0_0x
  obtain ⟨w0_1, z0_1, rfl, g0_1x⟩ := uncons_elim g0_1
  obtain ⟨a0_1, l0_1, c0_1, rfl, g0_2⟩ := gSlice_elim g0_1x
  obtain ⟨rfl, g⟩ := unnil_elim g0_2
  obtain ⟨z1, e1, g1_0⟩ := gAgg_elim' g
  obtain ⟨w1_0, z1_0, rfl, g1_0x⟩ := uncons_elim g1_0
  obtain ⟨b1_0, rfl, g1_1⟩ := gBool_elim g1_0x
  obtain ⟨w1_1, z1_1, rfl, g1_1x⟩ := uncons_elim g1_1
  obtain ⟨a1_1, l1_1, c1_1, rfl, g1_2⟩ := gSlice_elim g1_1x
  obtain ⟨rfl, g⟩ := unnil_elim g1_2
  exact den_cut 2 (r := (cAt C [true, true])) (by kernel_rfl) (D2.ok R) (den_enter [(0, .agg #[.bool b0_0, .slice a0_1 l0_1 c0_1]), (1, .agg #[.bool b1_0, .slice a1_1 l1_1 c1_1])] ⟨e0, e1, trivial⟩ (by kernel_rfl) g)
def t (b0_0 : Bool) (a0_1 : Option Addr) (l0_1 : Nat) (c0_1 : Nat) (b1_0 : Bool) (a1_1 : Option Addr) (l1_1 : Nat) (c1_1 : Nat) (h : Hp) (R : Rt) : Prop := D1.t R b0_0 a0_1 l0_1 c0_1 b1_0 a1_1 l1_1 c1_1 h
theorem ok {b0_0 : Bool} {a0_1 : Option Addr} {l0_1 : Nat} {c0_1 : Nat} {b1_0 : Bool} {a1_1 : Option Addr} {l1_1 : Nat} {c1_1 : Nat} {h : Hp} {R : Rt} (g : t b0_0 a0_1 l0_1 c0_1 b1_0 a1_1 l1_1 c1_1 h R) : HC id #[.agg #[.bool b0_0, .slice a0_1 l0_1 c0_1], .agg #[.bool b1_0, .slice a1_1 l1_1 c1_1]] h R :=
  calls_of_den' envOk (c := C) (rs := [.cell 4 33, .tmp 5]) Tryd.func35 (by kernel_rfl) (by kernel_rfl) (by kernel_rfl) (args := [.agg #[.bool b0_0, .slice a0_1 l0_1 c0_1], .agg #[.bool b1_0, .slice a1_1 l1_1 c1_1]]) (by kernel_rfl) (D1.ok R _ h (gAgg_intro rfl (uncons_intro (gBool_intro rfl (uncons_intro (gSlice_intro rfl (unnil_intro (gAgg_intro rfl (uncons_intro (gBool_intro rfl (uncons_intro (gSlice_intro rfl (unnil_intro (g))))))))))))))
end num_Mod

namespace num_Mul
noncomputable def C : Code := bodyOf Tryd.f36
def D2.t (R : Rt) (q2 : Addr) (q3 : Addr) (q4 : Addr) (h : Hp) : Prop :=
  ldK h (q2.add 1) fun v33 =>
  gSlice v33 fun a_34 l_34 c_34 =>
  ldK h (q3.add 1) fun v35 =>
  gSlice v35 fun a_36 l_36 c_36 =>
  HC natmul_Mul.id #[.slice a_34 l_34 c_34, .slice a_36 l_36 c_36] h fun v37 h38 =>
  gTup v37 fun y39 =>
  uncons y39 fun v40 y40 =>
  gSlice v40 fun a_41 l_41 c_41 =>
  uncons y40 fun v42 y42 =>
  gInt .i64 v42 fun x_43 =>
  unnil y42 <| ldK h38 (q2.add 0) fun v44 =>
  gBool v44 fun b_45 =>
  ldK h38 (q3.add 0) fun v46 =>
  gBool v46 fun b_47 =>
  HC num_told.id #[.bool (!(b_45 == b_47)), .slice a_41 l_41 c_41, .int .i64 x_43] h38 fun v48 h49 =>
  gTup v48 fun y50 =>
  uncons y50 fun v51 y51 =>
  gAgg v51 fun y52 =>
  uncons y52 fun v53 y53 =>
  gBool v53 fun b_54 =>
  uncons y53 fun v55 y55 =>
  gSlice v55 fun a_56 l_56 c_56 =>
  unnil y55 <| uncons y51 fun v57 y57 =>
  gInt .i64 v57 fun x_58 =>
  unnil y57 <| stK h49 (q4.add 0) (.bool b_54) fun h59 =>
  stK h59 (q4.add 1) (.slice a_56 l_56 c_56) fun h60 =>
  ldK h60 (q4.add 0) fun v61 =>
  gBool v61 fun b_62 =>
  ldK h60 (q4.add 1) fun v63 =>
  gSlice v63 fun a_64 l_64 c_64 =>
  R (.tuple #[.agg #[.bool b_62, .slice a_64 l_64 c_64], .int .i64 x_58]) h60
def D2.g (R : Rt) (fr : Fr) (h : Hp) : Prop := gPtrS (fr 2) fun q2 => gPtrS (fr 3) fun q3 => gPtrS (fr 4) fun q4 => D2.t R q2 q3 q4 h
theorem D2.ok (R : Rt) (fr : Fr) (h : Hp) (g : D2.g R fr h) : den prog E (cAt C [true, true]) (retQ E [.cell 4 33, .tmp 5] R) fr h := by
  obtain ⟨q2, e2, g⟩ := gPtrS_elim g
  obtain ⟨q3, e3, g⟩ := gPtrS_elim g
  obtain ⟨q4, e4, g⟩ := gPtrS_elim g
  exact den_enter [(2, .pointer (some q2)), (3, .pointer (some q3)), (4, .pointer (some q4))] ⟨e2, e3, e4, trivial⟩ (by kernel_rfl) g
def D1.t (R : Rt) (b0_0 : Bool) (a0_1 : Option Addr) (l0_1 : Nat) (c0_1 : Nat) (b1_0 : Bool) (a1_1 : Option Addr) (l1_1 : Nat) (c1_1 : Nat) (h : Hp) : Prop :=
  boxK h 33 [.bool b0_0, .slice a0_1 l0_1 c0_1] fun q1 h2 =>
  boxK h2 33 [.bool b1_0, .slice a1_1 l1_1 c1_1] fun q3 h4 =>
  boxK h4 33 T33.zs fun q5 h6 =>
  ldK h6 (q1.add 0) fun v7 =>
  gBool v7 fun b_8 =>
  ldK h6 (q1.add 1) fun v9 =>
  gSlice v9 fun a_10 l_10 c_10 =>
  HC num_Form.id #[.agg #[.bool b_8, .slice a_10 l_10 c_10]] h6 fun v11 h12 =>
  gBool v11 fun b_13 =>
  cond (!b_13) (stK h12 (q5.add 0) (.bool false) fun h14 =>
  stK h14 (q5.add 1) (.slice none 0 0) fun h15 =>
  ldK h15 (q5.add 0) fun v16 =>
  gBool v16 fun b_17 =>
  ldK h15 (q5.add 1) fun v18 =>
  gSlice v18 fun a_19 l_19 c_19 =>
  R (.tuple #[.agg #[.bool b_17, .slice a_19 l_19 c_19], .int .i64 2]) h15) (ldK h12 (q3.add 0) fun v20 =>
  gBool v20 fun b_21 =>
  ldK h12 (q3.add 1) fun v22 =>
  gSlice v22 fun a_23 l_23 c_23 =>
  HC num_Form.id #[.agg #[.bool b_21, .slice a_23 l_23 c_23]] h12 fun v24 h25 =>
  gBool v24 fun b_26 =>
  cond (!b_26) (stK h25 (q5.add 0) (.bool false) fun h27 =>
  stK h27 (q5.add 1) (.slice none 0 0) fun h28 =>
  ldK h28 (q5.add 0) fun v29 =>
  gBool v29 fun b_30 =>
  ldK h28 (q5.add 1) fun v31 =>
  gSlice v31 fun a_32 l_32 c_32 =>
  R (.tuple #[.agg #[.bool b_30, .slice a_32 l_32 c_32], .int .i64 2]) h28) (D2.t R q1 q3 q5 h25))
def D1.g (R : Rt) (fr : Fr) (h : Hp) : Prop := gAgg (fr 0) fun z0 => uncons z0 fun w0_0 z0_0 => gBool w0_0 fun b0_0 => uncons z0_0 fun w0_1 z0_1 => gSlice w0_1 fun a0_1 l0_1 c0_1 => unnil z0_1 <| gAgg (fr 1) fun z1 => uncons z1 fun w1_0 z1_0 => gBool w1_0 fun b1_0 => uncons z1_0 fun w1_1 z1_1 => gSlice w1_1 fun a1_1 l1_1 c1_1 => unnil z1_1 <| D1.t R b0_0 a0_1 l0_1 c0_1 b1_0 a1_1 l1_1 c1_1 h
theorem D1.ok (R : Rt) (fr : Fr) (h : Hp) (g : D1.g R fr h) : den prog E C (retQ E [.cell 4 33, .tmp 5] R) fr h := by
  obtain ⟨z0, e0, g0_0⟩ := gAgg_elim' g
  obtain ⟨w0_0, z0_0, rfl, g0_0x⟩ := uncons_elim g0_0
  obtain ⟨b0_0, rfl, g0_1⟩ := gBool_elim g0_0x
  obtain ⟨w0_1, z0_1, rfl, g0_1x⟩ := uncons_elim g0_1
  obtain ⟨a0_1, l0_1, c0_1, rfl, g0_2⟩ := gSlice_elim g0_1x
  obtain ⟨rfl, g⟩ := unnil_elim g0_2
  obtain ⟨z1, e1, g1_0⟩ := gAgg_elim' g
  obtain ⟨w1_0, z1_0, rfl, g1_0x⟩ := uncons_elim g1_0
  obtain ⟨b1_0, rfl, g1_1⟩ := gBool_elim g1_0x
  obtain ⟨w1_1, z1_1, rfl, g1_1x⟩ := uncons_elim g1_1
  obtain ⟨a1_1, l1_1, c1_1, rfl, g1_2⟩ := gSlice_elim g1_1x
  obtain ⟨rfl, g⟩ := unnil_elim g1_2
  exact den_cut 2 (r := (cAt C [true, true])) (by kernel_rfl) (D2.ok R) (den_enter [(0, .agg #[.bool b0_0, .slice a0_1 l0_1 c0_1]), (1, .agg #[.bool b1_0, .slice a1_1 l1_1 c1_1])] ⟨e0, e1, trivial⟩ (by kernel_rfl) g)
def t (b0_0 : Bool) (a0_1 : Option Addr) (l0_1 : Nat) (c0_1 : Nat) (b1_0 : Bool) (a1_1 : Option Addr) (l1_1 : Nat) (c1_1 : Nat) (h : Hp) (R : Rt) : Prop := D1.t R b0_0 a0_1 l0_1 c0_1 b1_0 a1_1 l1_1 c1_1 h
theorem ok {b0_0 : Bool} {a0_1 : Option Addr} {l0_1 : Nat} {c0_1 : Nat} {b1_0 : Bool} {a1_1 : Option Addr} {l1_1 : Nat} {c1_1 : Nat} {h : Hp} {R : Rt} (g : t b0_0 a0_1 l0_1 c0_1 b1_0 a1_1 l1_1 c1_1 h R) : HC id #[.agg #[.bool b0_0, .slice a0_1 l0_1 c0_1], .agg #[.bool b1_0, .slice a1_1 l1_1 c1_1]] h R :=
  calls_of_den' envOk (c := C) (rs := [.cell 4 33, .tmp 5]) Tryd.func36 (by kernel_rfl) (by kernel_rfl) (by kernel_rfl) (args := [.agg #[.bool b0_0, .slice a0_1 l0_1 c0_1], .agg #[.bool b1_0, .slice a1_1 l1_1 c1_1]]) (by kernel_rfl) (D1.ok R _ h (gAgg_intro rfl (uncons_intro (gBool_intro rfl (uncons_intro (gSlice_intro rfl (unnil_intro (gAgg_intro rfl (uncons_intro (gBool_intro rfl (uncons_intro (gSlice_intro rfl (unnil_intro (g))))))))))))))
end num_Mul

namespace num_Add
noncomputable def C : Code := bodyOf Tryd.f37
def D3.t (R : Rt) (q2 : Addr) (q3 : Addr) (q4 : Addr) (h : Hp) : Prop :=
  ldK h (q2.add 1) fun v86 =>
  gSlice v86 fun a_87 l_87 c_87 =>
  ldK h (q3.add 1) fun v88 =>
  gSlice v88 fun a_89 l_89 c_89 =>
  HC nat_Sub.id #[.slice a_87 l_87 c_87, .slice a_89 l_89 c_89] h fun v90 h91 =>
  gTup v90 fun y92 =>
  uncons y92 fun v93 y93 =>
  gSlice v93 fun a_94 l_94 c_94 =>
  uncons y93 fun v95 y95 =>
  gInt .i64 v95 fun x_96 =>
  unnil y95 <| ldK h91 (q2.add 0) fun v97 =>
  gBool v97 fun b_98 =>
  HC num_told.id #[.bool b_98, .slice a_94 l_94 c_94, .int .i64 x_96] h91 fun v99 h100 =>
  gTup v99 fun y101 =>
  uncons y101 fun v102 y102 =>
  gAgg v102 fun y103 =>
  uncons y103 fun v104 y104 =>
  gBool v104 fun b_105 =>
  uncons y104 fun v106 y106 =>
  gSlice v106 fun a_107 l_107 c_107 =>
  unnil y106 <| uncons y102 fun v108 y108 =>
  gInt .i64 v108 fun x_109 =>
  unnil y108 <| stK h100 (q4.add 0) (.bool b_105) fun h110 =>
  stK h110 (q4.add 1) (.slice a_107 l_107 c_107) fun h111 =>
  ldK h111 (q4.add 0) fun v112 =>
  gBool v112 fun b_113 =>
  ldK h111 (q4.add 1) fun v114 =>
  gSlice v114 fun a_115 l_115 c_115 =>
  R (.tuple #[.agg #[.bool b_113, .slice a_115 l_115 c_115], .int .i64 x_109]) h111
def D3.g (R : Rt) (fr : Fr) (h : Hp) : Prop := gPtrS (fr 2) fun q2 => gPtrS (fr 3) fun q3 => gPtrS (fr 4) fun q4 => D3.t R q2 q3 q4 h
theorem D3.ok (R : Rt) (fr : Fr) (h : Hp) (g : D3.g R fr h) : den prog E (cAt C [true, true, true, true]) (retQ E [.cell 4 33, .tmp 5] R) fr h := by
  obtain ⟨q2, e2, g⟩ := gPtrS_elim g
  obtain ⟨q3, e3, g⟩ := gPtrS_elim g
  obtain ⟨q4, e4, g⟩ := gPtrS_elim g
  exact den_enter [(2, .pointer (some q2)), (3, .pointer (some q3)), (4, .pointer (some q4))] ⟨e2, e3, e4, trivial⟩ (by kernel_rfl) g
def D2.t (R : Rt) (q2 : Addr) (q3 : Addr) (q4 : Addr) (h : Hp) : Prop :=
  ldK h (q2.add 0) fun v33 =>
  gBool v33 fun b_34 =>
  ldK h (q3.add 0) fun v35 =>
  gBool v35 fun b_36 =>
  cond (b_34 == b_36) (ldK h (q2.add 1) fun v37 =>
  gSlice v37 fun a_38 l_38 c_38 =>
  ldK h (q3.add 1) fun v39 =>
  gSlice v39 fun a_40 l_40 c_40 =>
  HC nat_Add.id #[.slice a_38 l_38 c_38, .slice a_40 l_40 c_40] h fun v41 h42 =>
  gTup v41 fun y43 =>
  uncons y43 fun v44 y44 =>
  gSlice v44 fun a_45 l_45 c_45 =>
  uncons y44 fun v46 y46 =>
  gInt .i64 v46 fun x_47 =>
  unnil y46 <| ldK h42 (q2.add 0) fun v48 =>
  gBool v48 fun b_49 =>
  HC num_told.id #[.bool b_49, .slice a_45 l_45 c_45, .int .i64 x_47] h42 fun v50 h51 =>
  gTup v50 fun y52 =>
  uncons y52 fun v53 y53 =>
  gAgg v53 fun y54 =>
  uncons y54 fun v55 y55 =>
  gBool v55 fun b_56 =>
  uncons y55 fun v57 y57 =>
  gSlice v57 fun a_58 l_58 c_58 =>
  unnil y57 <| uncons y53 fun v59 y59 =>
  gInt .i64 v59 fun x_60 =>
  unnil y59 <| stK h51 (q4.add 0) (.bool b_56) fun h61 =>
  stK h61 (q4.add 1) (.slice a_58 l_58 c_58) fun h62 =>
  ldK h62 (q4.add 0) fun v63 =>
  gBool v63 fun b_64 =>
  ldK h62 (q4.add 1) fun v65 =>
  gSlice v65 fun a_66 l_66 c_66 =>
  R (.tuple #[.agg #[.bool b_64, .slice a_66 l_66 c_66], .int .i64 x_60]) h62) (ldK h (q2.add 1) fun v67 =>
  gSlice v67 fun a_68 l_68 c_68 =>
  ldK h (q3.add 1) fun v69 =>
  gSlice v69 fun a_70 l_70 c_70 =>
  HC nat_Cmp.id #[.slice a_68 l_68 c_68, .slice a_70 l_70 c_70] h fun v71 h72 =>
  gInt .i64 v71 fun x_73 =>
  cond (decide (x_73 < 0)) (ldK h72 (q3.add 0) fun v74 =>
  gBool v74 fun b_75 =>
  ldK h72 (q3.add 1) fun v76 =>
  gSlice v76 fun a_77 l_77 c_77 =>
  ldK h72 (q2.add 0) fun v78 =>
  gBool v78 fun b_79 =>
  ldK h72 (q2.add 1) fun v80 =>
  gSlice v80 fun a_81 l_81 c_81 =>
  stK h72 (q2.add 0) (.bool b_75) fun h82 =>
  stK h82 (q2.add 1) (.slice a_77 l_77 c_77) fun h83 =>
  stK h83 (q3.add 0) (.bool b_79) fun h84 =>
  stK h84 (q3.add 1) (.slice a_81 l_81 c_81) fun h85 =>
  D3.t R q2 q3 q4 h85) (D3.t R q2 q3 q4 h72))
def D2.g (R : Rt) (fr : Fr) (h : Hp) : Prop := gPtrS (fr 2) fun q2 => gPtrS (fr 3) fun q3 => gPtrS (fr 4) fun q4 => D2.t R q2 q3 q4 h
theorem D2.ok (R : Rt) (fr : Fr) (h : Hp) (g : D2.g R fr h) : den prog E (cAt C [true, true]) (retQ E [.cell 4 33, .tmp 5] R) fr h := by
  obtain ⟨q2, e2, g⟩ := gPtrS_elim g
  obtain ⟨q3, e3, g⟩ := gPtrS_elim g
  obtain ⟨q4, e4, g⟩ := gPtrS_elim g
  exact den_cut 2 (r := (cAt C [true, true, true, true])) (by kernel_rfl) (D3.ok R) (den_enter [(2, .pointer (some q2)), (3, .pointer (some q3)), (4, .pointer (some q4))] ⟨e2, e3, e4, trivial⟩ (by kernel_rfl) g)
def D1.t (R : Rt) (b0_0 : Bool) (a0_1 : Option Addr) (l0_1 : Nat) (c0_1 : Nat) (b1_0 : Bool) (a1_1 : Option Addr) (l1_1 : Nat) (c1_1 : Nat) (h : Hp) : Prop :=
  boxK h 33 [.bool b0_0, .slice a0_1 l0_1 c0_1] fun q1 h2 =>
  boxK h2 33 [.bool b1_0, .slice a1_1 l1_1 c1_1] fun q3 h4 =>
  boxK h4 33 T33.zs fun q5 h6 =>
  ldK h6 (q1.add 0) fun v7 =>
  gBool v7 fun b_8 =>
  ldK h6 (q1.add 1) fun v9 =>
  gSlice v9 fun a_10 l_10 c_10 =>
  HC num_Form.id #[.agg #[.bool b_8, .slice a_10 l_10 c_10]] h6 fun v11 h12 =>
  gBool v11 fun b_13 =>
  cond (!b_13) (stK h12 (q5.add 0) (.bool false) fun h14 =>
  stK h14 (q5.add 1) (.slice none 0 0) fun h15 =>
  ldK h15 (q5.add 0) fun v16 =>
  gBool v16 fun b_17 =>
  ldK h15 (q5.add 1) fun v18 =>
  gSlice v18 fun a_19 l_19 c_19 =>
  R (.tuple #[.agg #[.bool b_17, .slice a_19 l_19 c_19], .int .i64 2]) h15) (ldK h12 (q3.add 0) fun v20 =>
  gBool v20 fun b_21 =>
  ldK h12 (q3.add 1) fun v22 =>
  gSlice v22 fun a_23 l_23 c_23 =>
  HC num_Form.id #[.agg #[.bool b_21, .slice a_23 l_23 c_23]] h12 fun v24 h25 =>
  gBool v24 fun b_26 =>
  cond (!b_26) (stK h25 (q5.add 0) (.bool false) fun h27 =>
  stK h27 (q5.add 1) (.slice none 0 0) fun h28 =>
  ldK h28 (q5.add 0) fun v29 =>
  gBool v29 fun b_30 =>
  ldK h28 (q5.add 1) fun v31 =>
  gSlice v31 fun a_32 l_32 c_32 =>
  R (.tuple #[.agg #[.bool b_30, .slice a_32 l_32 c_32], .int .i64 2]) h28) (D2.t R q1 q3 q5 h25))
def D1.g (R : Rt) (fr : Fr) (h : Hp) : Prop := gAgg (fr 0) fun z0 => uncons z0 fun w0_0 z0_0 => gBool w0_0 fun b0_0 => uncons z0_0 fun w0_1 z0_1 => gSlice w0_1 fun a0_1 l0_1 c0_1 => unnil z0_1 <| gAgg (fr 1) fun z1 => uncons z1 fun w1_0 z1_0 => gBool w1_0 fun b1_0 => uncons z1_0 fun w1_1 z1_1 => gSlice w1_1 fun a1_1 l1_1 c1_1 => unnil z1_1 <| D1.t R b0_0 a0_1 l0_1 c0_1 b1_0 a1_1 l1_1 c1_1 h
theorem D1.ok (R : Rt) (fr : Fr) (h : Hp) (g : D1.g R fr h) : den prog E C (retQ E [.cell 4 33, .tmp 5] R) fr h := by
  obtain ⟨z0, e0, g0_0⟩ := gAgg_elim' g
  obtain ⟨w0_0, z0_0, rfl, g0_0x⟩ := uncons_elim g0_0
  obtain ⟨b0_0, rfl, g0_1⟩ := gBool_elim g0_0x
  obtain ⟨w0_1, z0_1, rfl, g0_1x⟩ := uncons_elim g0_1
  obtain ⟨a0_1, l0_1, c0_1, rfl, g0_2⟩ := gSlice_elim g0_1x
  obtain ⟨rfl, g⟩ := unnil_elim g0_2
  obtain ⟨z1, e1, g1_0⟩ := gAgg_elim' g
  obtain ⟨w1_0, z1_0, rfl, g1_0x⟩ := uncons_elim g1_0
  obtain ⟨b1_0, rfl, g1_1⟩ := gBool_elim g1_0x
  obtain ⟨w1_1, z1_1, rfl, g1_1x⟩ := uncons_elim g1_1
  obtain ⟨a1_1, l1_1, c1_1, rfl, g1_2⟩ := gSlice_elim g1_1x
  obtain ⟨rfl, g⟩ := unnil_elim g1_2
  exact den_cut 2 (r := (cAt C [true, true])) (by kernel_rfl) (D2.ok R) (den_enter [(0, .agg #[.bool b0_0, .slice a0_1 l0_1 c0_1]), (1, .agg #[.bool b1_0, .slice a1_1 l1_1 c1_1])] ⟨e0, e1, trivial⟩ (by kernel_rfl) g)
def t (b0_0 : Bool) (a0_1 : Option Addr) (l0_1 : Nat) (c0_1 : Nat) (b1_0 : Bool) (a1_1 : Option Addr) (l1_1 : Nat) (c1_1 : Nat) (h : Hp) (R : Rt) : Prop := D1.t R b0_0 a0_1 l0_1 c0_1 b1_0 a1_1 l1_1 c1_1 h
theorem ok {b0_0 : Bool} {a0_1 : Option Addr} {l0_1 : Nat} {c0_1 : Nat} {b1_0 : Bool} {a1_1 : Option Addr} {l1_1 : Nat} {c1_1 : Nat} {h : Hp} {R : Rt} (g : t b0_0 a0_1 l0_1 c0_1 b1_0 a1_1 l1_1 c1_1 h R) : HC id #[.agg #[.bool b0_0, .slice a0_1 l0_1 c0_1], .agg #[.bool b1_0, .slice a1_1 l1_1 c1_1]] h R :=
  calls_of_den' envOk (c := C) (rs := [.cell 4 33, .tmp 5]) Tryd.func37 (by kernel_rfl) (by kernel_rfl) (by kernel_rfl) (args := [.agg #[.bool b0_0, .slice a0_1 l0_1 c0_1], .agg #[.bool b1_0, .slice a1_1 l1_1 c1_1]]) (by kernel_rfl) (D1.ok R _ h (gAgg_intro rfl (uncons_intro (gBool_intro rfl (uncons_intro (gSlice_intro rfl (unnil_intro (gAgg_intro rfl (uncons_intro (gBool_intro rfl (uncons_intro (gSlice_intro rfl (unnil_intro (g))))))))))))))
end num_Add

namespace gnomontop_sameInt
noncomputable def C : Code := bodyOf Tryd.f38
def D1.t (R : Rt) (b0_0 : Bool) (a0_1 : Option Addr) (l0_1 : Nat) (c0_1 : Nat) (b1_0 : Bool) (a1_1 : Option Addr) (l1_1 : Nat) (c1_1 : Nat) (h : Hp) : Prop :=
  boxK h 33 [.bool b0_0, .slice a0_1 l0_1 c0_1] fun q1 h2 =>
  boxK h2 33 [.bool b1_0, .slice a1_1 l1_1 c1_1] fun q3 h4 =>
  ldK h4 (q1.add 0) fun v5 =>
  gBool v5 fun b_6 =>
  ldK h4 (q3.add 0) fun v7 =>
  gBool v7 fun b_8 =>
  cond (b_6 == b_8) (ldK h4 (q1.add 1) fun v9 =>
  gSlice v9 fun a_10 l_10 c_10 =>
  ldK h4 (q3.add 1) fun v11 =>
  gSlice v11 fun a_12 l_12 c_12 =>
  HC gnomontop_same.id #[.slice a_10 l_10 c_10, .slice a_12 l_12 c_12] h4 fun v13 h14 =>
  gBool v13 fun b_15 =>
  R (.bool b_15) h14) (R (.bool false) h4)
def D1.g (R : Rt) (fr : Fr) (h : Hp) : Prop := gAgg (fr 0) fun z0 => uncons z0 fun w0_0 z0_0 => gBool w0_0 fun b0_0 => uncons z0_0 fun w0_1 z0_1 => gSlice w0_1 fun a0_1 l0_1 c0_1 => unnil z0_1 <| gAgg (fr 1) fun z1 => uncons z1 fun w1_0 z1_0 => gBool w1_0 fun b1_0 => uncons z1_0 fun w1_1 z1_1 => gSlice w1_1 fun a1_1 l1_1 c1_1 => unnil z1_1 <| D1.t R b0_0 a0_1 l0_1 c0_1 b1_0 a1_1 l1_1 c1_1 h
theorem D1.ok (R : Rt) (fr : Fr) (h : Hp) (g : D1.g R fr h) : den prog E C (retQ E [.tmp 4] R) fr h := by
  obtain ⟨z0, e0, g0_0⟩ := gAgg_elim' g
  obtain ⟨w0_0, z0_0, rfl, g0_0x⟩ := uncons_elim g0_0
  obtain ⟨b0_0, rfl, g0_1⟩ := gBool_elim g0_0x
  obtain ⟨w0_1, z0_1, rfl, g0_1x⟩ := uncons_elim g0_1
  obtain ⟨a0_1, l0_1, c0_1, rfl, g0_2⟩ := gSlice_elim g0_1x
  obtain ⟨rfl, g⟩ := unnil_elim g0_2
  obtain ⟨z1, e1, g1_0⟩ := gAgg_elim' g
  obtain ⟨w1_0, z1_0, rfl, g1_0x⟩ := uncons_elim g1_0
  obtain ⟨b1_0, rfl, g1_1⟩ := gBool_elim g1_0x
  obtain ⟨w1_1, z1_1, rfl, g1_1x⟩ := uncons_elim g1_1
  obtain ⟨a1_1, l1_1, c1_1, rfl, g1_2⟩ := gSlice_elim g1_1x
  obtain ⟨rfl, g⟩ := unnil_elim g1_2
  exact den_enter [(0, .agg #[.bool b0_0, .slice a0_1 l0_1 c0_1]), (1, .agg #[.bool b1_0, .slice a1_1 l1_1 c1_1])] ⟨e0, e1, trivial⟩ (by kernel_rfl) g
def t (b0_0 : Bool) (a0_1 : Option Addr) (l0_1 : Nat) (c0_1 : Nat) (b1_0 : Bool) (a1_1 : Option Addr) (l1_1 : Nat) (c1_1 : Nat) (h : Hp) (R : Rt) : Prop := D1.t R b0_0 a0_1 l0_1 c0_1 b1_0 a1_1 l1_1 c1_1 h
theorem ok {b0_0 : Bool} {a0_1 : Option Addr} {l0_1 : Nat} {c0_1 : Nat} {b1_0 : Bool} {a1_1 : Option Addr} {l1_1 : Nat} {c1_1 : Nat} {h : Hp} {R : Rt} (g : t b0_0 a0_1 l0_1 c0_1 b1_0 a1_1 l1_1 c1_1 h R) : HC id #[.agg #[.bool b0_0, .slice a0_1 l0_1 c0_1], .agg #[.bool b1_0, .slice a1_1 l1_1 c1_1]] h R :=
  calls_of_den' envOk (c := C) (rs := [.tmp 4]) Tryd.func38 (by kernel_rfl) (by kernel_rfl) (by kernel_rfl) (args := [.agg #[.bool b0_0, .slice a0_1 l0_1 c0_1], .agg #[.bool b1_0, .slice a1_1 l1_1 c1_1]]) (by kernel_rfl) (D1.ok R _ h (gAgg_intro rfl (uncons_intro (gBool_intro rfl (uncons_intro (gSlice_intro rfl (unnil_intro (gAgg_intro rfl (uncons_intro (gBool_intro rfl (uncons_intro (gSlice_intro rfl (unnil_intro (g))))))))))))))
end gnomontop_sameInt

namespace num_Of
noncomputable def C : Code := bodyOf Tryd.f39
def D1.t (R : Rt) (x0 : Int) (h : Hp) : Prop :=
  boxK h 33 T33.zs fun q1 h2 =>
  cond (decide (x0 < 0)) (letK (IntKind.u64.wrap x0) fun n3 =>
  letK (IntKind.u64.wrap (0 - n3)) fun n4 =>
  HC nat_Word.id #[.int .u64 n4] h2 fun v5 h6 =>
  gSlice v5 fun a_7 l_7 c_7 =>
  HC num_whole.id #[.bool true, .slice a_7 l_7 c_7] h6 fun v8 h9 =>
  gAgg v8 fun y10 =>
  uncons y10 fun v11 y11 =>
  gBool v11 fun b_12 =>
  uncons y11 fun v13 y13 =>
  gSlice v13 fun a_14 l_14 c_14 =>
  unnil y13 <| stK h9 (q1.add 0) (.bool b_12) fun h15 =>
  stK h15 (q1.add 1) (.slice a_14 l_14 c_14) fun h16 =>
  ldK h16 (q1.add 0) fun v17 =>
  gBool v17 fun b_18 =>
  ldK h16 (q1.add 1) fun v19 =>
  gSlice v19 fun a_20 l_20 c_20 =>
  R (.agg #[.bool b_18, .slice a_20 l_20 c_20]) h16) (letK (IntKind.u64.wrap x0) fun n21 =>
  HC nat_Word.id #[.int .u64 n21] h2 fun v22 h23 =>
  gSlice v22 fun a_24 l_24 c_24 =>
  HC num_whole.id #[.bool false, .slice a_24 l_24 c_24] h23 fun v25 h26 =>
  gAgg v25 fun y27 =>
  uncons y27 fun v28 y28 =>
  gBool v28 fun b_29 =>
  uncons y28 fun v30 y30 =>
  gSlice v30 fun a_31 l_31 c_31 =>
  unnil y30 <| stK h26 (q1.add 0) (.bool b_29) fun h32 =>
  stK h32 (q1.add 1) (.slice a_31 l_31 c_31) fun h33 =>
  ldK h33 (q1.add 0) fun v34 =>
  gBool v34 fun b_35 =>
  ldK h33 (q1.add 1) fun v36 =>
  gSlice v36 fun a_37 l_37 c_37 =>
  R (.agg #[.bool b_35, .slice a_37 l_37 c_37]) h33)
def D1.g (R : Rt) (fr : Fr) (h : Hp) : Prop := gInt .i64 (fr 0) fun x0 => D1.t R x0 h
theorem D1.ok (R : Rt) (fr : Fr) (h : Hp) (g : D1.g R fr h) : den prog E C (retQ E [.cell 2 33] R) fr h := by
  obtain ⟨x0, e0, g⟩ := gInt_elim g
  exact den_enter [(0, .int .i64 x0)] ⟨e0, trivial⟩ (by kernel_rfl) g
def t (x0 : Int) (h : Hp) (R : Rt) : Prop := D1.t R x0 h
theorem ok {x0 : Int} {h : Hp} {R : Rt} (g : t x0 h R) : HC id #[.int .i64 x0] h R :=
  calls_of_den' envOk (c := C) (rs := [.cell 2 33]) Tryd.func39 (by kernel_rfl) (by kernel_rfl) (by kernel_rfl) (args := [.int .i64 x0]) (by kernel_rfl) (D1.ok R _ h (gInt_intro rfl (g)))
end num_Of

namespace num_Shl
noncomputable def C : Code := bodyOf Tryd.f40
def D1.t (R : Rt) (b0_0 : Bool) (a0_1 : Option Addr) (l0_1 : Nat) (c0_1 : Nat) (x1 : Int) (h : Hp) : Prop :=
  boxK h 33 [.bool b0_0, .slice a0_1 l0_1 c0_1] fun q1 h2 =>
  boxK h2 33 T33.zs fun q3 h4 =>
  cond (decide (x1 < 0)) (stK h4 (q3.add 0) (.bool false) fun h5 =>
  stK h5 (q3.add 1) (.slice none 0 0) fun h6 =>
  ldK h6 (q3.add 0) fun v7 =>
  gBool v7 fun b_8 =>
  ldK h6 (q3.add 1) fun v9 =>
  gSlice v9 fun a_10 l_10 c_10 =>
  R (.tuple #[.agg #[.bool b_8, .slice a_10 l_10 c_10], .int .i64 1]) h6) (ldK h4 (q1.add 0) fun v11 =>
  gBool v11 fun b_12 =>
  ldK h4 (q1.add 1) fun v13 =>
  gSlice v13 fun a_14 l_14 c_14 =>
  HC num_Form.id #[.agg #[.bool b_12, .slice a_14 l_14 c_14]] h4 fun v15 h16 =>
  gBool v15 fun b_17 =>
  cond (!b_17) (stK h16 (q3.add 0) (.bool false) fun h18 =>
  stK h18 (q3.add 1) (.slice none 0 0) fun h19 =>
  ldK h19 (q3.add 0) fun v20 =>
  gBool v20 fun b_21 =>
  ldK h19 (q3.add 1) fun v22 =>
  gSlice v22 fun a_23 l_23 c_23 =>
  R (.tuple #[.agg #[.bool b_21, .slice a_23 l_23 c_23], .int .i64 2]) h19) (ldK h16 (q1.add 1) fun v24 =>
  gSlice v24 fun a_25 l_25 c_25 =>
  HC nat_Shl.id #[.slice a_25 l_25 c_25, .int .i64 x1] h16 fun v26 h27 =>
  gTup v26 fun y28 =>
  uncons y28 fun v29 y29 =>
  gSlice v29 fun a_30 l_30 c_30 =>
  uncons y29 fun v31 y31 =>
  gInt .i64 v31 fun x_32 =>
  unnil y31 <| ldK h27 (q1.add 0) fun v33 =>
  gBool v33 fun b_34 =>
  HC num_told.id #[.bool b_34, .slice a_30 l_30 c_30, .int .i64 x_32] h27 fun v35 h36 =>
  gTup v35 fun y37 =>
  uncons y37 fun v38 y38 =>
  gAgg v38 fun y39 =>
  uncons y39 fun v40 y40 =>
  gBool v40 fun b_41 =>
  uncons y40 fun v42 y42 =>
  gSlice v42 fun a_43 l_43 c_43 =>
  unnil y42 <| uncons y38 fun v44 y44 =>
  gInt .i64 v44 fun x_45 =>
  unnil y44 <| stK h36 (q3.add 0) (.bool b_41) fun h46 =>
  stK h46 (q3.add 1) (.slice a_43 l_43 c_43) fun h47 =>
  ldK h47 (q3.add 0) fun v48 =>
  gBool v48 fun b_49 =>
  ldK h47 (q3.add 1) fun v50 =>
  gSlice v50 fun a_51 l_51 c_51 =>
  R (.tuple #[.agg #[.bool b_49, .slice a_51 l_51 c_51], .int .i64 x_45]) h47))
def D1.g (R : Rt) (fr : Fr) (h : Hp) : Prop := gAgg (fr 0) fun z0 => uncons z0 fun w0_0 z0_0 => gBool w0_0 fun b0_0 => uncons z0_0 fun w0_1 z0_1 => gSlice w0_1 fun a0_1 l0_1 c0_1 => unnil z0_1 <| gInt .i64 (fr 1) fun x1 => D1.t R b0_0 a0_1 l0_1 c0_1 x1 h
theorem D1.ok (R : Rt) (fr : Fr) (h : Hp) (g : D1.g R fr h) : den prog E C (retQ E [.cell 4 33, .tmp 5] R) fr h := by
  obtain ⟨z0, e0, g0_0⟩ := gAgg_elim' g
  obtain ⟨w0_0, z0_0, rfl, g0_0x⟩ := uncons_elim g0_0
  obtain ⟨b0_0, rfl, g0_1⟩ := gBool_elim g0_0x
  obtain ⟨w0_1, z0_1, rfl, g0_1x⟩ := uncons_elim g0_1
  obtain ⟨a0_1, l0_1, c0_1, rfl, g0_2⟩ := gSlice_elim g0_1x
  obtain ⟨rfl, g⟩ := unnil_elim g0_2
  obtain ⟨x1, e1, g⟩ := gInt_elim g
  exact den_enter [(0, .agg #[.bool b0_0, .slice a0_1 l0_1 c0_1]), (1, .int .i64 x1)] ⟨e0, e1, trivial⟩ (by kernel_rfl) g
def t (b0_0 : Bool) (a0_1 : Option Addr) (l0_1 : Nat) (c0_1 : Nat) (x1 : Int) (h : Hp) (R : Rt) : Prop := D1.t R b0_0 a0_1 l0_1 c0_1 x1 h
theorem ok {b0_0 : Bool} {a0_1 : Option Addr} {l0_1 : Nat} {c0_1 : Nat} {x1 : Int} {h : Hp} {R : Rt} (g : t b0_0 a0_1 l0_1 c0_1 x1 h R) : HC id #[.agg #[.bool b0_0, .slice a0_1 l0_1 c0_1], .int .i64 x1] h R :=
  calls_of_den' envOk (c := C) (rs := [.cell 4 33, .tmp 5]) Tryd.func40 (by kernel_rfl) (by kernel_rfl) (by kernel_rfl) (args := [.agg #[.bool b0_0, .slice a0_1 l0_1 c0_1], .int .i64 x1]) (by kernel_rfl) (D1.ok R _ h (gAgg_intro rfl (uncons_intro (gBool_intro rfl (uncons_intro (gSlice_intro rfl (unnil_intro (gInt_intro rfl (g)))))))))
end num_Shl

namespace nat_Bit
noncomputable def C : Code := bodyOf Tryd.f41
def D2.t (R : Rt) (a0 : Option Addr) (l0 : Nat) (c0 : Nat) (x1 : Int) (h : Hp) : Prop :=
  (64 : Int) ≠ 0 ∧ letK (IntKind.i64.wrap (Int.tdiv x1 64)) fun n2 =>
  idxK a0 l0 n2 1 fun q3 =>
  ldK h q3 fun v4 =>
  gInt .u64 v4 fun x_5 =>
  (64 : Int) ≠ 0 ∧ letK (Int.tmod x1 64) fun n6 =>
  0 ≤ n6 ∧ letK (shrI .u64 x_5 n6) fun n7 =>
  letK (andI .u64 n7 1) fun n8 =>
  R (.bool (n8 == 1)) h
def D2.g (R : Rt) (fr : Fr) (h : Hp) : Prop := gSlice (fr 0) fun a0 l0 c0 => gInt .i64 (fr 1) fun x1 => D2.t R a0 l0 c0 x1 h
theorem D2.ok (R : Rt) (fr : Fr) (h : Hp) (g : D2.g R fr h) : den prog E (cAt C [true, true]) (retQ E [.tmp 4] R) fr h := by
  obtain ⟨a0, l0, c0, e0, g⟩ := gSlice_elim g
  obtain ⟨x1, e1, g⟩ := gInt_elim g
  exact den_enter [(0, .slice a0 l0 c0), (1, .int .i64 x1)] ⟨e0, e1, trivial⟩ (by kernel_rfl) g
def D1.t (R : Rt) (a0 : Option Addr) (l0 : Nat) (c0 : Nat) (x1 : Int) (h : Hp) : Prop :=
  cond (decide (x1 < 0)) (R (.bool false) h) ((64 : Int) ≠ 0 ∧ letK (IntKind.i64.wrap (Int.tdiv x1 64)) fun n1 =>
  cond (decide (n1 ≥ (((l0 : Nat) : Int)))) (R (.bool false) h) (D2.t R a0 l0 c0 x1 h))
def D1.g (R : Rt) (fr : Fr) (h : Hp) : Prop := gSlice (fr 0) fun a0 l0 c0 => gInt .i64 (fr 1) fun x1 => D1.t R a0 l0 c0 x1 h
theorem D1.ok (R : Rt) (fr : Fr) (h : Hp) (g : D1.g R fr h) : den prog E C (retQ E [.tmp 4] R) fr h := by
  obtain ⟨a0, l0, c0, e0, g⟩ := gSlice_elim g
  obtain ⟨x1, e1, g⟩ := gInt_elim g
  exact den_cut 2 (r := (cAt C [true, true])) (by kernel_rfl) (D2.ok R) (den_enter [(0, .slice a0 l0 c0), (1, .int .i64 x1)] ⟨e0, e1, trivial⟩ (by kernel_rfl) g)
def t (a0 : Option Addr) (l0 : Nat) (c0 : Nat) (x1 : Int) (h : Hp) (R : Rt) : Prop := D1.t R a0 l0 c0 x1 h
theorem ok {a0 : Option Addr} {l0 : Nat} {c0 : Nat} {x1 : Int} {h : Hp} {R : Rt} (g : t a0 l0 c0 x1 h R) : HC id #[.slice a0 l0 c0, .int .i64 x1] h R :=
  calls_of_den' envOk (c := C) (rs := [.tmp 4]) Tryd.func41 (by kernel_rfl) (by kernel_rfl) (by kernel_rfl) (args := [.slice a0 l0 c0, .int .i64 x1]) (by kernel_rfl) (D1.ok R _ h (gSlice_intro rfl (gInt_intro rfl (g))))
end nat_Bit

namespace num_FloorShr
noncomputable def C : Code := bodyOf Tryd.f42
def D1.t (R : Rt) (b0_0 : Bool) (a0_1 : Option Addr) (l0_1 : Nat) (c0_1 : Nat) (x1 : Int) (h : Hp) : Prop :=
  boxK h 33 [.bool b0_0, .slice a0_1 l0_1 c0_1] fun q1 h2 =>
  boxK h2 33 T33.zs fun q3 h4 =>
  ldK h4 (q1.add 0) fun v5 =>
  gBool v5 fun b_6 =>
  ldK h4 (q1.add 1) fun v7 =>
  gSlice v7 fun a_8 l_8 c_8 =>
  HC num_way_shr.id #[.int .i64 0, .agg #[.bool b_6, .slice a_8 l_8 c_8], .int .i64 x1] h4 fun v9 h10 =>
  gTup v9 fun y11 =>
  uncons y11 fun v12 y12 =>
  gAgg v12 fun y13 =>
  uncons y13 fun v14 y14 =>
  gBool v14 fun b_15 =>
  uncons y14 fun v16 y16 =>
  gSlice v16 fun a_17 l_17 c_17 =>
  unnil y16 <| uncons y12 fun v18 y18 =>
  gInt .i64 v18 fun x_19 =>
  unnil y18 <| stK h10 (q3.add 0) (.bool b_15) fun h20 =>
  stK h20 (q3.add 1) (.slice a_17 l_17 c_17) fun h21 =>
  ldK h21 (q3.add 0) fun v22 =>
  gBool v22 fun b_23 =>
  ldK h21 (q3.add 1) fun v24 =>
  gSlice v24 fun a_25 l_25 c_25 =>
  R (.tuple #[.agg #[.bool b_23, .slice a_25 l_25 c_25], .int .i64 x_19]) h21
def D1.g (R : Rt) (fr : Fr) (h : Hp) : Prop := gAgg (fr 0) fun z0 => uncons z0 fun w0_0 z0_0 => gBool w0_0 fun b0_0 => uncons z0_0 fun w0_1 z0_1 => gSlice w0_1 fun a0_1 l0_1 c0_1 => unnil z0_1 <| gInt .i64 (fr 1) fun x1 => D1.t R b0_0 a0_1 l0_1 c0_1 x1 h
theorem D1.ok (R : Rt) (fr : Fr) (h : Hp) (g : D1.g R fr h) : den prog E C (retQ E [.cell 4 33, .tmp 5] R) fr h := by
  obtain ⟨z0, e0, g0_0⟩ := gAgg_elim' g
  obtain ⟨w0_0, z0_0, rfl, g0_0x⟩ := uncons_elim g0_0
  obtain ⟨b0_0, rfl, g0_1⟩ := gBool_elim g0_0x
  obtain ⟨w0_1, z0_1, rfl, g0_1x⟩ := uncons_elim g0_1
  obtain ⟨a0_1, l0_1, c0_1, rfl, g0_2⟩ := gSlice_elim g0_1x
  obtain ⟨rfl, g⟩ := unnil_elim g0_2
  obtain ⟨x1, e1, g⟩ := gInt_elim g
  exact den_enter [(0, .agg #[.bool b0_0, .slice a0_1 l0_1 c0_1]), (1, .int .i64 x1)] ⟨e0, e1, trivial⟩ (by kernel_rfl) g
def t (b0_0 : Bool) (a0_1 : Option Addr) (l0_1 : Nat) (c0_1 : Nat) (x1 : Int) (h : Hp) (R : Rt) : Prop := D1.t R b0_0 a0_1 l0_1 c0_1 x1 h
theorem ok {b0_0 : Bool} {a0_1 : Option Addr} {l0_1 : Nat} {c0_1 : Nat} {x1 : Int} {h : Hp} {R : Rt} (g : t b0_0 a0_1 l0_1 c0_1 x1 h R) : HC id #[.agg #[.bool b0_0, .slice a0_1 l0_1 c0_1], .int .i64 x1] h R :=
  calls_of_den' envOk (c := C) (rs := [.cell 4 33, .tmp 5]) Tryd.func42 (by kernel_rfl) (by kernel_rfl) (by kernel_rfl) (args := [.agg #[.bool b0_0, .slice a0_1 l0_1 c0_1], .int .i64 x1]) (by kernel_rfl) (D1.ok R _ h (gAgg_intro rfl (uncons_intro (gBool_intro rfl (uncons_intro (gSlice_intro rfl (unnil_intro (gInt_intro rfl (g)))))))))
end num_FloorShr

namespace num_CeilShr
noncomputable def C : Code := bodyOf Tryd.f43
def D1.t (R : Rt) (b0_0 : Bool) (a0_1 : Option Addr) (l0_1 : Nat) (c0_1 : Nat) (x1 : Int) (h : Hp) : Prop :=
  boxK h 33 [.bool b0_0, .slice a0_1 l0_1 c0_1] fun q1 h2 =>
  boxK h2 33 T33.zs fun q3 h4 =>
  ldK h4 (q1.add 0) fun v5 =>
  gBool v5 fun b_6 =>
  ldK h4 (q1.add 1) fun v7 =>
  gSlice v7 fun a_8 l_8 c_8 =>
  HC num_way_shr.id #[.int .i64 1, .agg #[.bool b_6, .slice a_8 l_8 c_8], .int .i64 x1] h4 fun v9 h10 =>
  gTup v9 fun y11 =>
  uncons y11 fun v12 y12 =>
  gAgg v12 fun y13 =>
  uncons y13 fun v14 y14 =>
  gBool v14 fun b_15 =>
  uncons y14 fun v16 y16 =>
  gSlice v16 fun a_17 l_17 c_17 =>
  unnil y16 <| uncons y12 fun v18 y18 =>
  gInt .i64 v18 fun x_19 =>
  unnil y18 <| stK h10 (q3.add 0) (.bool b_15) fun h20 =>
  stK h20 (q3.add 1) (.slice a_17 l_17 c_17) fun h21 =>
  ldK h21 (q3.add 0) fun v22 =>
  gBool v22 fun b_23 =>
  ldK h21 (q3.add 1) fun v24 =>
  gSlice v24 fun a_25 l_25 c_25 =>
  R (.tuple #[.agg #[.bool b_23, .slice a_25 l_25 c_25], .int .i64 x_19]) h21
def D1.g (R : Rt) (fr : Fr) (h : Hp) : Prop := gAgg (fr 0) fun z0 => uncons z0 fun w0_0 z0_0 => gBool w0_0 fun b0_0 => uncons z0_0 fun w0_1 z0_1 => gSlice w0_1 fun a0_1 l0_1 c0_1 => unnil z0_1 <| gInt .i64 (fr 1) fun x1 => D1.t R b0_0 a0_1 l0_1 c0_1 x1 h
theorem D1.ok (R : Rt) (fr : Fr) (h : Hp) (g : D1.g R fr h) : den prog E C (retQ E [.cell 4 33, .tmp 5] R) fr h := by
  obtain ⟨z0, e0, g0_0⟩ := gAgg_elim' g
  obtain ⟨w0_0, z0_0, rfl, g0_0x⟩ := uncons_elim g0_0
  obtain ⟨b0_0, rfl, g0_1⟩ := gBool_elim g0_0x
  obtain ⟨w0_1, z0_1, rfl, g0_1x⟩ := uncons_elim g0_1
  obtain ⟨a0_1, l0_1, c0_1, rfl, g0_2⟩ := gSlice_elim g0_1x
  obtain ⟨rfl, g⟩ := unnil_elim g0_2
  obtain ⟨x1, e1, g⟩ := gInt_elim g
  exact den_enter [(0, .agg #[.bool b0_0, .slice a0_1 l0_1 c0_1]), (1, .int .i64 x1)] ⟨e0, e1, trivial⟩ (by kernel_rfl) g
def t (b0_0 : Bool) (a0_1 : Option Addr) (l0_1 : Nat) (c0_1 : Nat) (x1 : Int) (h : Hp) (R : Rt) : Prop := D1.t R b0_0 a0_1 l0_1 c0_1 x1 h
theorem ok {b0_0 : Bool} {a0_1 : Option Addr} {l0_1 : Nat} {c0_1 : Nat} {x1 : Int} {h : Hp} {R : Rt} (g : t b0_0 a0_1 l0_1 c0_1 x1 h R) : HC id #[.agg #[.bool b0_0, .slice a0_1 l0_1 c0_1], .int .i64 x1] h R :=
  calls_of_den' envOk (c := C) (rs := [.cell 4 33, .tmp 5]) Tryd.func43 (by kernel_rfl) (by kernel_rfl) (by kernel_rfl) (args := [.agg #[.bool b0_0, .slice a0_1 l0_1 c0_1], .int .i64 x1]) (by kernel_rfl) (D1.ok R _ h (gAgg_intro rfl (uncons_intro (gBool_intro rfl (uncons_intro (gSlice_intro rfl (unnil_intro (gInt_intro rfl (g)))))))))
end num_CeilShr

namespace num_NearShr
noncomputable def C : Code := bodyOf Tryd.f44
def D1.t (R : Rt) (b0_0 : Bool) (a0_1 : Option Addr) (l0_1 : Nat) (c0_1 : Nat) (x1 : Int) (h : Hp) : Prop :=
  boxK h 33 [.bool b0_0, .slice a0_1 l0_1 c0_1] fun q1 h2 =>
  boxK h2 33 T33.zs fun q3 h4 =>
  ldK h4 (q1.add 0) fun v5 =>
  gBool v5 fun b_6 =>
  ldK h4 (q1.add 1) fun v7 =>
  gSlice v7 fun a_8 l_8 c_8 =>
  HC num_way_shr.id #[.int .i64 2, .agg #[.bool b_6, .slice a_8 l_8 c_8], .int .i64 x1] h4 fun v9 h10 =>
  gTup v9 fun y11 =>
  uncons y11 fun v12 y12 =>
  gAgg v12 fun y13 =>
  uncons y13 fun v14 y14 =>
  gBool v14 fun b_15 =>
  uncons y14 fun v16 y16 =>
  gSlice v16 fun a_17 l_17 c_17 =>
  unnil y16 <| uncons y12 fun v18 y18 =>
  gInt .i64 v18 fun x_19 =>
  unnil y18 <| stK h10 (q3.add 0) (.bool b_15) fun h20 =>
  stK h20 (q3.add 1) (.slice a_17 l_17 c_17) fun h21 =>
  ldK h21 (q3.add 0) fun v22 =>
  gBool v22 fun b_23 =>
  ldK h21 (q3.add 1) fun v24 =>
  gSlice v24 fun a_25 l_25 c_25 =>
  R (.tuple #[.agg #[.bool b_23, .slice a_25 l_25 c_25], .int .i64 x_19]) h21
def D1.g (R : Rt) (fr : Fr) (h : Hp) : Prop := gAgg (fr 0) fun z0 => uncons z0 fun w0_0 z0_0 => gBool w0_0 fun b0_0 => uncons z0_0 fun w0_1 z0_1 => gSlice w0_1 fun a0_1 l0_1 c0_1 => unnil z0_1 <| gInt .i64 (fr 1) fun x1 => D1.t R b0_0 a0_1 l0_1 c0_1 x1 h
theorem D1.ok (R : Rt) (fr : Fr) (h : Hp) (g : D1.g R fr h) : den prog E C (retQ E [.cell 4 33, .tmp 5] R) fr h := by
  obtain ⟨z0, e0, g0_0⟩ := gAgg_elim' g
  obtain ⟨w0_0, z0_0, rfl, g0_0x⟩ := uncons_elim g0_0
  obtain ⟨b0_0, rfl, g0_1⟩ := gBool_elim g0_0x
  obtain ⟨w0_1, z0_1, rfl, g0_1x⟩ := uncons_elim g0_1
  obtain ⟨a0_1, l0_1, c0_1, rfl, g0_2⟩ := gSlice_elim g0_1x
  obtain ⟨rfl, g⟩ := unnil_elim g0_2
  obtain ⟨x1, e1, g⟩ := gInt_elim g
  exact den_enter [(0, .agg #[.bool b0_0, .slice a0_1 l0_1 c0_1]), (1, .int .i64 x1)] ⟨e0, e1, trivial⟩ (by kernel_rfl) g
def t (b0_0 : Bool) (a0_1 : Option Addr) (l0_1 : Nat) (c0_1 : Nat) (x1 : Int) (h : Hp) (R : Rt) : Prop := D1.t R b0_0 a0_1 l0_1 c0_1 x1 h
theorem ok {b0_0 : Bool} {a0_1 : Option Addr} {l0_1 : Nat} {c0_1 : Nat} {x1 : Int} {h : Hp} {R : Rt} (g : t b0_0 a0_1 l0_1 c0_1 x1 h R) : HC id #[.agg #[.bool b0_0, .slice a0_1 l0_1 c0_1], .int .i64 x1] h R :=
  calls_of_den' envOk (c := C) (rs := [.cell 4 33, .tmp 5]) Tryd.func44 (by kernel_rfl) (by kernel_rfl) (by kernel_rfl) (args := [.agg #[.bool b0_0, .slice a0_1 l0_1 c0_1], .int .i64 x1]) (by kernel_rfl) (D1.ok R _ h (gAgg_intro rfl (uncons_intro (gBool_intro rfl (uncons_intro (gSlice_intro rfl (unnil_intro (gInt_intro rfl (g)))))))))
end num_NearShr

namespace nat_trim
noncomputable def C : Code := bodyOf Tryd.f45
def D2.t (R : Rt) (a0 : Option Addr) (l0 : Nat) (c0 : Nat) (x3 : Int) (h : Hp) : Prop :=
  slK 1 a0 l0 c0 none (some (.int .i64 x3)) none fun a_1 l_1 c_1 => R (.slice a_1 l_1 c_1) h
def D2.g (R : Rt) (fr : Fr) (h : Hp) : Prop := gSlice (fr 0) fun a0 l0 c0 => gInt .i64 (fr 3) fun x3 => D2.t R a0 l0 c0 x3 h
theorem D2.ok (R : Rt) (fr : Fr) (h : Hp) (g : D2.g R fr h) : den prog E (cAt C [true, true, true]) (retQ E [.tmp 2] R) fr h := by
  obtain ⟨a0, l0, c0, e0, g⟩ := gSlice_elim g
  obtain ⟨x3, e3, g⟩ := gInt_elim g
  exact den_enter [(0, .slice a0 l0 c0), (3, .int .i64 x3)] ⟨e0, e3, trivial⟩ (by kernel_rfl) g
def L3.g (N : Option Addr → Nat → Nat → Int → Hp → Prop) (fr : Fr) (h : Hp) : Prop := gSlice (fr 0) fun a0 l0 c0 => gInt .i64 (fr 3) fun x3 => N a0 l0 c0 x3 h
def D4.t (R : Rt) (N3 : Option Addr → Nat → Nat → Int → Hp → Prop) (a0 : Option Addr) (l0 : Nat) (c0 : Nat) (x3 : Int) (h : Hp) : Prop :=
  cond (decide (x3 > 0)) (letK (IntKind.i64.wrap (x3 - 1)) fun n2 =>
  idxK a0 l0 n2 1 fun q3 =>
  ldK h q3 fun v4 =>
  gInt .u64 v4 fun x_5 =>
  cond (x_5 == 0) (letK (IntKind.i64.wrap (x3 - 1)) fun n6 =>
  N3 a0 l0 c0 n6 h) (D2.t R a0 l0 c0 x3 h)) (D2.t R a0 l0 c0 x3 h)
def D4.g (R : Rt) (N3 : Option Addr → Nat → Nat → Int → Hp → Prop) (fr : Fr) (h : Hp) : Prop := gSlice (fr 0) fun a0 l0 c0 => gInt .i64 (fr 3) fun x3 => D4.t R N3 a0 l0 c0 x3 h
theorem D4.ok (R : Rt) (N3 : Option Addr → Nat → Nat → Int → Hp → Prop) (fr : Fr) (h : Hp) (g : D4.g R N3 fr h) : den prog E (cAt C [true, true, false, false, false]) (Ex.then (L3.g N3) (Ex.inBlock 0 (Ex.then (D2.g R) (retQ E [.tmp 2] R)))) fr h := by
  obtain ⟨a0, l0, c0, e0, g⟩ := gSlice_elim g
  obtain ⟨x3, e3, g⟩ := gInt_elim g
  exact den_enter [(0, .slice a0 l0 c0), (3, .int .i64 x3)] ⟨e0, e3, trivial⟩ (by kernel_rfl) g
def L3.t (R : Rt) : Nat → Option Addr → Nat → Nat → Int → Hp → Prop
  | 0 => fun _ _ _ _ _ => False
  | n + 1 => fun a0 l0 c0 x3 h => D4.t R (L3.t R n) a0 l0 c0 x3 h
theorem L3.ok (R : Rt) (fr : Fr) (h : Hp) (g : L3.g (fun a0 l0 c0 x3 h => ∃ n, L3.t R n a0 l0 c0 x3 h) fr h) : den prog E (cAt C [true, true, false, false]) (Ex.inBlock 0 (Ex.then (D2.g R) (retQ E [.tmp 2] R))) fr h := by
  obtain ⟨a0, l0, c0, e0, g⟩ := gSlice_elim g
  obtain ⟨x3, e3, g⟩ := gInt_elim g
  obtain ⟨n, g⟩ := g
  refine loop_ok (fun n => L3.g (L3.t R n)) (b := (cAt C [true, true, false, false, false])) (by kernel_rfl) (fun fr h g => ?_) (fun n => D4.ok R (L3.t R n)) n fr h (gSlice_intro e0 (gInt_intro e3 (g)))
  obtain ⟨a0, l0, c0, e0, g⟩ := gSlice_elim g
  obtain ⟨x3, e3, g⟩ := gInt_elim g
  exact g
theorem B5.ok (R : Rt) (fr : Fr) (h : Hp) (g : L3.g (fun a0 l0 c0 x3 h => ∃ n, L3.t R n a0 l0 c0 x3 h) fr h) : den prog E (cAt C [true, true, false]) (Ex.then (D2.g R) (retQ E [.tmp 2] R)) fr h :=
  den_block (by kernel_rfl) (L3.ok R fr h g)
theorem W6.ok (R : Rt) (fr : Fr) (h : Hp) (g : L3.g (fun a0 l0 c0 x3 h => ∃ n, L3.t R n a0 l0 c0 x3 h) fr h) : den prog E (cAt C [true, true]) (retQ E [.tmp 2] R) fr h :=
  den_then (by kernel_rfl) (D2.ok R) (B5.ok R fr h g)
def D1.t (R : Rt) (a0 : Option Addr) (l0 : Nat) (c0 : Nat) (h : Hp) : Prop :=
  (∃ n, L3.t R n a0 l0 c0 (((l0 : Nat) : Int)) h)
def D1.g (R : Rt) (fr : Fr) (h : Hp) : Prop := gSlice (fr 0) fun a0 l0 c0 => D1.t R a0 l0 c0 h
theorem D1.ok (R : Rt) (fr : Fr) (h : Hp) (g : D1.g R fr h) : den prog E C (retQ E [.tmp 2] R) fr h := by
  obtain ⟨a0, l0, c0, e0, g⟩ := gSlice_elim g
  exact den_cut 2 (r := (cAt C [true, true])) (by kernel_rfl) (W6.ok R) (den_enter [(0, .slice a0 l0 c0)] ⟨e0, trivial⟩ (by kernel_rfl) g)
def t (a0 : Option Addr) (l0 : Nat) (c0 : Nat) (h : Hp) (R : Rt) : Prop := D1.t R a0 l0 c0 h
theorem ok {a0 : Option Addr} {l0 : Nat} {c0 : Nat} {h : Hp} {R : Rt} (g : t a0 l0 c0 h R) : HC id #[.slice a0 l0 c0] h R :=
  calls_of_den' envOk (c := C) (rs := [.tmp 2]) Tryd.func45 (by kernel_rfl) (by kernel_rfl) (by kernel_rfl) (args := [.slice a0 l0 c0]) (by kernel_rfl) (D1.ok R _ h (gSlice_intro rfl (g)))
end nat_trim

namespace bits_Div64
noncomputable def C : Code := bodyOf Tryd.f46
def D5.t (R : Rt) (x2 : Int) (x8 : Int) (x14 : Int) (x15 : Int) (x17 : Int) (x18 : Int) (h : Hp) : Prop :=
  letK (IntKind.u64.wrap (x15 * 4294967296)) fun n27 =>
  letK (IntKind.u64.wrap (n27 + x18)) fun n28 =>
  letK (IntKind.u64.wrap (x17 * 4294967296)) fun n29 =>
  letK (IntKind.u64.wrap (n29 + x14)) fun n30 =>
  letK (IntKind.u64.wrap (x18 * x2)) fun n31 =>
  letK (IntKind.u64.wrap (n30 - n31)) fun n32 =>
  0 ≤ x8 ∧ letK (shrI .u64 n32 x8) fun n33 =>
  R (.tuple #[.int .u64 n28, .int .u64 n33]) h
def D5.g (R : Rt) (fr : Fr) (h : Hp) : Prop := gInt .u64 (fr 2) fun x2 => gInt .u64 (fr 8) fun x8 => gInt .u64 (fr 14) fun x14 => gInt .u64 (fr 15) fun x15 => gInt .u64 (fr 17) fun x17 => gInt .u64 (fr 18) fun x18 => D5.t R x2 x8 x14 x15 x17 x18 h
theorem D5.ok (R : Rt) (fr : Fr) (h : Hp) (g : D5.g R fr h) : den prog E (cAt C [true, true, true, true, true, true, true, true, true, true, true, true, true, true, true, true, true, true, true]) (retQ E [.tmp 6, .tmp 7] R) fr h := by
  obtain ⟨x2, e2, g⟩ := gInt_elim g
  obtain ⟨x8, e8, g⟩ := gInt_elim g
  obtain ⟨x14, e14, g⟩ := gInt_elim g
  obtain ⟨x15, e15, g⟩ := gInt_elim g
  obtain ⟨x17, e17, g⟩ := gInt_elim g
  obtain ⟨x18, e18, g⟩ := gInt_elim g
  exact den_enter [(2, .int .u64 x2), (8, .int .u64 x8), (14, .int .u64 x14), (15, .int .u64 x15), (17, .int .u64 x17), (18, .int .u64 x18)] ⟨e2, e8, e14, e15, e17, e18, trivial⟩ (by kernel_rfl) g
def L6.g (N : Int → Int → Int → Int → Int → Int → Int → Int → Int → Hp → Prop) (fr : Fr) (h : Hp) : Prop := gInt .u64 (fr 2) fun x2 => gInt .u64 (fr 8) fun x8 => gInt .u64 (fr 9) fun x9 => gInt .u64 (fr 10) fun x10 => gInt .u64 (fr 14) fun x14 => gInt .u64 (fr 15) fun x15 => gInt .u64 (fr 16) fun x16 => gInt .u64 (fr 17) fun x17 => gInt .u64 (fr 18) fun x18 => N x2 x8 x9 x10 x14 x15 x16 x17 x18 h
def D8.t (R : Rt) (N6 : Int → Int → Int → Int → Int → Int → Int → Int → Int → Hp → Prop) (x2 : Int) (x8 : Int) (x9 : Int) (x10 : Int) (x14 : Int) (x15 : Int) (x16 : Int) (x17 : Int) (x18 : Int) (h : Hp) : Prop :=
  letK (IntKind.u64.wrap (x18 - 1)) fun n34 =>
  letK (IntKind.u64.wrap (x16 + x9)) fun n35 =>
  cond (decide (n35 ≥ 4294967296)) (D5.t R x2 x8 x14 x15 x17 n34 h) (N6 x2 x8 x9 x10 x14 x15 n35 x17 n34 h)
def D8.g (R : Rt) (N6 : Int → Int → Int → Int → Int → Int → Int → Int → Int → Hp → Prop) (fr : Fr) (h : Hp) : Prop := gInt .u64 (fr 2) fun x2 => gInt .u64 (fr 8) fun x8 => gInt .u64 (fr 9) fun x9 => gInt .u64 (fr 10) fun x10 => gInt .u64 (fr 14) fun x14 => gInt .u64 (fr 15) fun x15 => gInt .u64 (fr 16) fun x16 => gInt .u64 (fr 17) fun x17 => gInt .u64 (fr 18) fun x18 => D8.t R N6 x2 x8 x9 x10 x14 x15 x16 x17 x18 h
theorem D8.ok (R : Rt) (N6 : Int → Int → Int → Int → Int → Int → Int → Int → Int → Hp → Prop) (fr : Fr) (h : Hp) (g : D8.g R N6 fr h) : den prog E (cAt C [true, true, true, true, true, true, true, true, true, true, true, true, true, true, true, true, true, true, false, false, false, true]) (Ex.then (L6.g N6) (Ex.inBlock 2 (Ex.then (D5.g R) (retQ E [.tmp 6, .tmp 7] R)))) fr h := by
  obtain ⟨x2, e2, g⟩ := gInt_elim g
  obtain ⟨x8, e8, g⟩ := gInt_elim g
  obtain ⟨x9, e9, g⟩ := gInt_elim g
  obtain ⟨x10, e10, g⟩ := gInt_elim g
  obtain ⟨x14, e14, g⟩ := gInt_elim g
  obtain ⟨x15, e15, g⟩ := gInt_elim g
  obtain ⟨x16, e16, g⟩ := gInt_elim g
  obtain ⟨x17, e17, g⟩ := gInt_elim g
  obtain ⟨x18, e18, g⟩ := gInt_elim g
  exact den_enter [(2, .int .u64 x2), (8, .int .u64 x8), (9, .int .u64 x9), (10, .int .u64 x10), (14, .int .u64 x14), (15, .int .u64 x15), (16, .int .u64 x16), (17, .int .u64 x17), (18, .int .u64 x18)] ⟨e2, e8, e9, e10, e14, e15, e16, e17, e18, trivial⟩ (by kernel_rfl) g
def D7.t (R : Rt) (N6 : Int → Int → Int → Int → Int → Int → Int → Int → Int → Hp → Prop) (x2 : Int) (x8 : Int) (x9 : Int) (x10 : Int) (x14 : Int) (x15 : Int) (x16 : Int) (x17 : Int) (x18 : Int) (h : Hp) : Prop :=
  cond (decide (x18 ≥ 4294967296)) (D8.t R N6 x2 x8 x9 x10 x14 x15 x16 x17 x18 h) (letK (IntKind.u64.wrap (x18 * x10)) fun n36 =>
  letK (IntKind.u64.wrap (4294967296 * x16)) fun n37 =>
  letK (IntKind.u64.wrap (n37 + x14)) fun n38 =>
  cond (decide (n36 > n38)) (D8.t R N6 x2 x8 x9 x10 x14 x15 x16 x17 x18 h) (D5.t R x2 x8 x14 x15 x17 x18 h))
def D7.g (R : Rt) (N6 : Int → Int → Int → Int → Int → Int → Int → Int → Int → Hp → Prop) (fr : Fr) (h : Hp) : Prop := gInt .u64 (fr 2) fun x2 => gInt .u64 (fr 8) fun x8 => gInt .u64 (fr 9) fun x9 => gInt .u64 (fr 10) fun x10 => gInt .u64 (fr 14) fun x14 => gInt .u64 (fr 15) fun x15 => gInt .u64 (fr 16) fun x16 => gInt .u64 (fr 17) fun x17 => gInt .u64 (fr 18) fun x18 => D7.t R N6 x2 x8 x9 x10 x14 x15 x16 x17 x18 h
theorem D7.ok (R : Rt) (N6 : Int → Int → Int → Int → Int → Int → Int → Int → Int → Hp → Prop) (fr : Fr) (h : Hp) (g : D7.g R N6 fr h) : den prog E (cAt C [true, true, true, true, true, true, true, true, true, true, true, true, true, true, true, true, true, true, false, false, false]) (Ex.then (L6.g N6) (Ex.inBlock 2 (Ex.then (D5.g R) (retQ E [.tmp 6, .tmp 7] R)))) fr h := by
  obtain ⟨x2, e2, g⟩ := gInt_elim g
  obtain ⟨x8, e8, g⟩ := gInt_elim g
  obtain ⟨x9, e9, g⟩ := gInt_elim g
  obtain ⟨x10, e10, g⟩ := gInt_elim g
  obtain ⟨x14, e14, g⟩ := gInt_elim g
  obtain ⟨x15, e15, g⟩ := gInt_elim g
  obtain ⟨x16, e16, g⟩ := gInt_elim g
  obtain ⟨x17, e17, g⟩ := gInt_elim g
  obtain ⟨x18, e18, g⟩ := gInt_elim g
  exact den_cut 1 (r := (cAt C [true, true, true, true, true, true, true, true, true, true, true, true, true, true, true, true, true, true, false, false, false, true])) (by kernel_rfl) (D8.ok R N6) (den_enter [(2, .int .u64 x2), (8, .int .u64 x8), (9, .int .u64 x9), (10, .int .u64 x10), (14, .int .u64 x14), (15, .int .u64 x15), (16, .int .u64 x16), (17, .int .u64 x17), (18, .int .u64 x18)] ⟨e2, e8, e9, e10, e14, e15, e16, e17, e18, trivial⟩ (by kernel_rfl) g)
def L6.t (R : Rt) : Nat → Int → Int → Int → Int → Int → Int → Int → Int → Int → Hp → Prop
  | 0 => fun _ _ _ _ _ _ _ _ _ _ => False
  | n + 1 => fun x2 x8 x9 x10 x14 x15 x16 x17 x18 h => D7.t R (L6.t R n) x2 x8 x9 x10 x14 x15 x16 x17 x18 h
theorem L6.ok (R : Rt) (fr : Fr) (h : Hp) (g : L6.g (fun x2 x8 x9 x10 x14 x15 x16 x17 x18 h => ∃ n, L6.t R n x2 x8 x9 x10 x14 x15 x16 x17 x18 h) fr h) : den prog E (cAt C [true, true, true, true, true, true, true, true, true, true, true, true, true, true, true, true, true, true, false, false]) (Ex.inBlock 2 (Ex.then (D5.g R) (retQ E [.tmp 6, .tmp 7] R))) fr h := by
  obtain ⟨x2, e2, g⟩ := gInt_elim g
  obtain ⟨x8, e8, g⟩ := gInt_elim g
  obtain ⟨x9, e9, g⟩ := gInt_elim g
  obtain ⟨x10, e10, g⟩ := gInt_elim g
  obtain ⟨x14, e14, g⟩ := gInt_elim g
  obtain ⟨x15, e15, g⟩ := gInt_elim g
  obtain ⟨x16, e16, g⟩ := gInt_elim g
  obtain ⟨x17, e17, g⟩ := gInt_elim g
  obtain ⟨x18, e18, g⟩ := gInt_elim g
  obtain ⟨n, g⟩ := g
  refine loop_ok (fun n => L6.g (L6.t R n)) (b := (cAt C [true, true, true, true, true, true, true, true, true, true, true, true, true, true, true, true, true, true, false, false, false])) (by kernel_rfl) (fun fr h g => ?_) (fun n => D7.ok R (L6.t R n)) n fr h (gInt_intro e2 (gInt_intro e8 (gInt_intro e9 (gInt_intro e10 (gInt_intro e14 (gInt_intro e15 (gInt_intro e16 (gInt_intro e17 (gInt_intro e18 (g))))))))))
  obtain ⟨x2, e2, g⟩ := gInt_elim g
  obtain ⟨x8, e8, g⟩ := gInt_elim g
  obtain ⟨x9, e9, g⟩ := gInt_elim g
  obtain ⟨x10, e10, g⟩ := gInt_elim g
  obtain ⟨x14, e14, g⟩ := gInt_elim g
  obtain ⟨x15, e15, g⟩ := gInt_elim g
  obtain ⟨x16, e16, g⟩ := gInt_elim g
  obtain ⟨x17, e17, g⟩ := gInt_elim g
  obtain ⟨x18, e18, g⟩ := gInt_elim g
  exact g
theorem B9.ok (R : Rt) (fr : Fr) (h : Hp) (g : L6.g (fun x2 x8 x9 x10 x14 x15 x16 x17 x18 h => ∃ n, L6.t R n x2 x8 x9 x10 x14 x15 x16 x17 x18 h) fr h) : den prog E (cAt C [true, true, true, true, true, true, true, true, true, true, true, true, true, true, true, true, true, true, false]) (Ex.then (D5.g R) (retQ E [.tmp 6, .tmp 7] R)) fr h :=
  den_block (by kernel_rfl) (L6.ok R fr h g)
theorem W10.ok (R : Rt) (fr : Fr) (h : Hp) (g : L6.g (fun x2 x8 x9 x10 x14 x15 x16 x17 x18 h => ∃ n, L6.t R n x2 x8 x9 x10 x14 x15 x16 x17 x18 h) fr h) : den prog E (cAt C [true, true, true, true, true, true, true, true, true, true, true, true, true, true, true, true, true, true]) (retQ E [.tmp 6, .tmp 7] R) fr h :=
  den_then (by kernel_rfl) (D5.ok R) (B9.ok R fr h g)
def D4.t (R : Rt) (x2 : Int) (x8 : Int) (x9 : Int) (x10 : Int) (x11 : Int) (x13 : Int) (x14 : Int) (x15 : Int) (h : Hp) : Prop :=
  letK (IntKind.u64.wrap (x11 * 4294967296)) fun n20 =>
  letK (IntKind.u64.wrap (n20 + x13)) fun n21 =>
  letK (IntKind.u64.wrap (x15 * x2)) fun n22 =>
  letK (IntKind.u64.wrap (n21 - n22)) fun n23 =>
  x9 ≠ 0 ∧ letK (IntKind.u64.wrap (Int.tdiv n23 x9)) fun n24 =>
  letK (IntKind.u64.wrap (n24 * x9)) fun n25 =>
  letK (IntKind.u64.wrap (n23 - n25)) fun n26 =>
  (∃ n, L6.t R n x2 x8 x9 x10 x14 x15 n26 n23 n24 h)
def D4.g (R : Rt) (fr : Fr) (h : Hp) : Prop := gInt .u64 (fr 2) fun x2 => gInt .u64 (fr 8) fun x8 => gInt .u64 (fr 9) fun x9 => gInt .u64 (fr 10) fun x10 => gInt .u64 (fr 11) fun x11 => gInt .u64 (fr 13) fun x13 => gInt .u64 (fr 14) fun x14 => gInt .u64 (fr 15) fun x15 => D4.t R x2 x8 x9 x10 x11 x13 x14 x15 h
theorem D4.ok (R : Rt) (fr : Fr) (h : Hp) (g : D4.g R fr h) : den prog E (cAt C [true, true, true, true, true, true, true, true, true, true, true, true, true, true, true]) (retQ E [.tmp 6, .tmp 7] R) fr h := by
  obtain ⟨x2, e2, g⟩ := gInt_elim g
  obtain ⟨x8, e8, g⟩ := gInt_elim g
  obtain ⟨x9, e9, g⟩ := gInt_elim g
  obtain ⟨x10, e10, g⟩ := gInt_elim g
  obtain ⟨x11, e11, g⟩ := gInt_elim g
  obtain ⟨x13, e13, g⟩ := gInt_elim g
  obtain ⟨x14, e14, g⟩ := gInt_elim g
  obtain ⟨x15, e15, g⟩ := gInt_elim g
  exact den_cut 3 (r := (cAt C [true, true, true, true, true, true, true, true, true, true, true, true, true, true, true, true, true, true])) (by kernel_rfl) (W10.ok R) (den_enter [(2, .int .u64 x2), (8, .int .u64 x8), (9, .int .u64 x9), (10, .int .u64 x10), (11, .int .u64 x11), (13, .int .u64 x13), (14, .int .u64 x14), (15, .int .u64 x15)] ⟨e2, e8, e9, e10, e11, e13, e14, e15, trivial⟩ (by kernel_rfl) g)
def L11.g (N : Int → Int → Int → Int → Int → Int → Int → Int → Int → Hp → Prop) (fr : Fr) (h : Hp) : Prop := gInt .u64 (fr 2) fun x2 => gInt .u64 (fr 8) fun x8 => gInt .u64 (fr 9) fun x9 => gInt .u64 (fr 10) fun x10 => gInt .u64 (fr 11) fun x11 => gInt .u64 (fr 13) fun x13 => gInt .u64 (fr 14) fun x14 => gInt .u64 (fr 15) fun x15 => gInt .u64 (fr 16) fun x16 => N x2 x8 x9 x10 x11 x13 x14 x15 x16 h
def D13.t (R : Rt) (N11 : Int → Int → Int → Int → Int → Int → Int → Int → Int → Hp → Prop) (x2 : Int) (x8 : Int) (x9 : Int) (x10 : Int) (x11 : Int) (x13 : Int) (x14 : Int) (x15 : Int) (x16 : Int) (h : Hp) : Prop :=
  letK (IntKind.u64.wrap (x15 - 1)) fun n39 =>
  letK (IntKind.u64.wrap (x16 + x9)) fun n40 =>
  cond (decide (n40 ≥ 4294967296)) (D4.t R x2 x8 x9 x10 x11 x13 x14 n39 h) (N11 x2 x8 x9 x10 x11 x13 x14 n39 n40 h)
def D13.g (R : Rt) (N11 : Int → Int → Int → Int → Int → Int → Int → Int → Int → Hp → Prop) (fr : Fr) (h : Hp) : Prop := gInt .u64 (fr 2) fun x2 => gInt .u64 (fr 8) fun x8 => gInt .u64 (fr 9) fun x9 => gInt .u64 (fr 10) fun x10 => gInt .u64 (fr 11) fun x11 => gInt .u64 (fr 13) fun x13 => gInt .u64 (fr 14) fun x14 => gInt .u64 (fr 15) fun x15 => gInt .u64 (fr 16) fun x16 => D13.t R N11 x2 x8 x9 x10 x11 x13 x14 x15 x16 h
theorem D13.ok (R : Rt) (N11 : Int → Int → Int → Int → Int → Int → Int → Int → Int → Hp → Prop) (fr : Fr) (h : Hp) (g : D13.g R N11 fr h) : den prog E (cAt C [true, true, true, true, true, true, true, true, true, true, true, true, true, true, false, false, false, true]) (Ex.then (L11.g N11) (Ex.inBlock 0 (Ex.then (D4.g R) (retQ E [.tmp 6, .tmp 7] R)))) fr h := by
  obtain ⟨x2, e2, g⟩ := gInt_elim g
  obtain ⟨x8, e8, g⟩ := gInt_elim g
  obtain ⟨x9, e9, g⟩ := gInt_elim g
  obtain ⟨x10, e10, g⟩ := gInt_elim g
  obtain ⟨x11, e11, g⟩ := gInt_elim g
  obtain ⟨x13, e13, g⟩ := gInt_elim g
  obtain ⟨x14, e14, g⟩ := gInt_elim g
  obtain ⟨x15, e15, g⟩ := gInt_elim g
  obtain ⟨x16, e16, g⟩ := gInt_elim g
  exact den_enter [(2, .int .u64 x2), (8, .int .u64 x8), (9, .int .u64 x9), (10, .int .u64 x10), (11, .int .u64 x11), (13, .int .u64 x13), (14, .int .u64 x14), (15, .int .u64 x15), (16, .int .u64 x16)] ⟨e2, e8, e9, e10, e11, e13, e14, e15, e16, trivial⟩ (by kernel_rfl) g
def D12.t (R : Rt) (N11 : Int → Int → Int → Int → Int → Int → Int → Int → Int → Hp → Prop) (x2 : Int) (x8 : Int) (x9 : Int) (x10 : Int) (x11 : Int) (x13 : Int) (x14 : Int) (x15 : Int) (x16 : Int) (h : Hp) : Prop :=
  cond (decide (x15 ≥ 4294967296)) (D13.t R N11 x2 x8 x9 x10 x11 x13 x14 x15 x16 h) (letK (IntKind.u64.wrap (x15 * x10)) fun n41 =>
  letK (IntKind.u64.wrap (4294967296 * x16)) fun n42 =>
  letK (IntKind.u64.wrap (n42 + x13)) fun n43 =>
  cond (decide (n41 > n43)) (D13.t R N11 x2 x8 x9 x10 x11 x13 x14 x15 x16 h) (D4.t R x2 x8 x9 x10 x11 x13 x14 x15 h))
def D12.g (R : Rt) (N11 : Int → Int → Int → Int → Int → Int → Int → Int → Int → Hp → Prop) (fr : Fr) (h : Hp) : Prop := gInt .u64 (fr 2) fun x2 => gInt .u64 (fr 8) fun x8 => gInt .u64 (fr 9) fun x9 => gInt .u64 (fr 10) fun x10 => gInt .u64 (fr 11) fun x11 => gInt .u64 (fr 13) fun x13 => gInt .u64 (fr 14) fun x14 => gInt .u64 (fr 15) fun x15 => gInt .u64 (fr 16) fun x16 => D12.t R N11 x2 x8 x9 x10 x11 x13 x14 x15 x16 h
theorem D12.ok (R : Rt) (N11 : Int → Int → Int → Int → Int → Int → Int → Int → Int → Hp → Prop) (fr : Fr) (h : Hp) (g : D12.g R N11 fr h) : den prog E (cAt C [true, true, true, true, true, true, true, true, true, true, true, true, true, true, false, false, false]) (Ex.then (L11.g N11) (Ex.inBlock 0 (Ex.then (D4.g R) (retQ E [.tmp 6, .tmp 7] R)))) fr h := by
  obtain ⟨x2, e2, g⟩ := gInt_elim g
  obtain ⟨x8, e8, g⟩ := gInt_elim g
  obtain ⟨x9, e9, g⟩ := gInt_elim g
  obtain ⟨x10, e10, g⟩ := gInt_elim g
  obtain ⟨x11, e11, g⟩ := gInt_elim g
  obtain ⟨x13, e13, g⟩ := gInt_elim g
  obtain ⟨x14, e14, g⟩ := gInt_elim g
  obtain ⟨x15, e15, g⟩ := gInt_elim g
  obtain ⟨x16, e16, g⟩ := gInt_elim g
  exact den_cut 1 (r := (cAt C [true, true, true, true, true, true, true, true, true, true, true, true, true, true, false, false, false, true])) (by kernel_rfl) (D13.ok R N11) (den_enter [(2, .int .u64 x2), (8, .int .u64 x8), (9, .int .u64 x9), (10, .int .u64 x10), (11, .int .u64 x11), (13, .int .u64 x13), (14, .int .u64 x14), (15, .int .u64 x15), (16, .int .u64 x16)] ⟨e2, e8, e9, e10, e11, e13, e14, e15, e16, trivial⟩ (by kernel_rfl) g)
def L11.t (R : Rt) : Nat → Int → Int → Int → Int → Int → Int → Int → Int → Int → Hp → Prop
  | 0 => fun _ _ _ _ _ _ _ _ _ _ => False
  | n + 1 => fun x2 x8 x9 x10 x11 x13 x14 x15 x16 h => D12.t R (L11.t R n) x2 x8 x9 x10 x11 x13 x14 x15 x16 h
theorem L11.ok (R : Rt) (fr : Fr) (h : Hp) (g : L11.g (fun x2 x8 x9 x10 x11 x13 x14 x15 x16 h => ∃ n, L11.t R n x2 x8 x9 x10 x11 x13 x14 x15 x16 h) fr h) : den prog E (cAt C [true, true, true, true, true, true, true, true, true, true, true, true, true, true, false, false]) (Ex.inBlock 0 (Ex.then (D4.g R) (retQ E [.tmp 6, .tmp 7] R))) fr h := by
  obtain ⟨x2, e2, g⟩ := gInt_elim g
  obtain ⟨x8, e8, g⟩ := gInt_elim g
  obtain ⟨x9, e9, g⟩ := gInt_elim g
  obtain ⟨x10, e10, g⟩ := gInt_elim g
  obtain ⟨x11, e11, g⟩ := gInt_elim g
  obtain ⟨x13, e13, g⟩ := gInt_elim g
  obtain ⟨x14, e14, g⟩ := gInt_elim g
  obtain ⟨x15, e15, g⟩ := gInt_elim g
  obtain ⟨x16, e16, g⟩ := gInt_elim g
  obtain ⟨n, g⟩ := g
  refine loop_ok (fun n => L11.g (L11.t R n)) (b := (cAt C [true, true, true, true, true, true, true, true, true, true, true, true, true, true, false, false, false])) (by kernel_rfl) (fun fr h g => ?_) (fun n => D12.ok R (L11.t R n)) n fr h (gInt_intro e2 (gInt_intro e8 (gInt_intro e9 (gInt_intro e10 (gInt_intro e11 (gInt_intro e13 (gInt_intro e14 (gInt_intro e15 (gInt_intro e16 (g))))))))))
  obtain ⟨x2, e2, g⟩ := gInt_elim g
  obtain ⟨x8, e8, g⟩ := gInt_elim g
  obtain ⟨x9, e9, g⟩ := gInt_elim g
  obtain ⟨x10, e10, g⟩ := gInt_elim g
  obtain ⟨x11, e11, g⟩ := gInt_elim g
  obtain ⟨x13, e13, g⟩ := gInt_elim g
  obtain ⟨x14, e14, g⟩ := gInt_elim g
  obtain ⟨x15, e15, g⟩ := gInt_elim g
  obtain ⟨x16, e16, g⟩ := gInt_elim g
  exact g
theorem B14.ok (R : Rt) (fr : Fr) (h : Hp) (g : L11.g (fun x2 x8 x9 x10 x11 x13 x14 x15 x16 h => ∃ n, L11.t R n x2 x8 x9 x10 x11 x13 x14 x15 x16 h) fr h) : den prog E (cAt C [true, true, true, true, true, true, true, true, true, true, true, true, true, true, false]) (Ex.then (D4.g R) (retQ E [.tmp 6, .tmp 7] R)) fr h :=
  den_block (by kernel_rfl) (L11.ok R fr h g)
theorem W15.ok (R : Rt) (fr : Fr) (h : Hp) (g : L11.g (fun x2 x8 x9 x10 x11 x13 x14 x15 x16 h => ∃ n, L11.t R n x2 x8 x9 x10 x11 x13 x14 x15 x16 h) fr h) : den prog E (cAt C [true, true, true, true, true, true, true, true, true, true, true, true, true, true]) (retQ E [.tmp 6, .tmp 7] R) fr h :=
  den_then (by kernel_rfl) (D4.ok R) (B14.ok R fr h g)
def D3.t (R : Rt) (x0 : Int) (x1 : Int) (x2 : Int) (h : Hp) : Prop :=
  cond (x0 == 0) (x2 ≠ 0 ∧ letK (IntKind.u64.wrap (Int.tdiv x1 x2)) fun n1 =>
  x2 ≠ 0 ∧ letK (Int.tmod x1 x2) fun n2 =>
  R (.tuple #[.int .u64 n1, .int .u64 n2]) h) (HC bits_LeadingZeros64.id #[.int .u64 x2] h fun v3 h4 =>
  gInt .i64 v3 fun x_5 =>
  letK (IntKind.u64.wrap x_5) fun n6 =>
  0 ≤ n6 ∧ letK (shlI .u64 x2 n6) fun n7 =>
  0 ≤ (32 : Int) ∧ letK (shrI .u64 n7 32) fun n8 =>
  letK (andI .u64 n7 4294967295) fun n9 =>
  0 ≤ n6 ∧ letK (shlI .u64 x0 n6) fun n10 =>
  letK (IntKind.u64.wrap (64 - n6)) fun n11 =>
  0 ≤ n11 ∧ letK (shrI .u64 x1 n11) fun n12 =>
  letK (orI .u64 n10 n12) fun n13 =>
  0 ≤ n6 ∧ letK (shlI .u64 x1 n6) fun n14 =>
  0 ≤ (32 : Int) ∧ letK (shrI .u64 n14 32) fun n15 =>
  letK (andI .u64 n14 4294967295) fun n16 =>
  n8 ≠ 0 ∧ letK (IntKind.u64.wrap (Int.tdiv n13 n8)) fun n17 =>
  letK (IntKind.u64.wrap (n17 * n8)) fun n18 =>
  letK (IntKind.u64.wrap (n13 - n18)) fun n19 =>
  (∃ n, L11.t R n n7 n6 n8 n9 n13 n15 n16 n17 n19 h4))
def D3.g (R : Rt) (fr : Fr) (h : Hp) : Prop := gInt .u64 (fr 0) fun x0 => gInt .u64 (fr 1) fun x1 => gInt .u64 (fr 2) fun x2 => D3.t R x0 x1 x2 h
theorem D3.ok (R : Rt) (fr : Fr) (h : Hp) (g : D3.g R fr h) : den prog E (cAt C [true, true, true]) (retQ E [.tmp 6, .tmp 7] R) fr h := by
  obtain ⟨x0, e0, g⟩ := gInt_elim g
  obtain ⟨x1, e1, g⟩ := gInt_elim g
  obtain ⟨x2, e2, g⟩ := gInt_elim g
  exact den_cut 11 (r := (cAt C [true, true, true, true, true, true, true, true, true, true, true, true, true, true])) (by kernel_rfl) (W15.ok R) (den_enter [(0, .int .u64 x0), (1, .int .u64 x1), (2, .int .u64 x2)] ⟨e0, e1, e2, trivial⟩ (by kernel_rfl) g)
def D2.t (R : Rt) (x0 : Int) (x1 : Int) (x2 : Int) (h : Hp) : Prop :=
  cond (decide (x2 ≤ x0)) (False) (D3.t R x0 x1 x2 h)
def D2.g (R : Rt) (fr : Fr) (h : Hp) : Prop := gInt .u64 (fr 0) fun x0 => gInt .u64 (fr 1) fun x1 => gInt .u64 (fr 2) fun x2 => D2.t R x0 x1 x2 h
theorem D2.ok (R : Rt) (fr : Fr) (h : Hp) (g : D2.g R fr h) : den prog E (cAt C [true, true]) (retQ E [.tmp 6, .tmp 7] R) fr h := by
  obtain ⟨x0, e0, g⟩ := gInt_elim g
  obtain ⟨x1, e1, g⟩ := gInt_elim g
  obtain ⟨x2, e2, g⟩ := gInt_elim g
  exact den_cut 1 (r := (cAt C [true, true, true])) (by kernel_rfl) (D3.ok R) (den_enter [(0, .int .u64 x0), (1, .int .u64 x1), (2, .int .u64 x2)] ⟨e0, e1, e2, trivial⟩ (by kernel_rfl) g)
def D1.t (R : Rt) (x0 : Int) (x1 : Int) (x2 : Int) (h : Hp) : Prop :=
  cond (x2 == 0) (False) (D2.t R x0 x1 x2 h)
def D1.g (R : Rt) (fr : Fr) (h : Hp) : Prop := gInt .u64 (fr 0) fun x0 => gInt .u64 (fr 1) fun x1 => gInt .u64 (fr 2) fun x2 => D1.t R x0 x1 x2 h
theorem D1.ok (R : Rt) (fr : Fr) (h : Hp) (g : D1.g R fr h) : den prog E C (retQ E [.tmp 6, .tmp 7] R) fr h := by
  obtain ⟨x0, e0, g⟩ := gInt_elim g
  obtain ⟨x1, e1, g⟩ := gInt_elim g
  obtain ⟨x2, e2, g⟩ := gInt_elim g
  exact den_cut 2 (r := (cAt C [true, true])) (by kernel_rfl) (D2.ok R) (den_enter [(0, .int .u64 x0), (1, .int .u64 x1), (2, .int .u64 x2)] ⟨e0, e1, e2, trivial⟩ (by kernel_rfl) g)
def t (x0 : Int) (x1 : Int) (x2 : Int) (h : Hp) (R : Rt) : Prop := D1.t R x0 x1 x2 h
theorem ok {x0 : Int} {x1 : Int} {x2 : Int} {h : Hp} {R : Rt} (g : t x0 x1 x2 h R) : HC id #[.int .u64 x0, .int .u64 x1, .int .u64 x2] h R :=
  calls_of_den' envOk (c := C) (rs := [.tmp 6, .tmp 7]) Tryd.func46 (by kernel_rfl) (by kernel_rfl) (by kernel_rfl) (args := [.int .u64 x0, .int .u64 x1, .int .u64 x2]) (by kernel_rfl) (D1.ok R _ h (gInt_intro rfl (gInt_intro rfl (gInt_intro rfl (g)))))
end bits_Div64

namespace nat_told
noncomputable def C : Code := bodyOf Tryd.f47
def D1.t (R : Rt) (a0 : Option Addr) (l0 : Nat) (c0 : Nat) (h : Hp) : Prop :=
  HC nat_trim.id #[.slice a0 l0 c0] h fun v1 h2 =>
  gSlice v1 fun a_3 l_3 c_3 =>
  cond (decide ((((l_3 : Nat) : Int)) > 8192)) (R (.tuple #[.slice none 0 0, .int .i64 5]) h2) (R (.tuple #[.slice a_3 l_3 c_3, .int .i64 0]) h2)
def D1.g (R : Rt) (fr : Fr) (h : Hp) : Prop := gSlice (fr 0) fun a0 l0 c0 => D1.t R a0 l0 c0 h
theorem D1.ok (R : Rt) (fr : Fr) (h : Hp) (g : D1.g R fr h) : den prog E C (retQ E [.tmp 2, .tmp 3] R) fr h := by
  obtain ⟨a0, l0, c0, e0, g⟩ := gSlice_elim g
  exact den_enter [(0, .slice a0 l0 c0)] ⟨e0, trivial⟩ (by kernel_rfl) g
def t (a0 : Option Addr) (l0 : Nat) (c0 : Nat) (h : Hp) (R : Rt) : Prop := D1.t R a0 l0 c0 h
theorem ok {a0 : Option Addr} {l0 : Nat} {c0 : Nat} {h : Hp} {R : Rt} (g : t a0 l0 c0 h R) : HC id #[.slice a0 l0 c0] h R :=
  calls_of_den' envOk (c := C) (rs := [.tmp 2, .tmp 3]) Tryd.func47 (by kernel_rfl) (by kernel_rfl) (by kernel_rfl) (args := [.slice a0 l0 c0]) (by kernel_rfl) (D1.ok R _ h (gSlice_intro rfl (g)))
end nat_told

namespace bits_Len64
noncomputable def C : Code := bodyOf Tryd.f48
def D4.t (R : Rt) (x0 : Int) (x2 : Int) (h : Hp) : Prop :=
  letK (IntKind.u8.wrap x0) fun n6 =>
  idxS (⟨#[0, 1, 2, 2, 3, 3, 3, 3, 4, 4, 4, 4, 4, 4, 4, 4, 5, 5, 5, 5, 5, 5, 5, 5, 5, 5, 5, 5, 5, 5, 5, 5, 6, 6, 6, 6, 6, 6, 6, 6, 6, 6, 6, 6, 6, 6, 6, 6, 6, 6, 6, 6, 6, 6, 6, 6, 6, 6, 6, 6, 6, 6, 6, 6, 7, 7, 7, 7, 7, 7, 7, 7, 7, 7, 7, 7, 7, 7, 7, 7, 7, 7, 7, 7, 7, 7, 7, 7, 7, 7, 7, 7, 7, 7, 7, 7, 7, 7, 7, 7, 7, 7, 7, 7, 7, 7, 7, 7, 7, 7, 7, 7, 7, 7, 7, 7, 7, 7, 7, 7, 7, 7, 7, 7, 7, 7, 7, 7, 8, 8, 8, 8, 8, 8, 8, 8, 8, 8, 8, 8, 8, 8, 8, 8, 8, 8, 8, 8, 8, 8, 8, 8, 8, 8, 8, 8, 8, 8, 8, 8, 8, 8, 8, 8, 8, 8, 8, 8, 8, 8, 8, 8, 8, 8, 8, 8, 8, 8, 8, 8, 8, 8, 8, 8, 8, 8, 8, 8, 8, 8, 8, 8, 8, 8, 8, 8, 8, 8, 8, 8, 8, 8, 8, 8, 8, 8, 8, 8, 8, 8, 8, 8, 8, 8, 8, 8, 8, 8, 8, 8, 8, 8, 8, 8, 8, 8, 8, 8, 8, 8, 8, 8, 8, 8, 8, 8, 8, 8, 8, 8, 8, 8, 8, 8, 8, 8, 8, 8, 8, 8, 8, 8, 8, 8, 8, 8]⟩ : ByteArray) n6 fun n7 =>
  letK (IntKind.i64.wrap n7) fun n8 =>
  letK (IntKind.i64.wrap (x2 + n8)) fun n9 =>
  R (.int .i64 n9) h
def D4.g (R : Rt) (fr : Fr) (h : Hp) : Prop := gInt .u64 (fr 0) fun x0 => gInt .i64 (fr 2) fun x2 => D4.t R x0 x2 h
theorem D4.ok (R : Rt) (fr : Fr) (h : Hp) (g : D4.g R fr h) : den prog E (cAt C [true, true, true, true]) (retQ E [.tmp 2] R) fr h := by
  obtain ⟨x0, e0, g⟩ := gInt_elim g
  obtain ⟨x2, e2, g⟩ := gInt_elim g
  exact den_enter [(0, .int .u64 x0), (2, .int .i64 x2)] ⟨e0, e2, trivial⟩ (by kernel_rfl) g
def D3.t (R : Rt) (x0 : Int) (x2 : Int) (h : Hp) : Prop :=
  cond (decide (x0 ≥ 256)) (0 ≤ (8 : Int) ∧ letK (shrI .u64 x0 8) fun n4 =>
  letK (IntKind.i64.wrap (x2 + 8)) fun n5 =>
  D4.t R n4 n5 h) (D4.t R x0 x2 h)
def D3.g (R : Rt) (fr : Fr) (h : Hp) : Prop := gInt .u64 (fr 0) fun x0 => gInt .i64 (fr 2) fun x2 => D3.t R x0 x2 h
theorem D3.ok (R : Rt) (fr : Fr) (h : Hp) (g : D3.g R fr h) : den prog E (cAt C [true, true, true]) (retQ E [.tmp 2] R) fr h := by
  obtain ⟨x0, e0, g⟩ := gInt_elim g
  obtain ⟨x2, e2, g⟩ := gInt_elim g
  exact den_cut 1 (r := (cAt C [true, true, true, true])) (by kernel_rfl) (D4.ok R) (den_enter [(0, .int .u64 x0), (2, .int .i64 x2)] ⟨e0, e2, trivial⟩ (by kernel_rfl) g)
def D2.t (R : Rt) (x0 : Int) (x2 : Int) (h : Hp) : Prop :=
  cond (decide (x0 ≥ 65536)) (0 ≤ (16 : Int) ∧ letK (shrI .u64 x0 16) fun n2 =>
  letK (IntKind.i64.wrap (x2 + 16)) fun n3 =>
  D3.t R n2 n3 h) (D3.t R x0 x2 h)
def D2.g (R : Rt) (fr : Fr) (h : Hp) : Prop := gInt .u64 (fr 0) fun x0 => gInt .i64 (fr 2) fun x2 => D2.t R x0 x2 h
theorem D2.ok (R : Rt) (fr : Fr) (h : Hp) (g : D2.g R fr h) : den prog E (cAt C [true, true]) (retQ E [.tmp 2] R) fr h := by
  obtain ⟨x0, e0, g⟩ := gInt_elim g
  obtain ⟨x2, e2, g⟩ := gInt_elim g
  exact den_cut 1 (r := (cAt C [true, true, true])) (by kernel_rfl) (D3.ok R) (den_enter [(0, .int .u64 x0), (2, .int .i64 x2)] ⟨e0, e2, trivial⟩ (by kernel_rfl) g)
def D1.t (R : Rt) (x0 : Int) (h : Hp) : Prop :=
  cond (decide (x0 ≥ 4294967296)) (0 ≤ (32 : Int) ∧ letK (shrI .u64 x0 32) fun n1 =>
  D2.t R n1 32 h) (D2.t R x0 0 h)
def D1.g (R : Rt) (fr : Fr) (h : Hp) : Prop := gInt .u64 (fr 0) fun x0 => D1.t R x0 h
theorem D1.ok (R : Rt) (fr : Fr) (h : Hp) (g : D1.g R fr h) : den prog E C (retQ E [.tmp 2] R) fr h := by
  obtain ⟨x0, e0, g⟩ := gInt_elim g
  exact den_cut 2 (r := (cAt C [true, true])) (by kernel_rfl) (D2.ok R) (den_enter [(0, .int .u64 x0)] ⟨e0, trivial⟩ (by kernel_rfl) g)
def t (x0 : Int) (h : Hp) (R : Rt) : Prop := D1.t R x0 h
theorem ok {x0 : Int} {h : Hp} {R : Rt} (g : t x0 h R) : HC id #[.int .u64 x0] h R :=
  calls_of_den' envOk (c := C) (rs := [.tmp 2]) Tryd.func48 (by kernel_rfl) (by kernel_rfl) (by kernel_rfl) (args := [.int .u64 x0]) (by kernel_rfl) (D1.ok R _ h (gInt_intro rfl (g)))
end bits_Len64

namespace natdiv_trial
noncomputable def C : Code := bodyOf Tryd.f49
def D1.t (R : Rt) (x0 : Int) (x1 : Int) (x2 : Int) (h : Hp) : Prop :=
  cond (decide (x0 ≥ x2)) (R (.int .u64 18446744073709551615) h) (HC bits_Div64.id #[.int .u64 x0, .int .u64 x1, .int .u64 x2] h fun v1 h2 =>
  gTup v1 fun y3 =>
  uncons y3 fun v4 y4 =>
  gInt .u64 v4 fun x_5 =>
  uncons y4 fun v6 y6 =>
  gInt .u64 v6 fun x_7 =>
  unnil y6 <| R (.int .u64 x_5) h2)
def D1.g (R : Rt) (fr : Fr) (h : Hp) : Prop := gInt .u64 (fr 0) fun x0 => gInt .u64 (fr 1) fun x1 => gInt .u64 (fr 2) fun x2 => D1.t R x0 x1 x2 h
theorem D1.ok (R : Rt) (fr : Fr) (h : Hp) (g : D1.g R fr h) : den prog E C (retQ E [.tmp 6] R) fr h := by
  obtain ⟨x0, e0, g⟩ := gInt_elim g
  obtain ⟨x1, e1, g⟩ := gInt_elim g
  obtain ⟨x2, e2, g⟩ := gInt_elim g
  exact den_enter [(0, .int .u64 x0), (1, .int .u64 x1), (2, .int .u64 x2)] ⟨e0, e1, e2, trivial⟩ (by kernel_rfl) g
def t (x0 : Int) (x1 : Int) (x2 : Int) (h : Hp) (R : Rt) : Prop := D1.t R x0 x1 x2 h
theorem ok {x0 : Int} {x1 : Int} {x2 : Int} {h : Hp} {R : Rt} (g : t x0 x1 x2 h R) : HC id #[.int .u64 x0, .int .u64 x1, .int .u64 x2] h R :=
  calls_of_den' envOk (c := C) (rs := [.tmp 6]) Tryd.func49 (by kernel_rfl) (by kernel_rfl) (by kernel_rfl) (args := [.int .u64 x0, .int .u64 x1, .int .u64 x2]) (by kernel_rfl) (D1.ok R _ h (gInt_intro rfl (gInt_intro rfl (gInt_intro rfl (g)))))
end natdiv_trial

namespace natdiv_takeMul
noncomputable def C : Code := bodyOf Tryd.f50
def D2.t (R : Rt) (a0 : Option Addr) (l0 : Nat) (c0 : Nat) (a1 : Option Addr) (l1 : Nat) (c1 : Nat) (x7 : Int) (x8 : Int) (h : Hp) : Prop :=
  idxK a0 l0 (((l1 : Nat) : Int)) 1 fun q1 =>
  ldK h q1 fun v2 =>
  gInt .u64 v2 fun x_3 =>
  subK x_3 x7 x8 fun n4 m4 =>
  idxK a0 l0 (((l1 : Nat) : Int)) 1 fun q5 =>
  stK h q5 (.int .u64 n4) fun h6 =>
  R (.int .u64 m4) h6
def D2.g (R : Rt) (fr : Fr) (h : Hp) : Prop := gSlice (fr 0) fun a0 l0 c0 => gSlice (fr 1) fun a1 l1 c1 => gInt .u64 (fr 7) fun x7 => gInt .u64 (fr 8) fun x8 => D2.t R a0 l0 c0 a1 l1 c1 x7 x8 h
theorem D2.ok (R : Rt) (fr : Fr) (h : Hp) (g : D2.g R fr h) : den prog E (cAt C [true, true, true]) (retQ E [.tmp 6] R) fr h := by
  obtain ⟨a0, l0, c0, e0, g⟩ := gSlice_elim g
  obtain ⟨a1, l1, c1, e1, g⟩ := gSlice_elim g
  obtain ⟨x7, e7, g⟩ := gInt_elim g
  obtain ⟨x8, e8, g⟩ := gInt_elim g
  exact den_enter [(0, .slice a0 l0 c0), (1, .slice a1 l1 c1), (7, .int .u64 x7), (8, .int .u64 x8)] ⟨e0, e1, e7, e8, trivial⟩ (by kernel_rfl) g
def L4.g (N : Option Addr → Nat → Nat → Option Addr → Nat → Nat → Int → Int → Int → Int → Int → Hp → Prop) (fr : Fr) (h : Hp) : Prop := gSlice (fr 0) fun a0 l0 c0 => gSlice (fr 1) fun a1 l1 c1 => gInt .u64 (fr 2) fun x2 => gInt .u64 (fr 7) fun x7 => gInt .u64 (fr 8) fun x8 => gInt .i64 (fr 14) fun x14 => gInt .i64 (fr 15) fun x15 => N a0 l0 c0 a1 l1 c1 x2 x7 x8 x14 x15 h
def D5.t (R : Rt) (N4 : Option Addr → Nat → Nat → Option Addr → Nat → Nat → Int → Int → Int → Int → Int → Hp → Prop) (a0 : Option Addr) (l0 : Nat) (c0 : Nat) (a1 : Option Addr) (l1 : Nat) (c1 : Nat) (x2 : Int) (x7 : Int) (x8 : Int) (x14 : Int) (x15 : Int) (h : Hp) : Prop :=
  cond (decide (x15 < x14)) (idxK a1 l1 x15 1 fun q7 =>
  ldK h q7 fun v8 =>
  gInt .u64 v8 fun x_9 =>
  HC bits_Mul64.id #[.int .u64 x_9, .int .u64 x2] h fun v10 h11 =>
  gTup v10 fun y12 =>
  uncons y12 fun v13 y13 =>
  gInt .u64 v13 fun x_14 =>
  uncons y13 fun v15 y15 =>
  gInt .u64 v15 fun x_16 =>
  unnil y15 <| addK x_16 x7 0 fun n17 m17 =>
  letK (IntKind.u64.wrap (x_14 + m17)) fun n18 =>
  idxK a0 l0 x15 1 fun q19 =>
  ldK h11 q19 fun v20 =>
  gInt .u64 v20 fun x_21 =>
  subK x_21 n17 x8 fun n22 m22 =>
  idxK a0 l0 x15 1 fun q23 =>
  stK h11 q23 (.int .u64 n22) fun h24 =>
  letK (IntKind.i64.wrap (x15 + 1)) fun n25 =>
  N4 a0 l0 c0 a1 l1 c1 x2 n18 m22 x14 n25 h24) (D2.t R a0 l0 c0 a1 l1 c1 x7 x8 h)
def D5.g (R : Rt) (N4 : Option Addr → Nat → Nat → Option Addr → Nat → Nat → Int → Int → Int → Int → Int → Hp → Prop) (fr : Fr) (h : Hp) : Prop := gSlice (fr 0) fun a0 l0 c0 => gSlice (fr 1) fun a1 l1 c1 => gInt .u64 (fr 2) fun x2 => gInt .u64 (fr 7) fun x7 => gInt .u64 (fr 8) fun x8 => gInt .i64 (fr 14) fun x14 => gInt .i64 (fr 15) fun x15 => D5.t R N4 a0 l0 c0 a1 l1 c1 x2 x7 x8 x14 x15 h
theorem D5.ok (R : Rt) (N4 : Option Addr → Nat → Nat → Option Addr → Nat → Nat → Int → Int → Int → Int → Int → Hp → Prop) (fr : Fr) (h : Hp) (g : D5.g R N4 fr h) : den prog E (cAt C [true, true, false, true, false, false]) (Ex.then (L4.g N4) (Ex.inBlock 0 (Ex.then (D2.g R) (retQ E [.tmp 6] R)))) fr h := by
  obtain ⟨a0, l0, c0, e0, g⟩ := gSlice_elim g
  obtain ⟨a1, l1, c1, e1, g⟩ := gSlice_elim g
  obtain ⟨x2, e2, g⟩ := gInt_elim g
  obtain ⟨x7, e7, g⟩ := gInt_elim g
  obtain ⟨x8, e8, g⟩ := gInt_elim g
  obtain ⟨x14, e14, g⟩ := gInt_elim g
  obtain ⟨x15, e15, g⟩ := gInt_elim g
  exact den_enter [(0, .slice a0 l0 c0), (1, .slice a1 l1 c1), (2, .int .u64 x2), (7, .int .u64 x7), (8, .int .u64 x8), (14, .int .i64 x14), (15, .int .i64 x15)] ⟨e0, e1, e2, e7, e8, e14, e15, trivial⟩ (by kernel_rfl) g
def L4.t (R : Rt) : Nat → Option Addr → Nat → Nat → Option Addr → Nat → Nat → Int → Int → Int → Int → Int → Hp → Prop
  | 0 => fun _ _ _ _ _ _ _ _ _ _ _ _ => False
  | n + 1 => fun a0 l0 c0 a1 l1 c1 x2 x7 x8 x14 x15 h => D5.t R (L4.t R n) a0 l0 c0 a1 l1 c1 x2 x7 x8 x14 x15 h
theorem L4.ok (R : Rt) (fr : Fr) (h : Hp) (g : L4.g (fun a0 l0 c0 a1 l1 c1 x2 x7 x8 x14 x15 h => ∃ n, L4.t R n a0 l0 c0 a1 l1 c1 x2 x7 x8 x14 x15 h) fr h) : den prog E (cAt C [true, true, false, true, false]) (Ex.inBlock 0 (Ex.then (D2.g R) (retQ E [.tmp 6] R))) fr h := by
  obtain ⟨a0, l0, c0, e0, g⟩ := gSlice_elim g
  obtain ⟨a1, l1, c1, e1, g⟩ := gSlice_elim g
  obtain ⟨x2, e2, g⟩ := gInt_elim g
  obtain ⟨x7, e7, g⟩ := gInt_elim g
  obtain ⟨x8, e8, g⟩ := gInt_elim g
  obtain ⟨x14, e14, g⟩ := gInt_elim g
  obtain ⟨x15, e15, g⟩ := gInt_elim g
  obtain ⟨n, g⟩ := g
  refine loop_ok (fun n => L4.g (L4.t R n)) (b := (cAt C [true, true, false, true, false, false])) (by kernel_rfl) (fun fr h g => ?_) (fun n => D5.ok R (L4.t R n)) n fr h (gSlice_intro e0 (gSlice_intro e1 (gInt_intro e2 (gInt_intro e7 (gInt_intro e8 (gInt_intro e14 (gInt_intro e15 (g))))))))
  obtain ⟨a0, l0, c0, e0, g⟩ := gSlice_elim g
  obtain ⟨a1, l1, c1, e1, g⟩ := gSlice_elim g
  obtain ⟨x2, e2, g⟩ := gInt_elim g
  obtain ⟨x7, e7, g⟩ := gInt_elim g
  obtain ⟨x8, e8, g⟩ := gInt_elim g
  obtain ⟨x14, e14, g⟩ := gInt_elim g
  obtain ⟨x15, e15, g⟩ := gInt_elim g
  exact g
theorem B6.ok (R : Rt) (fr : Fr) (h : Hp) (g : L4.g (fun a0 l0 c0 a1 l1 c1 x2 x7 x8 x14 x15 h => ∃ n, L4.t R n a0 l0 c0 a1 l1 c1 x2 x7 x8 x14 x15 h) fr h) : den prog E (cAt C [true, true, false, true]) (Ex.then (D2.g R) (retQ E [.tmp 6] R)) fr h :=
  den_block (by kernel_rfl) (L4.ok R fr h g)
def D3.t (R : Rt) (a0 : Option Addr) (l0 : Nat) (c0 : Nat) (a1 : Option Addr) (l1 : Nat) (c1 : Nat) (x2 : Int) (x7 : Int) (x8 : Int) (h : Hp) : Prop :=
  (∃ n, L4.t R n a0 l0 c0 a1 l1 c1 x2 x7 x8 (((l1 : Nat) : Int)) 0 h)
def D3.g (R : Rt) (fr : Fr) (h : Hp) : Prop := gSlice (fr 0) fun a0 l0 c0 => gSlice (fr 1) fun a1 l1 c1 => gInt .u64 (fr 2) fun x2 => gInt .u64 (fr 7) fun x7 => gInt .u64 (fr 8) fun x8 => D3.t R a0 l0 c0 a1 l1 c1 x2 x7 x8 h
theorem D3.ok (R : Rt) (fr : Fr) (h : Hp) (g : D3.g R fr h) : den prog E (cAt C [true, true, false]) (Ex.then (D2.g R) (retQ E [.tmp 6] R)) fr h := by
  obtain ⟨a0, l0, c0, e0, g⟩ := gSlice_elim g
  obtain ⟨a1, l1, c1, e1, g⟩ := gSlice_elim g
  obtain ⟨x2, e2, g⟩ := gInt_elim g
  obtain ⟨x7, e7, g⟩ := gInt_elim g
  obtain ⟨x8, e8, g⟩ := gInt_elim g
  exact den_cut 1 (r := (cAt C [true, true, false, true])) (by kernel_rfl) (B6.ok R) (den_enter [(0, .slice a0 l0 c0), (1, .slice a1 l1 c1), (2, .int .u64 x2), (7, .int .u64 x7), (8, .int .u64 x8)] ⟨e0, e1, e2, e7, e8, trivial⟩ (by kernel_rfl) g)
theorem W7.ok (R : Rt) (fr : Fr) (h : Hp) (g : D3.g R fr h) : den prog E (cAt C [true, true]) (retQ E [.tmp 6] R) fr h :=
  den_then (by kernel_rfl) (D2.ok R) (D3.ok R fr h g)
def D1.t (R : Rt) (a0 : Option Addr) (l0 : Nat) (c0 : Nat) (a1 : Option Addr) (l1 : Nat) (c1 : Nat) (x2 : Int) (h : Hp) : Prop :=
  D3.t R a0 l0 c0 a1 l1 c1 x2 0 0 h
def D1.g (R : Rt) (fr : Fr) (h : Hp) : Prop := gSlice (fr 0) fun a0 l0 c0 => gSlice (fr 1) fun a1 l1 c1 => gInt .u64 (fr 2) fun x2 => D1.t R a0 l0 c0 a1 l1 c1 x2 h
theorem D1.ok (R : Rt) (fr : Fr) (h : Hp) (g : D1.g R fr h) : den prog E C (retQ E [.tmp 6] R) fr h := by
  obtain ⟨a0, l0, c0, e0, g⟩ := gSlice_elim g
  obtain ⟨a1, l1, c1, e1, g⟩ := gSlice_elim g
  obtain ⟨x2, e2, g⟩ := gInt_elim g
  exact den_cut 2 (r := (cAt C [true, true])) (by kernel_rfl) (W7.ok R) (den_enter [(0, .slice a0 l0 c0), (1, .slice a1 l1 c1), (2, .int .u64 x2)] ⟨e0, e1, e2, trivial⟩ (by kernel_rfl) g)
def t (a0 : Option Addr) (l0 : Nat) (c0 : Nat) (a1 : Option Addr) (l1 : Nat) (c1 : Nat) (x2 : Int) (h : Hp) (R : Rt) : Prop := D1.t R a0 l0 c0 a1 l1 c1 x2 h
theorem ok {a0 : Option Addr} {l0 : Nat} {c0 : Nat} {a1 : Option Addr} {l1 : Nat} {c1 : Nat} {x2 : Int} {h : Hp} {R : Rt} (g : t a0 l0 c0 a1 l1 c1 x2 h R) : HC id #[.slice a0 l0 c0, .slice a1 l1 c1, .int .u64 x2] h R :=
  calls_of_den' envOk (c := C) (rs := [.tmp 6]) Tryd.func50 (by kernel_rfl) (by kernel_rfl) (by kernel_rfl) (args := [.slice a0 l0 c0, .slice a1 l1 c1, .int .u64 x2]) (by kernel_rfl) (D1.ok R _ h (gSlice_intro rfl (gSlice_intro rfl (gInt_intro rfl (g)))))
end natdiv_takeMul

namespace natdiv_giveBack
noncomputable def C : Code := bodyOf Tryd.f51
def D2.t (R : Rt) (a0 : Option Addr) (l0 : Nat) (c0 : Nat) (a1 : Option Addr) (l1 : Nat) (c1 : Nat) (x5 : Int) (h : Hp) : Prop :=
  idxK a0 l0 (((l1 : Nat) : Int)) 1 fun q1 =>
  ldK h q1 fun v2 =>
  gInt .u64 v2 fun x_3 =>
  addK x_3 0 x5 fun n4 m4 =>
  idxK a0 l0 (((l1 : Nat) : Int)) 1 fun q5 =>
  stK h q5 (.int .u64 n4) fun h6 =>
  R (.int .u64 m4) h6
def D2.g (R : Rt) (fr : Fr) (h : Hp) : Prop := gSlice (fr 0) fun a0 l0 c0 => gSlice (fr 1) fun a1 l1 c1 => gInt .u64 (fr 5) fun x5 => D2.t R a0 l0 c0 a1 l1 c1 x5 h
theorem D2.ok (R : Rt) (fr : Fr) (h : Hp) (g : D2.g R fr h) : den prog E (cAt C [true, true, true]) (retQ E [.tmp 4] R) fr h := by
  obtain ⟨a0, l0, c0, e0, g⟩ := gSlice_elim g
  obtain ⟨a1, l1, c1, e1, g⟩ := gSlice_elim g
  obtain ⟨x5, e5, g⟩ := gInt_elim g
  exact den_enter [(0, .slice a0 l0 c0), (1, .slice a1 l1 c1), (5, .int .u64 x5)] ⟨e0, e1, e5, trivial⟩ (by kernel_rfl) g
def L4.g (N : Option Addr → Nat → Nat → Option Addr → Nat → Nat → Int → Int → Int → Hp → Prop) (fr : Fr) (h : Hp) : Prop := gSlice (fr 0) fun a0 l0 c0 => gSlice (fr 1) fun a1 l1 c1 => gInt .u64 (fr 5) fun x5 => gInt .i64 (fr 8) fun x8 => gInt .i64 (fr 9) fun x9 => N a0 l0 c0 a1 l1 c1 x5 x8 x9 h
def D5.t (R : Rt) (N4 : Option Addr → Nat → Nat → Option Addr → Nat → Nat → Int → Int → Int → Hp → Prop) (a0 : Option Addr) (l0 : Nat) (c0 : Nat) (a1 : Option Addr) (l1 : Nat) (c1 : Nat) (x5 : Int) (x8 : Int) (x9 : Int) (h : Hp) : Prop :=
  cond (decide (x9 < x8)) (idxK a0 l0 x9 1 fun q7 =>
  ldK h q7 fun v8 =>
  gInt .u64 v8 fun x_9 =>
  idxK a1 l1 x9 1 fun q10 =>
  ldK h q10 fun v11 =>
  gInt .u64 v11 fun x_12 =>
  addK x_9 x_12 x5 fun n13 m13 =>
  idxK a0 l0 x9 1 fun q14 =>
  stK h q14 (.int .u64 n13) fun h15 =>
  letK (IntKind.i64.wrap (x9 + 1)) fun n16 =>
  N4 a0 l0 c0 a1 l1 c1 m13 x8 n16 h15) (D2.t R a0 l0 c0 a1 l1 c1 x5 h)
def D5.g (R : Rt) (N4 : Option Addr → Nat → Nat → Option Addr → Nat → Nat → Int → Int → Int → Hp → Prop) (fr : Fr) (h : Hp) : Prop := gSlice (fr 0) fun a0 l0 c0 => gSlice (fr 1) fun a1 l1 c1 => gInt .u64 (fr 5) fun x5 => gInt .i64 (fr 8) fun x8 => gInt .i64 (fr 9) fun x9 => D5.t R N4 a0 l0 c0 a1 l1 c1 x5 x8 x9 h
theorem D5.ok (R : Rt) (N4 : Option Addr → Nat → Nat → Option Addr → Nat → Nat → Int → Int → Int → Hp → Prop) (fr : Fr) (h : Hp) (g : D5.g R N4 fr h) : den prog E (cAt C [true, true, false, true, false, false]) (Ex.then (L4.g N4) (Ex.inBlock 0 (Ex.then (D2.g R) (retQ E [.tmp 4] R)))) fr h := by
  obtain ⟨a0, l0, c0, e0, g⟩ := gSlice_elim g
  obtain ⟨a1, l1, c1, e1, g⟩ := gSlice_elim g
  obtain ⟨x5, e5, g⟩ := gInt_elim g
  obtain ⟨x8, e8, g⟩ := gInt_elim g
  obtain ⟨x9, e9, g⟩ := gInt_elim g
  exact den_enter [(0, .slice a0 l0 c0), (1, .slice a1 l1 c1), (5, .int .u64 x5), (8, .int .i64 x8), (9, .int .i64 x9)] ⟨e0, e1, e5, e8, e9, trivial⟩ (by kernel_rfl) g
def L4.t (R : Rt) : Nat → Option Addr → Nat → Nat → Option Addr → Nat → Nat → Int → Int → Int → Hp → Prop
  | 0 => fun _ _ _ _ _ _ _ _ _ _ => False
  | n + 1 => fun a0 l0 c0 a1 l1 c1 x5 x8 x9 h => D5.t R (L4.t R n) a0 l0 c0 a1 l1 c1 x5 x8 x9 h
theorem L4.ok (R : Rt) (fr : Fr) (h : Hp) (g : L4.g (fun a0 l0 c0 a1 l1 c1 x5 x8 x9 h => ∃ n, L4.t R n a0 l0 c0 a1 l1 c1 x5 x8 x9 h) fr h) : den prog E (cAt C [true, true, false, true, false]) (Ex.inBlock 0 (Ex.then (D2.g R) (retQ E [.tmp 4] R))) fr h := by
  obtain ⟨a0, l0, c0, e0, g⟩ := gSlice_elim g
  obtain ⟨a1, l1, c1, e1, g⟩ := gSlice_elim g
  obtain ⟨x5, e5, g⟩ := gInt_elim g
  obtain ⟨x8, e8, g⟩ := gInt_elim g
  obtain ⟨x9, e9, g⟩ := gInt_elim g
  obtain ⟨n, g⟩ := g
  refine loop_ok (fun n => L4.g (L4.t R n)) (b := (cAt C [true, true, false, true, false, false])) (by kernel_rfl) (fun fr h g => ?_) (fun n => D5.ok R (L4.t R n)) n fr h (gSlice_intro e0 (gSlice_intro e1 (gInt_intro e5 (gInt_intro e8 (gInt_intro e9 (g))))))
  obtain ⟨a0, l0, c0, e0, g⟩ := gSlice_elim g
  obtain ⟨a1, l1, c1, e1, g⟩ := gSlice_elim g
  obtain ⟨x5, e5, g⟩ := gInt_elim g
  obtain ⟨x8, e8, g⟩ := gInt_elim g
  obtain ⟨x9, e9, g⟩ := gInt_elim g
  exact g
theorem B6.ok (R : Rt) (fr : Fr) (h : Hp) (g : L4.g (fun a0 l0 c0 a1 l1 c1 x5 x8 x9 h => ∃ n, L4.t R n a0 l0 c0 a1 l1 c1 x5 x8 x9 h) fr h) : den prog E (cAt C [true, true, false, true]) (Ex.then (D2.g R) (retQ E [.tmp 4] R)) fr h :=
  den_block (by kernel_rfl) (L4.ok R fr h g)
def D3.t (R : Rt) (a0 : Option Addr) (l0 : Nat) (c0 : Nat) (a1 : Option Addr) (l1 : Nat) (c1 : Nat) (x5 : Int) (h : Hp) : Prop :=
  (∃ n, L4.t R n a0 l0 c0 a1 l1 c1 x5 (((l1 : Nat) : Int)) 0 h)
def D3.g (R : Rt) (fr : Fr) (h : Hp) : Prop := gSlice (fr 0) fun a0 l0 c0 => gSlice (fr 1) fun a1 l1 c1 => gInt .u64 (fr 5) fun x5 => D3.t R a0 l0 c0 a1 l1 c1 x5 h
theorem D3.ok (R : Rt) (fr : Fr) (h : Hp) (g : D3.g R fr h) : den prog E (cAt C [true, true, false]) (Ex.then (D2.g R) (retQ E [.tmp 4] R)) fr h := by
  obtain ⟨a0, l0, c0, e0, g⟩ := gSlice_elim g
  obtain ⟨a1, l1, c1, e1, g⟩ := gSlice_elim g
  obtain ⟨x5, e5, g⟩ := gInt_elim g
  exact den_cut 1 (r := (cAt C [true, true, false, true])) (by kernel_rfl) (B6.ok R) (den_enter [(0, .slice a0 l0 c0), (1, .slice a1 l1 c1), (5, .int .u64 x5)] ⟨e0, e1, e5, trivial⟩ (by kernel_rfl) g)
theorem W7.ok (R : Rt) (fr : Fr) (h : Hp) (g : D3.g R fr h) : den prog E (cAt C [true, true]) (retQ E [.tmp 4] R) fr h :=
  den_then (by kernel_rfl) (D2.ok R) (D3.ok R fr h g)
def D1.t (R : Rt) (a0 : Option Addr) (l0 : Nat) (c0 : Nat) (a1 : Option Addr) (l1 : Nat) (c1 : Nat) (h : Hp) : Prop :=
  D3.t R a0 l0 c0 a1 l1 c1 0 h
def D1.g (R : Rt) (fr : Fr) (h : Hp) : Prop := gSlice (fr 0) fun a0 l0 c0 => gSlice (fr 1) fun a1 l1 c1 => D1.t R a0 l0 c0 a1 l1 c1 h
theorem D1.ok (R : Rt) (fr : Fr) (h : Hp) (g : D1.g R fr h) : den prog E C (retQ E [.tmp 4] R) fr h := by
  obtain ⟨a0, l0, c0, e0, g⟩ := gSlice_elim g
  obtain ⟨a1, l1, c1, e1, g⟩ := gSlice_elim g
  exact den_cut 2 (r := (cAt C [true, true])) (by kernel_rfl) (W7.ok R) (den_enter [(0, .slice a0 l0 c0), (1, .slice a1 l1 c1)] ⟨e0, e1, trivial⟩ (by kernel_rfl) g)
def t (a0 : Option Addr) (l0 : Nat) (c0 : Nat) (a1 : Option Addr) (l1 : Nat) (c1 : Nat) (h : Hp) (R : Rt) : Prop := D1.t R a0 l0 c0 a1 l1 c1 h
theorem ok {a0 : Option Addr} {l0 : Nat} {c0 : Nat} {a1 : Option Addr} {l1 : Nat} {c1 : Nat} {h : Hp} {R : Rt} (g : t a0 l0 c0 a1 l1 c1 h R) : HC id #[.slice a0 l0 c0, .slice a1 l1 c1] h R :=
  calls_of_den' envOk (c := C) (rs := [.tmp 4]) Tryd.func51 (by kernel_rfl) (by kernel_rfl) (by kernel_rfl) (args := [.slice a0 l0 c0, .slice a1 l1 c1]) (by kernel_rfl) (D1.ok R _ h (gSlice_intro rfl (gSlice_intro rfl (g))))
end natdiv_giveBack

end Go.Proofs.YtabkkcbpckcfnaaDoor.G
