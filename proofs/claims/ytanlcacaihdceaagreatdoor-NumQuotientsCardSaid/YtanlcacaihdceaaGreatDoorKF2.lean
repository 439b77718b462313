/- Texts of this work, joined: Fp2. -/
import Derived.Test.YtanlcacaihdceaaGreatDoorKE
/- Functions of the translation as predicates over heaps, and that their calls do so. Written by a program of this work. -/
namespace Go.Proofs.YtanlcacaihdceaaGreatDoor.G
open Go.Gv
set_option linter.unusedVariables false
set_option maxRecDepth 100000
namespace gnomonref04_Near
noncomputable def C : Code := bodyOf Tryz.f114
def D1.t (R : Rt) (b0_0 : Bool) (a0_1 : Option Addr) (l0_1 : Nat) (c0_1 : Nat) (b1_0 : Bool) (a1_1 : Option Addr) (l1_1 : Nat) (c1_1 : Nat) (h : Hp) : Prop :=
  boxK h 67 [.bool b0_0, .slice a0_1 l0_1 c0_1] fun q1 h2 =>
  boxK h2 67 [.bool b1_0, .slice a1_1 l1_1 c1_1] fun q3 h4 =>
  boxK h4 67 T67.zs fun q5 h6 =>
  ldK h6 (q1.add 0) fun v7 =>
  gBool v7 fun b_8 =>
  ldK h6 (q1.add 1) fun v9 =>
  gSlice v9 fun a_10 l_10 c_10 =>
  ldK h6 (q3.add 0) fun v11 =>
  gBool v11 fun b_12 =>
  ldK h6 (q3.add 1) fun v13 =>
  gSlice v13 fun a_14 l_14 c_14 =>
  HC gnomonref04_Floor.id #[.agg #[.bool b_8, .slice a_10 l_10 c_10], .agg #[.bool b_12, .slice a_14 l_14 c_14]] h6 fun v15 h16 =>
  gTup v15 fun y17 =>
  uncons y17 fun v18 y18 =>
  gAgg v18 fun y19 =>
  uncons y19 fun v20 y20 =>
  gBool v20 fun b_21 =>
  uncons y20 fun v22 y22 =>
  gSlice v22 fun a_23 l_23 c_23 =>
  unnil y22 <| uncons y18 fun v24 y24 =>
  gAgg v24 fun y25 =>
  uncons y25 fun v26 y26 =>
  gBool v26 fun b_27 =>
  uncons y26 fun v28 y28 =>
  gSlice v28 fun a_29 l_29 c_29 =>
  unnil y28 <| unnil y24 <| boxK h16 67 T67.zs fun q30 h31 =>
  boxK h31 67 T67.zs fun q32 h33 =>
  stK h33 (q30.add 0) (.bool b_21) fun h34 =>
  stK h34 (q30.add 1) (.slice a_23 l_23 c_23) fun h35 =>
  stK h35 (q32.add 0) (.bool b_27) fun h36 =>
  stK h36 (q32.add 1) (.slice a_29 l_29 c_29) fun h37 =>
  q32.block < h37.size ∧ ldK h37 (q32.add 0) fun v38 =>
  gBool v38 fun b_39 =>
  ldK h37 (q32.add 1) fun v40 =>
  gSlice v40 fun a_41 l_41 c_41 =>
  HC gnomonref04_Shl.id #[.agg #[.bool b_39, .slice a_41 l_41 c_41], .int .i64 1] h37 fun v42 h43 =>
  gAgg v42 fun y44 =>
  uncons y44 fun v45 y45 =>
  gBool v45 fun b_46 =>
  uncons y45 fun v47 y47 =>
  gSlice v47 fun a_48 l_48 c_48 =>
  unnil y47 <| (Pre h37.size h37 h43) ∧ q3.block < h37.size ∧ ldK h43 (q3.add 0) fun v49 =>
  gBool v49 fun b_50 =>
  ldK h43 (q3.add 1) fun v51 =>
  gSlice v51 fun a_52 l_52 c_52 =>
  HC gnomonref04_Cmp.id #[.agg #[.bool b_46, .slice a_48 l_48 c_48], .agg #[.bool b_50, .slice a_52 l_52 c_52]] h43 fun v53 h54 =>
  gInt .i64 v53 fun x_55 =>
  (Pre h37.size h43 h54) ∧ cond (decide (x_55 > 0)) (q30.block < h54.size ∧ ldK h54 (q30.add 0) fun v56 =>
  gBool v56 fun b_57 =>
  ldK h54 (q30.add 1) fun v58 =>
  gSlice v58 fun a_59 l_59 c_59 =>
  HC gnomonref04_Of.id #[.int .i64 1] h54 fun v60 h61 =>
  gAgg v60 fun y62 =>
  uncons y62 fun v63 y63 =>
  gBool v63 fun b_64 =>
  uncons y63 fun v65 y65 =>
  gSlice v65 fun a_66 l_66 c_66 =>
  unnil y65 <| (Pre h54.size h54 h61) ∧ HC gnomonref04_Add.id #[.agg #[.bool b_57, .slice a_59 l_59 c_59], .agg #[.bool b_64, .slice a_66 l_66 c_66]] h61 fun v67 h68 =>
  gAgg v67 fun y69 =>
  uncons y69 fun v70 y70 =>
  gBool v70 fun b_71 =>
  uncons y70 fun v72 y72 =>
  gSlice v72 fun a_73 l_73 c_73 =>
  unnil y72 <| (Pre h54.size h61 h68) ∧ stK h68 (q5.add 0) (.bool b_71) fun h74 =>
  stK h74 (q5.add 1) (.slice a_73 l_73 c_73) fun h75 =>
  ldK h75 (q5.add 0) fun v76 =>
  gBool v76 fun b_77 =>
  ldK h75 (q5.add 1) fun v78 =>
  gSlice v78 fun a_79 l_79 c_79 =>
  R (.agg #[.bool b_77, .slice a_79 l_79 c_79]) h75) (cond (x_55 == 0) (ldK h54 (q30.add 0) fun v80 =>
  gBool v80 fun b_81 =>
  ldK h54 (q30.add 1) fun v82 =>
  gSlice v82 fun a_83 l_83 c_83 =>
  HC gnomonref04_Even.id #[.agg #[.bool b_81, .slice a_83 l_83 c_83]] h54 fun v84 h85 =>
  gBool v84 fun b_86 =>
  cond (!b_86) (q30.block < h85.size ∧ ldK h85 (q30.add 0) fun v87 =>
  gBool v87 fun b_88 =>
  ldK h85 (q30.add 1) fun v89 =>
  gSlice v89 fun a_90 l_90 c_90 =>
  HC gnomonref04_Of.id #[.int .i64 1] h85 fun v91 h92 =>
  gAgg v91 fun y93 =>
  uncons y93 fun v94 y94 =>
  gBool v94 fun b_95 =>
  uncons y94 fun v96 y96 =>
  gSlice v96 fun a_97 l_97 c_97 =>
  unnil y96 <| (Pre h85.size h85 h92) ∧ HC gnomonref04_Add.id #[.agg #[.bool b_88, .slice a_90 l_90 c_90], .agg #[.bool b_95, .slice a_97 l_97 c_97]] h92 fun v98 h99 =>
  gAgg v98 fun y100 =>
  uncons y100 fun v101 y101 =>
  gBool v101 fun b_102 =>
  uncons y101 fun v103 y103 =>
  gSlice v103 fun a_104 l_104 c_104 =>
  unnil y103 <| (Pre h85.size h92 h99) ∧ stK h99 (q5.add 0) (.bool b_102) fun h105 =>
  stK h105 (q5.add 1) (.slice a_104 l_104 c_104) fun h106 =>
  ldK h106 (q5.add 0) fun v107 =>
  gBool v107 fun b_108 =>
  ldK h106 (q5.add 1) fun v109 =>
  gSlice v109 fun a_110 l_110 c_110 =>
  R (.agg #[.bool b_108, .slice a_110 l_110 c_110]) h106) (ldK h85 (q30.add 0) fun v111 =>
  gBool v111 fun b_112 =>
  ldK h85 (q30.add 1) fun v113 =>
  gSlice v113 fun a_114 l_114 c_114 =>
  stK h85 (q5.add 0) (.bool b_112) fun h115 =>
  stK h115 (q5.add 1) (.slice a_114 l_114 c_114) fun h116 =>
  ldK h116 (q5.add 0) fun v117 =>
  gBool v117 fun b_118 =>
  ldK h116 (q5.add 1) fun v119 =>
  gSlice v119 fun a_120 l_120 c_120 =>
  R (.agg #[.bool b_118, .slice a_120 l_120 c_120]) h116)) (ldK h54 (q30.add 0) fun v121 =>
  gBool v121 fun b_122 =>
  ldK h54 (q30.add 1) fun v123 =>
  gSlice v123 fun a_124 l_124 c_124 =>
  stK h54 (q5.add 0) (.bool b_122) fun h125 =>
  stK h125 (q5.add 1) (.slice a_124 l_124 c_124) fun h126 =>
  ldK h126 (q5.add 0) fun v127 =>
  gBool v127 fun b_128 =>
  ldK h126 (q5.add 1) fun v129 =>
  gSlice v129 fun a_130 l_130 c_130 =>
  R (.agg #[.bool b_128, .slice a_130 l_130 c_130]) h126))
def D1.g (R : Rt) (fr : Fr) (h : Hp) : Prop := gAgg (fr 0) fun z0 => uncons z0 fun w0_0 z0_0 => gBool w0_0 fun b0_0 => uncons z0_0 fun w0_1 z0_1 => gSlice w0_1 fun a0_1 l0_1 c0_1 => unnil z0_1 <| gAgg (fr 1) fun z1 => uncons z1 fun w1_0 z1_0 => gBool w1_0 fun b1_0 => uncons z1_0 fun w1_1 z1_1 => gSlice w1_1 fun a1_1 l1_1 c1_1 => unnil z1_1 <| D1.t R b0_0 a0_1 l0_1 c0_1 b1_0 a1_1 l1_1 c1_1 h
theorem D1.ok (R : Rt) (fr : Fr) (h : Hp) (g : D1.g R fr h) : den prog E C (retQ E [.cell 4 67] R) fr h := by
  obtain ⟨z0, e0, g0_0⟩ := gAgg_elim' g
  obtain ⟨w0_0, z0_0, rfl, g0_0x⟩ := uncons_elim g0_0
  obtain ⟨b0_0, rfl, g0_1⟩ := gBool_elim g0_0x
  obtain ⟨w0_1, z0_1, rfl, g0_1x⟩ := uncons_elim g0_1
  obtain ⟨a0_1, l0_1, c0_1, rfl, g0_2⟩ := gSlice_elim g0_1x
  obtain ⟨rfl, g⟩ := unnil_elim g0_2
  obtain ⟨z1, e1, g1_0⟩ := gAgg_elim' g
  obtain ⟨w1_0, z1_0, rfl, g1_0x⟩ := uncons_elim g1_0
  obtain ⟨b1_0, rfl, g1_1⟩ := gBool_elim g1_0x
  obtain ⟨w1_1, z1_1, rfl, g1_1x⟩ := uncons_elim g1_1
  obtain ⟨a1_1, l1_1, c1_1, rfl, g1_2⟩ := gSlice_elim g1_1x
  obtain ⟨rfl, g⟩ := unnil_elim g1_2
  exact den_enter [(0, .agg #[.bool b0_0, .slice a0_1 l0_1 c0_1]), (1, .agg #[.bool b1_0, .slice a1_1 l1_1 c1_1])] ⟨e0, e1, trivial⟩ (by kernel_rfl) g
def t (b0_0 : Bool) (a0_1 : Option Addr) (l0_1 : Nat) (c0_1 : Nat) (b1_0 : Bool) (a1_1 : Option Addr) (l1_1 : Nat) (c1_1 : Nat) (h : Hp) (R : Rt) : Prop := D1.t R b0_0 a0_1 l0_1 c0_1 b1_0 a1_1 l1_1 c1_1 h
theorem ok {b0_0 : Bool} {a0_1 : Option Addr} {l0_1 : Nat} {c0_1 : Nat} {b1_0 : Bool} {a1_1 : Option Addr} {l1_1 : Nat} {c1_1 : Nat} {h : Hp} {R : Rt} (g : t b0_0 a0_1 l0_1 c0_1 b1_0 a1_1 l1_1 c1_1 h R) : HC id #[.agg #[.bool b0_0, .slice a0_1 l0_1 c0_1], .agg #[.bool b1_0, .slice a1_1 l1_1 c1_1]] h R :=
  calls_of_den' envOk (c := C) (rs := [.cell 4 67]) Tryz.func114 (by kernel_rfl) (by kernel_rfl) (by kernel_rfl) (args := [.agg #[.bool b0_0, .slice a0_1 l0_1 c0_1], .agg #[.bool b1_0, .slice a1_1 l1_1 c1_1]]) (by kernel_rfl) (D1.ok R _ h (gAgg_intro rfl (uncons_intro (gBool_intro rfl (uncons_intro (gSlice_intro rfl (unnil_intro (gAgg_intro rfl (uncons_intro (gBool_intro rfl (uncons_intro (gSlice_intro rfl (unnil_intro (g))))))))))))))
end gnomonref04_Near

namespace gnomonref01_Shl
noncomputable def C : Code := bodyOf Tryz.f115
def D2.t (R : Rt) (a0 : Option Addr) (l0 : Nat) (c0 : Nat) (x1 : Int) (h : Hp) : Prop :=
  (32 : Int) ≠ 0 ∧ letK (IntKind.i64.wrap (Int.tdiv x1 32)) fun n7 =>
  (32 : Int) ≠ 0 ∧ letK (IntKind.i64.wrap (Int.tdiv x1 32)) fun n8 =>
  letK (IntKind.i64.wrap (n8 + (((l0 : Nat) : Int)))) fun n9 =>
  letK (IntKind.i64.wrap (n9 + 1)) fun n10 =>
  mkK h 108 T108 n7 n10 fun q11 h12 =>
  (32 : Int) ≠ 0 ∧ letK (Int.tmod x1 32) fun n13 =>
  0 ≤ n13 ∧ letK (shlI .u32 1 n13) fun n14 =>
  HC gnomonref01_MulSmall.id #[.slice a0 l0 c0, .int .u32 n14, .int .u32 0] h12 fun v15 h16 =>
  gSlice v15 fun a_17 l_17 c_17 =>
  apK h16 108 T108 (some q11) n7.toNat n10.toNat (.slice a_17 l_17 c_17) fun a_18 l_18 c_18 h18 =>
  HC gnomonref01_Norm.id #[.slice a_18 l_18 c_18] h18 fun v19 h20 =>
  gSlice v19 fun a_21 l_21 c_21 =>
  R (.slice a_21 l_21 c_21) h20
def D2.g (R : Rt) (fr : Fr) (h : Hp) : Prop := gSlice (fr 0) fun a0 l0 c0 => gInt .i64 (fr 1) fun x1 => D2.t R a0 l0 c0 x1 h
theorem D2.ok (R : Rt) (fr : Fr) (h : Hp) (g : D2.g R fr h) : den prog E (cAt C [true, true]) (retQ E [.tmp 4] R) fr h := by
  obtain ⟨a0, l0, c0, e0, g⟩ := gSlice_elim g
  obtain ⟨x1, e1, g⟩ := gInt_elim g
  exact den_enter [(0, .slice a0 l0 c0), (1, .int .i64 x1)] ⟨e0, e1, trivial⟩ (by kernel_rfl) g
def D1.t (R : Rt) (a0 : Option Addr) (l0 : Nat) (c0 : Nat) (x1 : Int) (h : Hp) : Prop :=
  cond (decide (x1 ≤ 0)) (HC gnomonref01_Norm.id #[.slice a0 l0 c0] h fun v1 h2 =>
  gSlice v1 fun a_3 l_3 c_3 =>
  R (.slice a_3 l_3 c_3) h2) (cond ((((l0 : Nat) : Int)) == 0) (HC gnomonref01_Norm.id #[.slice a0 l0 c0] h fun v4 h5 =>
  gSlice v4 fun a_6 l_6 c_6 =>
  R (.slice a_6 l_6 c_6) h5) (D2.t R a0 l0 c0 x1 h))
def D1.g (R : Rt) (fr : Fr) (h : Hp) : Prop := gSlice (fr 0) fun a0 l0 c0 => gInt .i64 (fr 1) fun x1 => D1.t R a0 l0 c0 x1 h
theorem D1.ok (R : Rt) (fr : Fr) (h : Hp) (g : D1.g R fr h) : den prog E C (retQ E [.tmp 4] R) fr h := by
  obtain ⟨a0, l0, c0, e0, g⟩ := gSlice_elim g
  obtain ⟨x1, e1, g⟩ := gInt_elim g
  exact den_cut 2 (r := (cAt C [true, true])) (by kernel_rfl) (D2.ok R) (den_enter [(0, .slice a0 l0 c0), (1, .int .i64 x1)] ⟨e0, e1, trivial⟩ (by kernel_rfl) g)
def t (a0 : Option Addr) (l0 : Nat) (c0 : Nat) (x1 : Int) (h : Hp) (R : Rt) : Prop := D1.t R a0 l0 c0 x1 h
theorem ok {a0 : Option Addr} {l0 : Nat} {c0 : Nat} {x1 : Int} {h : Hp} {R : Rt} (g : t a0 l0 c0 x1 h R) : HC id #[.slice a0 l0 c0, .int .i64 x1] h R :=
  calls_of_den' envOk (c := C) (rs := [.tmp 4]) Tryz.func115 (by kernel_rfl) (by kernel_rfl) (by kernel_rfl) (args := [.slice a0 l0 c0, .int .i64 x1]) (by kernel_rfl) (D1.ok R _ h (gSlice_intro rfl (gInt_intro rfl (g))))
end gnomonref01_Shl

namespace gnomonref01_Shr
noncomputable def C : Code := bodyOf Tryz.f116
def D1.t (R : Rt) (a0 : Option Addr) (l0 : Nat) (c0 : Nat) (x1 : Int) (h : Hp) : Prop :=
  cond (decide (x1 ≤ 0)) (HC gnomonref01_Norm.id #[.slice a0 l0 c0] h fun v1 h2 =>
  gSlice v1 fun a_3 l_3 c_3 =>
  R (.slice a_3 l_3 c_3) h2) ((32 : Int) ≠ 0 ∧ letK (IntKind.i64.wrap (Int.tdiv x1 32)) fun n4 =>
  cond (decide (n4 ≥ (((l0 : Nat) : Int)))) (HC gnomonref01_Word.id #[.int .u64 0] h fun v5 h6 =>
  gSlice v5 fun a_7 l_7 c_7 =>
  R (.slice a_7 l_7 c_7) h6) ((32 : Int) ≠ 0 ∧ letK (IntKind.i64.wrap (Int.tdiv x1 32)) fun n8 =>
  slK 1 a0 l0 c0 (some (.int .i64 n8)) none none fun a_9 l_9 c_9 =>
  (32 : Int) ≠ 0 ∧ letK (Int.tmod x1 32) fun n10 =>
  0 ≤ n10 ∧ letK (shlI .u32 1 n10) fun n11 =>
  HC gnomonref01_DivSmall.id #[.slice a_9 l_9 c_9, .int .u32 n11] h fun v12 h13 =>
  gTup v12 fun y14 =>
  uncons y14 fun v15 y15 =>
  gSlice v15 fun a_16 l_16 c_16 =>
  uncons y15 fun v17 y17 =>
  gInt .u32 v17 fun x_18 =>
  unnil y17 <| R (.slice a_16 l_16 c_16) h13))
def D1.g (R : Rt) (fr : Fr) (h : Hp) : Prop := gSlice (fr 0) fun a0 l0 c0 => gInt .i64 (fr 1) fun x1 => D1.t R a0 l0 c0 x1 h
theorem D1.ok (R : Rt) (fr : Fr) (h : Hp) (g : D1.g R fr h) : den prog E C (retQ E [.tmp 4] R) fr h := by
  obtain ⟨a0, l0, c0, e0, g⟩ := gSlice_elim g
  obtain ⟨x1, e1, g⟩ := gInt_elim g
  exact den_enter [(0, .slice a0 l0 c0), (1, .int .i64 x1)] ⟨e0, e1, trivial⟩ (by kernel_rfl) g
def t (a0 : Option Addr) (l0 : Nat) (c0 : Nat) (x1 : Int) (h : Hp) (R : Rt) : Prop := D1.t R a0 l0 c0 x1 h
theorem ok {a0 : Option Addr} {l0 : Nat} {c0 : Nat} {x1 : Int} {h : Hp} {R : Rt} (g : t a0 l0 c0 x1 h R) : HC id #[.slice a0 l0 c0, .int .i64 x1] h R :=
  calls_of_den' envOk (c := C) (rs := [.tmp 4]) Tryz.func116 (by kernel_rfl) (by kernel_rfl) (by kernel_rfl) (args := [.slice a0 l0 c0, .int .i64 x1]) (by kernel_rfl) (D1.ok R _ h (gSlice_intro rfl (gInt_intro rfl (g))))
end gnomonref01_Shr


namespace gnomonref01_Bits
noncomputable def C : Code := bodyOf Tryz.f118
def D2.t (R : Rt) (x3 : Int) (h : Hp) : Prop :=
  R (.int .i64 x3) h
def D2.g (R : Rt) (fr : Fr) (h : Hp) : Prop := gInt .i64 (fr 3) fun x3 => D2.t R x3 h
theorem D2.ok (R : Rt) (fr : Fr) (h : Hp) (g : D2.g R fr h) : den prog E (cAt C [true, true, true, true]) (retQ E [.tmp 2] R) fr h := by
  obtain ⟨x3, e3, g⟩ := gInt_elim g
  exact den_enter [(3, .int .i64 x3)] ⟨e3, trivial⟩ (by kernel_rfl) g
def L4.g (N : Int → Int → Hp → Prop) (fr : Fr) (h : Hp) : Prop := gInt .i64 (fr 3) fun x3 => gInt .u32 (fr 4) fun x4 => N x3 x4 h
def D5.t (R : Rt) (N4 : Int → Int → Hp → Prop) (x3 : Int) (x4 : Int) (h : Hp) : Prop :=
  cond (decide (x4 > 0)) (letK (IntKind.i64.wrap (x3 + 1)) fun n7 =>
  (2 : Int) ≠ 0 ∧ letK (IntKind.u32.wrap (Int.tdiv x4 2)) fun n8 =>
  N4 n7 n8 h) (D2.t R x3 h)
def D5.g (R : Rt) (N4 : Int → Int → Hp → Prop) (fr : Fr) (h : Hp) : Prop := gInt .i64 (fr 3) fun x3 => gInt .u32 (fr 4) fun x4 => D5.t R N4 x3 x4 h
theorem D5.ok (R : Rt) (N4 : Int → Int → Hp → Prop) (fr : Fr) (h : Hp) (g : D5.g R N4 fr h) : den prog E (cAt C [true, true, true, false, true, false, false]) (Ex.then (L4.g N4) (Ex.inBlock 0 (Ex.then (D2.g R) (retQ E [.tmp 2] R)))) fr h := by
  obtain ⟨x3, e3, g⟩ := gInt_elim g
  obtain ⟨x4, e4, g⟩ := gInt_elim g
  exact den_enter [(3, .int .i64 x3), (4, .int .u32 x4)] ⟨e3, e4, trivial⟩ (by kernel_rfl) g
def L4.t (R : Rt) : Nat → Int → Int → Hp → Prop
  | 0 => fun _ _ _ => False
  | n + 1 => fun x3 x4 h => D5.t R (L4.t R n) x3 x4 h
theorem L4.ok (R : Rt) (fr : Fr) (h : Hp) (g : L4.g (fun x3 x4 h => ∃ n, L4.t R n x3 x4 h) fr h) : den prog E (cAt C [true, true, true, false, true, false]) (Ex.inBlock 0 (Ex.then (D2.g R) (retQ E [.tmp 2] R))) fr h := by
  obtain ⟨x3, e3, g⟩ := gInt_elim g
  obtain ⟨x4, e4, g⟩ := gInt_elim g
  obtain ⟨n, g⟩ := g
  refine loop_ok (fun n => L4.g (L4.t R n)) (b := (cAt C [true, true, true, false, true, false, false])) (by kernel_rfl) (fun fr h g => ?_) (fun n => D5.ok R (L4.t R n)) n fr h (gInt_intro e3 (gInt_intro e4 (g)))
  obtain ⟨x3, e3, g⟩ := gInt_elim g
  obtain ⟨x4, e4, g⟩ := gInt_elim g
  exact g
theorem B6.ok (R : Rt) (fr : Fr) (h : Hp) (g : L4.g (fun x3 x4 h => ∃ n, L4.t R n x3 x4 h) fr h) : den prog E (cAt C [true, true, true, false, true]) (Ex.then (D2.g R) (retQ E [.tmp 2] R)) fr h :=
  den_block (by kernel_rfl) (L4.ok R fr h g)
def D3.t (R : Rt) (a0 : Option Addr) (l0 : Nat) (c0 : Nat) (x3 : Int) (h : Hp) : Prop :=
  letK (IntKind.i64.wrap ((((l0 : Nat) : Int)) - 1)) fun n3 =>
  idxK a0 l0 n3 1 fun q4 =>
  ldK h q4 fun v5 =>
  gInt .u32 v5 fun x_6 =>
  (∃ n, L4.t R n x3 x_6 h)
def D3.g (R : Rt) (fr : Fr) (h : Hp) : Prop := gSlice (fr 0) fun a0 l0 c0 => gInt .i64 (fr 3) fun x3 => D3.t R a0 l0 c0 x3 h
theorem D3.ok (R : Rt) (fr : Fr) (h : Hp) (g : D3.g R fr h) : den prog E (cAt C [true, true, true, false]) (Ex.then (D2.g R) (retQ E [.tmp 2] R)) fr h := by
  obtain ⟨a0, l0, c0, e0, g⟩ := gSlice_elim g
  obtain ⟨x3, e3, g⟩ := gInt_elim g
  exact den_cut 1 (r := (cAt C [true, true, true, false, true])) (by kernel_rfl) (B6.ok R) (den_enter [(0, .slice a0 l0 c0), (3, .int .i64 x3)] ⟨e0, e3, trivial⟩ (by kernel_rfl) g)
theorem W7.ok (R : Rt) (fr : Fr) (h : Hp) (g : D3.g R fr h) : den prog E (cAt C [true, true, true]) (retQ E [.tmp 2] R) fr h :=
  den_then (by kernel_rfl) (D2.ok R) (D3.ok R fr h g)
def D1.t (R : Rt) (a0 : Option Addr) (l0 : Nat) (c0 : Nat) (h : Hp) : Prop :=
  cond ((((l0 : Nat) : Int)) == 0) (R (.int .i64 0) h) (letK (IntKind.i64.wrap ((((l0 : Nat) : Int)) - 1)) fun n1 =>
  letK (IntKind.i64.wrap (32 * n1)) fun n2 =>
  D3.t R a0 l0 c0 n2 h)
def D1.g (R : Rt) (fr : Fr) (h : Hp) : Prop := gSlice (fr 0) fun a0 l0 c0 => D1.t R a0 l0 c0 h
theorem D1.ok (R : Rt) (fr : Fr) (h : Hp) (g : D1.g R fr h) : den prog E C (retQ E [.tmp 2] R) fr h := by
  obtain ⟨a0, l0, c0, e0, g⟩ := gSlice_elim g
  exact den_cut 3 (r := (cAt C [true, true, true])) (by kernel_rfl) (W7.ok R) (den_enter [(0, .slice a0 l0 c0)] ⟨e0, trivial⟩ (by kernel_rfl) g)
def t (a0 : Option Addr) (l0 : Nat) (c0 : Nat) (h : Hp) (R : Rt) : Prop := D1.t R a0 l0 c0 h
theorem ok {a0 : Option Addr} {l0 : Nat} {c0 : Nat} {h : Hp} {R : Rt} (g : t a0 l0 c0 h R) : HC id #[.slice a0 l0 c0] h R :=
  calls_of_den' envOk (c := C) (rs := [.tmp 2]) Tryz.func118 (by kernel_rfl) (by kernel_rfl) (by kernel_rfl) (args := [.slice a0 l0 c0]) (by kernel_rfl) (D1.ok R _ h (gSlice_intro rfl (g)))
end gnomonref01_Bits


namespace bits_Mul64
noncomputable def C : Code := bodyOf Tryz.f120
def D1.t (R : Rt) (x0 : Int) (x1 : Int) (h : Hp) : Prop :=
  letK (andI .u64 x0 4294967295) fun n1 =>
  0 ≤ (32 : Int) ∧ letK (shrI .u64 x0 32) fun n2 =>
  letK (andI .u64 x1 4294967295) fun n3 =>
  0 ≤ (32 : Int) ∧ letK (shrI .u64 x1 32) fun n4 =>
  letK (IntKind.u64.wrap (n1 * n3)) fun n5 =>
  letK (IntKind.u64.wrap (n2 * n3)) fun n6 =>
  0 ≤ (32 : Int) ∧ letK (shrI .u64 n5 32) fun n7 =>
  letK (IntKind.u64.wrap (n6 + n7)) fun n8 =>
  letK (andI .u64 n8 4294967295) fun n9 =>
  0 ≤ (32 : Int) ∧ letK (shrI .u64 n8 32) fun n10 =>
  letK (IntKind.u64.wrap (n1 * n4)) fun n11 =>
  letK (IntKind.u64.wrap (n9 + n11)) fun n12 =>
  letK (IntKind.u64.wrap (n2 * n4)) fun n13 =>
  letK (IntKind.u64.wrap (n13 + n10)) fun n14 =>
  0 ≤ (32 : Int) ∧ letK (shrI .u64 n12 32) fun n15 =>
  letK (IntKind.u64.wrap (n14 + n15)) fun n16 =>
  letK (IntKind.u64.wrap (x0 * x1)) fun n17 =>
  R (.tuple #[.int .u64 n16, .int .u64 n17]) h
def D1.g (R : Rt) (fr : Fr) (h : Hp) : Prop := gInt .u64 (fr 0) fun x0 => gInt .u64 (fr 1) fun x1 => D1.t R x0 x1 h
theorem D1.ok (R : Rt) (fr : Fr) (h : Hp) (g : D1.g R fr h) : den prog E C (retQ E [.tmp 4, .tmp 5] R) fr h := by
  obtain ⟨x0, e0, g⟩ := gInt_elim g
  obtain ⟨x1, e1, g⟩ := gInt_elim g
  exact den_enter [(0, .int .u64 x0), (1, .int .u64 x1)] ⟨e0, e1, trivial⟩ (by kernel_rfl) g
def t (x0 : Int) (x1 : Int) (h : Hp) (R : Rt) : Prop := D1.t R x0 x1 h
theorem ok {x0 : Int} {x1 : Int} {h : Hp} {R : Rt} (g : t x0 x1 h R) : HC id #[.int .u64 x0, .int .u64 x1] h R :=
  calls_of_den' envOk (c := C) (rs := [.tmp 4, .tmp 5]) Tryz.func120 (by kernel_rfl) (by kernel_rfl) (by kernel_rfl) (args := [.int .u64 x0, .int .u64 x1]) (by kernel_rfl) (D1.ok R _ h (gInt_intro rfl (gInt_intro rfl (g))))
end bits_Mul64





namespace gnomonref01_DivMod
noncomputable def C : Code := bodyOf Tryz.f125
def D3.t (R : Rt) (x8 : Int) (a10 : Option Addr) (l10 : Nat) (c10 : Nat) (x11 : Int) (a12 : Option Addr) (l12 : Nat) (c12 : Nat) (h : Hp) : Prop :=
  HC gnomonref01_Norm.id #[.slice a12 l12 c12] h fun v45 h46 =>
  gSlice v45 fun a_47 l_47 c_47 =>
  slK 1 a10 l10 c10 none (some (.int .i64 x11)) none fun a_48 l_48 c_48 =>
  HC gnomonref01_Norm.id #[.slice a_48 l_48 c_48] h46 fun v49 h50 =>
  gSlice v49 fun a_51 l_51 c_51 =>
  HC gnomonref01_Shr.id #[.slice a_51 l_51 c_51, .int .i64 x8] h50 fun v52 h53 =>
  gSlice v52 fun a_54 l_54 c_54 =>
  R (.tuple #[.slice a_47 l_47 c_47, .slice a_54 l_54 c_54]) h53
def D3.g (R : Rt) (fr : Fr) (h : Hp) : Prop := gInt .i64 (fr 8) fun x8 => gSlice (fr 10) fun a10 l10 c10 => gInt .i64 (fr 11) fun x11 => gSlice (fr 12) fun a12 l12 c12 => D3.t R x8 a10 l10 c10 x11 a12 l12 c12 h
theorem D3.ok (R : Rt) (fr : Fr) (h : Hp) (g : D3.g R fr h) : den prog E (cAt C [true, true, true, true, true, true, true, true, true, true, true]) (retQ E [.tmp 4, .tmp 5] R) fr h := by
  obtain ⟨x8, e8, g⟩ := gInt_elim g
  obtain ⟨a10, l10, c10, e10, g⟩ := gSlice_elim g
  obtain ⟨x11, e11, g⟩ := gInt_elim g
  obtain ⟨a12, l12, c12, e12, g⟩ := gSlice_elim g
  exact den_enter [(8, .int .i64 x8), (10, .slice a10 l10 c10), (11, .int .i64 x11), (12, .slice a12 l12 c12)] ⟨e8, e10, e11, e12, trivial⟩ (by kernel_rfl) g
def L5.g (N : Int → Option Addr → Nat → Nat → Option Addr → Nat → Nat → Int → Option Addr → Nat → Nat → Int → Hp → Prop) (fr : Fr) (h : Hp) : Prop := gInt .i64 (fr 8) fun x8 => gSlice (fr 9) fun a9 l9 c9 => gSlice (fr 10) fun a10 l10 c10 => gInt .i64 (fr 11) fun x11 => gSlice (fr 12) fun a12 l12 c12 => gInt .i64 (fr 13) fun x13 => N x8 a9 l9 c9 a10 l10 c10 x11 a12 l12 c12 x13 h
def D6.t (R : Rt) (N5 : Int → Option Addr → Nat → Nat → Option Addr → Nat → Nat → Int → Option Addr → Nat → Nat → Int → Hp → Prop) (x8 : Int) (a9 : Option Addr) (l9 : Nat) (c9 : Nat) (a10 : Option Addr) (l10 : Nat) (c10 : Nat) (x11 : Int) (a12 : Option Addr) (l12 : Nat) (c12 : Nat) (x13 : Int) (h : Hp) : Prop :=
  cond (decide (x13 ≥ 0)) (letK (IntKind.i64.wrap (x13 + x11)) fun n57 =>
  letK (IntKind.i64.wrap (n57 + 1)) fun n58 =>
  slK 1 a10 l10 c10 (some (.int .i64 x13)) (some (.int .i64 n58)) none fun a_59 l_59 c_59 =>
  HC gnomonref01_digit.id #[.slice a_59 l_59 c_59, .slice a9 l9 c9] h fun v60 h61 =>
  gInt .u32 v60 fun x_62 =>
  idxK a12 l12 x13 1 fun q63 =>
  stK h61 q63 (.int .u32 x_62) fun h64 =>
  letK (IntKind.i64.wrap (x13 - 1)) fun n65 =>
  N5 x8 a9 l9 c9 a10 l10 c10 x11 a12 l12 c12 n65 h64) (D3.t R x8 a10 l10 c10 x11 a12 l12 c12 h)
def D6.g (R : Rt) (N5 : Int → Option Addr → Nat → Nat → Option Addr → Nat → Nat → Int → Option Addr → Nat → Nat → Int → Hp → Prop) (fr : Fr) (h : Hp) : Prop := gInt .i64 (fr 8) fun x8 => gSlice (fr 9) fun a9 l9 c9 => gSlice (fr 10) fun a10 l10 c10 => gInt .i64 (fr 11) fun x11 => gSlice (fr 12) fun a12 l12 c12 => gInt .i64 (fr 13) fun x13 => D6.t R N5 x8 a9 l9 c9 a10 l10 c10 x11 a12 l12 c12 x13 h
theorem D6.ok (R : Rt) (N5 : Int → Option Addr → Nat → Nat → Option Addr → Nat → Nat → Int → Option Addr → Nat → Nat → Int → Hp → Prop) (fr : Fr) (h : Hp) (g : D6.g R N5 fr h) : den prog E (cAt C [true, true, true, true, true, true, true, true, true, true, false, true, false, false]) (Ex.then (L5.g N5) (Ex.inBlock 2 (Ex.then (D3.g R) (retQ E [.tmp 4, .tmp 5] R)))) fr h := by
  obtain ⟨x8, e8, g⟩ := gInt_elim g
  obtain ⟨a9, l9, c9, e9, g⟩ := gSlice_elim g
  obtain ⟨a10, l10, c10, e10, g⟩ := gSlice_elim g
  obtain ⟨x11, e11, g⟩ := gInt_elim g
  obtain ⟨a12, l12, c12, e12, g⟩ := gSlice_elim g
  obtain ⟨x13, e13, g⟩ := gInt_elim g
  exact den_enter [(8, .int .i64 x8), (9, .slice a9 l9 c9), (10, .slice a10 l10 c10), (11, .int .i64 x11), (12, .slice a12 l12 c12), (13, .int .i64 x13)] ⟨e8, e9, e10, e11, e12, e13, trivial⟩ (by kernel_rfl) g
def L5.t (R : Rt) : Nat → Int → Option Addr → Nat → Nat → Option Addr → Nat → Nat → Int → Option Addr → Nat → Nat → Int → Hp → Prop
  | 0 => fun _ _ _ _ _ _ _ _ _ _ _ _ _ => False
  | n + 1 => fun x8 a9 l9 c9 a10 l10 c10 x11 a12 l12 c12 x13 h => D6.t R (L5.t R n) x8 a9 l9 c9 a10 l10 c10 x11 a12 l12 c12 x13 h
theorem L5.ok (R : Rt) (fr : Fr) (h : Hp) (g : L5.g (fun x8 a9 l9 c9 a10 l10 c10 x11 a12 l12 c12 x13 h => ∃ n, L5.t R n x8 a9 l9 c9 a10 l10 c10 x11 a12 l12 c12 x13 h) fr h) : den prog E (cAt C [true, true, true, true, true, true, true, true, true, true, false, true, false]) (Ex.inBlock 2 (Ex.then (D3.g R) (retQ E [.tmp 4, .tmp 5] R))) fr h := by
  obtain ⟨x8, e8, g⟩ := gInt_elim g
  obtain ⟨a9, l9, c9, e9, g⟩ := gSlice_elim g
  obtain ⟨a10, l10, c10, e10, g⟩ := gSlice_elim g
  obtain ⟨x11, e11, g⟩ := gInt_elim g
  obtain ⟨a12, l12, c12, e12, g⟩ := gSlice_elim g
  obtain ⟨x13, e13, g⟩ := gInt_elim g
  obtain ⟨n, g⟩ := g
  refine loop_ok (fun n => L5.g (L5.t R n)) (b := (cAt C [true, true, true, true, true, true, true, true, true, true, false, true, false, false])) (by kernel_rfl) (fun fr h g => ?_) (fun n => D6.ok R (L5.t R n)) n fr h (gInt_intro e8 (gSlice_intro e9 (gSlice_intro e10 (gInt_intro e11 (gSlice_intro e12 (gInt_intro e13 (g)))))))
  obtain ⟨x8, e8, g⟩ := gInt_elim g
  obtain ⟨a9, l9, c9, e9, g⟩ := gSlice_elim g
  obtain ⟨a10, l10, c10, e10, g⟩ := gSlice_elim g
  obtain ⟨x11, e11, g⟩ := gInt_elim g
  obtain ⟨a12, l12, c12, e12, g⟩ := gSlice_elim g
  obtain ⟨x13, e13, g⟩ := gInt_elim g
  exact g
theorem B7.ok (R : Rt) (fr : Fr) (h : Hp) (g : L5.g (fun x8 a9 l9 c9 a10 l10 c10 x11 a12 l12 c12 x13 h => ∃ n, L5.t R n x8 a9 l9 c9 a10 l10 c10 x11 a12 l12 c12 x13 h) fr h) : den prog E (cAt C [true, true, true, true, true, true, true, true, true, true, false, true]) (Ex.then (D3.g R) (retQ E [.tmp 4, .tmp 5] R)) fr h :=
  den_block (by kernel_rfl) (L5.ok R fr h g)
def D4.t (R : Rt) (x8 : Int) (a9 : Option Addr) (l9 : Nat) (c9 : Nat) (a10 : Option Addr) (l10 : Nat) (c10 : Nat) (x11 : Int) (a12 : Option Addr) (l12 : Nat) (c12 : Nat) (h : Hp) : Prop :=
  letK (IntKind.i64.wrap ((((l10 : Nat) : Int)) - x11)) fun n55 =>
  letK (IntKind.i64.wrap (n55 - 1)) fun n56 =>
  (∃ n, L5.t R n x8 a9 l9 c9 a10 l10 c10 x11 a12 l12 c12 n56 h)
def D4.g (R : Rt) (fr : Fr) (h : Hp) : Prop := gInt .i64 (fr 8) fun x8 => gSlice (fr 9) fun a9 l9 c9 => gSlice (fr 10) fun a10 l10 c10 => gInt .i64 (fr 11) fun x11 => gSlice (fr 12) fun a12 l12 c12 => D4.t R x8 a9 l9 c9 a10 l10 c10 x11 a12 l12 c12 h
theorem D4.ok (R : Rt) (fr : Fr) (h : Hp) (g : D4.g R fr h) : den prog E (cAt C [true, true, true, true, true, true, true, true, true, true, false]) (Ex.then (D3.g R) (retQ E [.tmp 4, .tmp 5] R)) fr h := by
  obtain ⟨x8, e8, g⟩ := gInt_elim g
  obtain ⟨a9, l9, c9, e9, g⟩ := gSlice_elim g
  obtain ⟨a10, l10, c10, e10, g⟩ := gSlice_elim g
  obtain ⟨x11, e11, g⟩ := gInt_elim g
  obtain ⟨a12, l12, c12, e12, g⟩ := gSlice_elim g
  exact den_cut 1 (r := (cAt C [true, true, true, true, true, true, true, true, true, true, false, true])) (by kernel_rfl) (B7.ok R) (den_enter [(8, .int .i64 x8), (9, .slice a9 l9 c9), (10, .slice a10 l10 c10), (11, .int .i64 x11), (12, .slice a12 l12 c12)] ⟨e8, e9, e10, e11, e12, trivial⟩ (by kernel_rfl) g)
theorem W8.ok (R : Rt) (fr : Fr) (h : Hp) (g : D4.g R fr h) : den prog E (cAt C [true, true, true, true, true, true, true, true, true, true]) (retQ E [.tmp 4, .tmp 5] R) fr h :=
  den_then (by kernel_rfl) (D3.ok R) (D4.ok R fr h g)
def D2.t (R : Rt) (x8 : Int) (a9 : Option Addr) (l9 : Nat) (c9 : Nat) (a10 : Option Addr) (l10 : Nat) (c10 : Nat) (h : Hp) : Prop :=
  letK (IntKind.i64.wrap ((((l10 : Nat) : Int)) - (((l9 : Nat) : Int)))) fun n42 =>
  mkK h 108 T108 n42 n42 fun q43 h44 =>
  D4.t R x8 a9 l9 c9 a10 l10 c10 (((l9 : Nat) : Int)) (some q43) n42.toNat n42.toNat h44
def D2.g (R : Rt) (fr : Fr) (h : Hp) : Prop := gInt .i64 (fr 8) fun x8 => gSlice (fr 9) fun a9 l9 c9 => gSlice (fr 10) fun a10 l10 c10 => D2.t R x8 a9 l9 c9 a10 l10 c10 h
theorem D2.ok (R : Rt) (fr : Fr) (h : Hp) (g : D2.g R fr h) : den prog E (cAt C [true, true, true, true, true, true, true, true]) (retQ E [.tmp 4, .tmp 5] R) fr h := by
  obtain ⟨x8, e8, g⟩ := gInt_elim g
  obtain ⟨a9, l9, c9, e9, g⟩ := gSlice_elim g
  obtain ⟨a10, l10, c10, e10, g⟩ := gSlice_elim g
  exact den_cut 2 (r := (cAt C [true, true, true, true, true, true, true, true, true, true])) (by kernel_rfl) (W8.ok R) (den_enter [(8, .int .i64 x8), (9, .slice a9 l9 c9), (10, .slice a10 l10 c10)] ⟨e8, e9, e10, trivial⟩ (by kernel_rfl) g)
def L9.g (N : Option Addr → Nat → Nat → Int → Option Addr → Nat → Nat → Option Addr → Nat → Nat → Hp → Prop) (fr : Fr) (h : Hp) : Prop := gSlice (fr 0) fun a0 l0 c0 => gInt .i64 (fr 8) fun x8 => gSlice (fr 9) fun a9 l9 c9 => gSlice (fr 10) fun a10 l10 c10 => N a0 l0 c0 x8 a9 l9 c9 a10 l10 c10 h
def D10.t (R : Rt) (N9 : Option Addr → Nat → Nat → Int → Option Addr → Nat → Nat → Option Addr → Nat → Nat → Hp → Prop) (a0 : Option Addr) (l0 : Nat) (c0 : Nat) (x8 : Int) (a9 : Option Addr) (l9 : Nat) (c9 : Nat) (a10 : Option Addr) (l10 : Nat) (c10 : Nat) (h : Hp) : Prop :=
  cond (decide ((((l10 : Nat) : Int)) ≤ (((l0 : Nat) : Int)))) (boxK h 108 [.int .u32 0] fun q66 h67 =>
  apK h67 108 T108 a10 l10 c10 (.slice (some q66) 1 1) fun a_68 l_68 c_68 h68 =>
  N9 a0 l0 c0 x8 a9 l9 c9 a_68 l_68 c_68 h68) (D2.t R x8 a9 l9 c9 a10 l10 c10 h)
def D10.g (R : Rt) (N9 : Option Addr → Nat → Nat → Int → Option Addr → Nat → Nat → Option Addr → Nat → Nat → Hp → Prop) (fr : Fr) (h : Hp) : Prop := gSlice (fr 0) fun a0 l0 c0 => gInt .i64 (fr 8) fun x8 => gSlice (fr 9) fun a9 l9 c9 => gSlice (fr 10) fun a10 l10 c10 => D10.t R N9 a0 l0 c0 x8 a9 l9 c9 a10 l10 c10 h
theorem D10.ok (R : Rt) (N9 : Option Addr → Nat → Nat → Int → Option Addr → Nat → Nat → Option Addr → Nat → Nat → Hp → Prop) (fr : Fr) (h : Hp) (g : D10.g R N9 fr h) : den prog E (cAt C [true, true, true, true, true, true, true, false, false, false]) (Ex.then (L9.g N9) (Ex.inBlock 0 (Ex.then (D2.g R) (retQ E [.tmp 4, .tmp 5] R)))) fr h := by
  obtain ⟨a0, l0, c0, e0, g⟩ := gSlice_elim g
  obtain ⟨x8, e8, g⟩ := gInt_elim g
  obtain ⟨a9, l9, c9, e9, g⟩ := gSlice_elim g
  obtain ⟨a10, l10, c10, e10, g⟩ := gSlice_elim g
  exact den_enter [(0, .slice a0 l0 c0), (8, .int .i64 x8), (9, .slice a9 l9 c9), (10, .slice a10 l10 c10)] ⟨e0, e8, e9, e10, trivial⟩ (by kernel_rfl) g
def L9.t (R : Rt) : Nat → Option Addr → Nat → Nat → Int → Option Addr → Nat → Nat → Option Addr → Nat → Nat → Hp → Prop
  | 0 => fun _ _ _ _ _ _ _ _ _ _ _ => False
  | n + 1 => fun a0 l0 c0 x8 a9 l9 c9 a10 l10 c10 h => D10.t R (L9.t R n) a0 l0 c0 x8 a9 l9 c9 a10 l10 c10 h
theorem L9.ok (R : Rt) (fr : Fr) (h : Hp) (g : L9.g (fun a0 l0 c0 x8 a9 l9 c9 a10 l10 c10 h => ∃ n, L9.t R n a0 l0 c0 x8 a9 l9 c9 a10 l10 c10 h) fr h) : den prog E (cAt C [true, true, true, true, true, true, true, false, false]) (Ex.inBlock 0 (Ex.then (D2.g R) (retQ E [.tmp 4, .tmp 5] R))) fr h := by
  obtain ⟨a0, l0, c0, e0, g⟩ := gSlice_elim g
  obtain ⟨x8, e8, g⟩ := gInt_elim g
  obtain ⟨a9, l9, c9, e9, g⟩ := gSlice_elim g
  obtain ⟨a10, l10, c10, e10, g⟩ := gSlice_elim g
  obtain ⟨n, g⟩ := g
  refine loop_ok (fun n => L9.g (L9.t R n)) (b := (cAt C [true, true, true, true, true, true, true, false, false, false])) (by kernel_rfl) (fun fr h g => ?_) (fun n => D10.ok R (L9.t R n)) n fr h (gSlice_intro e0 (gInt_intro e8 (gSlice_intro e9 (gSlice_intro e10 (g)))))
  obtain ⟨a0, l0, c0, e0, g⟩ := gSlice_elim g
  obtain ⟨x8, e8, g⟩ := gInt_elim g
  obtain ⟨a9, l9, c9, e9, g⟩ := gSlice_elim g
  obtain ⟨a10, l10, c10, e10, g⟩ := gSlice_elim g
  exact g
theorem B11.ok (R : Rt) (fr : Fr) (h : Hp) (g : L9.g (fun a0 l0 c0 x8 a9 l9 c9 a10 l10 c10 h => ∃ n, L9.t R n a0 l0 c0 x8 a9 l9 c9 a10 l10 c10 h) fr h) : den prog E (cAt C [true, true, true, true, true, true, true, false]) (Ex.then (D2.g R) (retQ E [.tmp 4, .tmp 5] R)) fr h :=
  den_block (by kernel_rfl) (L9.ok R fr h g)
theorem W12.ok (R : Rt) (fr : Fr) (h : Hp) (g : L9.g (fun a0 l0 c0 x8 a9 l9 c9 a10 l10 c10 h => ∃ n, L9.t R n a0 l0 c0 x8 a9 l9 c9 a10 l10 c10 h) fr h) : den prog E (cAt C [true, true, true, true, true, true, true]) (retQ E [.tmp 4, .tmp 5] R) fr h :=
  den_then (by kernel_rfl) (D2.ok R) (B11.ok R fr h g)
def D1.t (R : Rt) (a0 : Option Addr) (l0 : Nat) (c0 : Nat) (a1 : Option Addr) (l1 : Nat) (c1 : Nat) (h : Hp) : Prop :=
  cond ((((l1 : Nat) : Int)) == 0) (HC gnomonref01_Word.id #[.int .u64 0] h fun v1 h2 =>
  gSlice v1 fun a_3 l_3 c_3 =>
  HC gnomonref01_Word.id #[.int .u64 0] h2 fun v4 h5 =>
  gSlice v4 fun a_6 l_6 c_6 =>
  R (.tuple #[.slice a_3 l_3 c_3, .slice a_6 l_6 c_6]) h5) (HC gnomonref01_Cmp.id #[.slice a0 l0 c0, .slice a1 l1 c1] h fun v7 h8 =>
  gInt .i64 v7 fun x_9 =>
  cond (decide (x_9 < 0)) (HC gnomonref01_Word.id #[.int .u64 0] h8 fun v10 h11 =>
  gSlice v10 fun a_12 l_12 c_12 =>
  HC gnomonref01_Norm.id #[.slice a0 l0 c0] h11 fun v13 h14 =>
  gSlice v13 fun a_15 l_15 c_15 =>
  R (.tuple #[.slice a_12 l_12 c_12, .slice a_15 l_15 c_15]) h14) (cond ((((l1 : Nat) : Int)) == 1) (idxK a1 l1 0 1 fun q16 =>
  ldK h8 q16 fun v17 =>
  gInt .u32 v17 fun x_18 =>
  HC gnomonref01_DivSmall.id #[.slice a0 l0 c0, .int .u32 x_18] h8 fun v19 h20 =>
  gTup v19 fun y21 =>
  uncons y21 fun v22 y22 =>
  gSlice v22 fun a_23 l_23 c_23 =>
  uncons y22 fun v24 y24 =>
  gInt .u32 v24 fun x_25 =>
  unnil y24 <| letK (IntKind.u64.wrap x_25) fun n26 =>
  HC gnomonref01_Word.id #[.int .u64 n26] h20 fun v27 h28 =>
  gSlice v27 fun a_29 l_29 c_29 =>
  R (.tuple #[.slice a_23 l_23 c_23, .slice a_29 l_29 c_29]) h28) (letK (IntKind.i64.wrap ((((l1 : Nat) : Int)) - 1)) fun n30 =>
  slK 1 a1 l1 c1 (some (.int .i64 n30)) none none fun a_31 l_31 c_31 =>
  HC gnomonref01_Bits.id #[.slice a_31 l_31 c_31] h8 fun v32 h33 =>
  gInt .i64 v32 fun x_34 =>
  letK (IntKind.i64.wrap (32 - x_34)) fun n35 =>
  HC gnomonref01_Shl.id #[.slice a1 l1 c1, .int .i64 n35] h33 fun v36 h37 =>
  gSlice v36 fun a_38 l_38 c_38 =>
  HC gnomonref01_Shl.id #[.slice a0 l0 c0, .int .i64 n35] h37 fun v39 h40 =>
  gSlice v39 fun a_41 l_41 c_41 =>
  (∃ n, L9.t R n a0 l0 c0 n35 a_38 l_38 c_38 a_41 l_41 c_41 h40))))
def D1.g (R : Rt) (fr : Fr) (h : Hp) : Prop := gSlice (fr 0) fun a0 l0 c0 => gSlice (fr 1) fun a1 l1 c1 => D1.t R a0 l0 c0 a1 l1 c1 h
theorem D1.ok (R : Rt) (fr : Fr) (h : Hp) (g : D1.g R fr h) : den prog E C (retQ E [.tmp 4, .tmp 5] R) fr h := by
  obtain ⟨a0, l0, c0, e0, g⟩ := gSlice_elim g
  obtain ⟨a1, l1, c1, e1, g⟩ := gSlice_elim g
  exact den_cut 7 (r := (cAt C [true, true, true, true, true, true, true])) (by kernel_rfl) (W12.ok R) (den_enter [(0, .slice a0 l0 c0), (1, .slice a1 l1 c1)] ⟨e0, e1, trivial⟩ (by kernel_rfl) g)
def t (a0 : Option Addr) (l0 : Nat) (c0 : Nat) (a1 : Option Addr) (l1 : Nat) (c1 : Nat) (h : Hp) (R : Rt) : Prop := D1.t R a0 l0 c0 a1 l1 c1 h
theorem ok {a0 : Option Addr} {l0 : Nat} {c0 : Nat} {a1 : Option Addr} {l1 : Nat} {c1 : Nat} {h : Hp} {R : Rt} (g : t a0 l0 c0 a1 l1 c1 h R) : HC id #[.slice a0 l0 c0, .slice a1 l1 c1] h R :=
  calls_of_den' envOk (c := C) (rs := [.tmp 4, .tmp 5]) Tryz.func125 (by kernel_rfl) (by kernel_rfl) (by kernel_rfl) (args := [.slice a0 l0 c0, .slice a1 l1 c1]) (by kernel_rfl) (D1.ok R _ h (gSlice_intro rfl (gSlice_intro rfl (g))))
end gnomonref01_DivMod

namespace gnomonref04_Even
noncomputable def C : Code := bodyOf Tryz.f126
def D1.t (R : Rt) (b0_0 : Bool) (a0_1 : Option Addr) (l0_1 : Nat) (c0_1 : Nat) (h : Hp) : Prop :=
  boxK h 67 [.bool b0_0, .slice a0_1 l0_1 c0_1] fun q1 h2 =>
  ldK h2 (q1.add 1) fun v3 =>
  gSlice v3 fun a_4 l_4 c_4 =>
  HC gnomonref01_Bit.id #[.slice a_4 l_4 c_4, .int .i64 0] h2 fun v5 h6 =>
  gInt .i64 v5 fun x_7 =>
  R (.bool (x_7 == 0)) h6
def D1.g (R : Rt) (fr : Fr) (h : Hp) : Prop := gAgg (fr 0) fun z0 => uncons z0 fun w0_0 z0_0 => gBool w0_0 fun b0_0 => uncons z0_0 fun w0_1 z0_1 => gSlice w0_1 fun a0_1 l0_1 c0_1 => unnil z0_1 <| D1.t R b0_0 a0_1 l0_1 c0_1 h
theorem D1.ok (R : Rt) (fr : Fr) (h : Hp) (g : D1.g R fr h) : den prog E C (retQ E [.tmp 2] R) fr h := by
  obtain ⟨z0, e0, g0_0⟩ := gAgg_elim' g
  obtain ⟨w0_0, z0_0, rfl, g0_0x⟩ := uncons_elim g0_0
  obtain ⟨b0_0, rfl, g0_1⟩ := gBool_elim g0_0x
  obtain ⟨w0_1, z0_1, rfl, g0_1x⟩ := uncons_elim g0_1
  obtain ⟨a0_1, l0_1, c0_1, rfl, g0_2⟩ := gSlice_elim g0_1x
  obtain ⟨rfl, g⟩ := unnil_elim g0_2
  exact den_enter [(0, .agg #[.bool b0_0, .slice a0_1 l0_1 c0_1])] ⟨e0, trivial⟩ (by kernel_rfl) g
def t (b0_0 : Bool) (a0_1 : Option Addr) (l0_1 : Nat) (c0_1 : Nat) (h : Hp) (R : Rt) : Prop := D1.t R b0_0 a0_1 l0_1 c0_1 h
theorem ok {b0_0 : Bool} {a0_1 : Option Addr} {l0_1 : Nat} {c0_1 : Nat} {h : Hp} {R : Rt} (g : t b0_0 a0_1 l0_1 c0_1 h R) : HC id #[.agg #[.bool b0_0, .slice a0_1 l0_1 c0_1]] h R :=
  calls_of_den' envOk (c := C) (rs := [.tmp 2]) Tryz.func126 (by kernel_rfl) (by kernel_rfl) (by kernel_rfl) (args := [.agg #[.bool b0_0, .slice a0_1 l0_1 c0_1]]) (by kernel_rfl) (D1.ok R _ h (gAgg_intro rfl (uncons_intro (gBool_intro rfl (uncons_intro (gSlice_intro rfl (unnil_intro (g))))))))
end gnomonref04_Even

namespace gnomonref01_MulSmall
noncomputable def C : Code := bodyOf Tryz.f127
def D2.t (R : Rt) (a7 : Option Addr) (l7 : Nat) (c7 : Nat) (x8 : Int) (h : Hp) : Prop :=
  letK (IntKind.u32.wrap x8) fun n5 =>
  boxK h 108 [.int .u32 n5] fun q6 h7 =>
  apK h7 108 T108 a7 l7 c7 (.slice (some q6) 1 1) fun a_8 l_8 c_8 h8 =>
  HC gnomonref01_Norm.id #[.slice a_8 l_8 c_8] h8 fun v9 h10 =>
  gSlice v9 fun a_11 l_11 c_11 =>
  R (.slice a_11 l_11 c_11) h10
def D2.g (R : Rt) (fr : Fr) (h : Hp) : Prop := gSlice (fr 7) fun a7 l7 c7 => gInt .u64 (fr 8) fun x8 => D2.t R a7 l7 c7 x8 h
theorem D2.ok (R : Rt) (fr : Fr) (h : Hp) (g : D2.g R fr h) : den prog E (cAt C [true, true, true, true]) (retQ E [.tmp 6] R) fr h := by
  obtain ⟨a7, l7, c7, e7, g⟩ := gSlice_elim g
  obtain ⟨x8, e8, g⟩ := gInt_elim g
  exact den_enter [(7, .slice a7 l7 c7), (8, .int .u64 x8)] ⟨e7, e8, trivial⟩ (by kernel_rfl) g
def L4.g (N : Option Addr → Nat → Nat → Int → Option Addr → Nat → Nat → Int → Int → Hp → Prop) (fr : Fr) (h : Hp) : Prop := gSlice (fr 0) fun a0 l0 c0 => gInt .u32 (fr 1) fun x1 => gSlice (fr 7) fun a7 l7 c7 => gInt .u64 (fr 8) fun x8 => gInt .i64 (fr 9) fun x9 => N a0 l0 c0 x1 a7 l7 c7 x8 x9 h
def D5.t (R : Rt) (N4 : Option Addr → Nat → Nat → Int → Option Addr → Nat → Nat → Int → Int → Hp → Prop) (a0 : Option Addr) (l0 : Nat) (c0 : Nat) (x1 : Int) (a7 : Option Addr) (l7 : Nat) (c7 : Nat) (x8 : Int) (x9 : Int) (h : Hp) : Prop :=
  cond (decide (x9 < (((l0 : Nat) : Int)))) (idxK a0 l0 x9 1 fun q12 =>
  ldK h q12 fun v13 =>
  gInt .u32 v13 fun x_14 =>
  letK (IntKind.u64.wrap x_14) fun n15 =>
  letK (IntKind.u64.wrap x1) fun n16 =>
  letK (IntKind.u64.wrap (n15 * n16)) fun n17 =>
  letK (IntKind.u64.wrap (x8 + n17)) fun n18 =>
  letK (andI .u64 n18 4294967295) fun n19 =>
  letK (IntKind.u32.wrap n19) fun n20 =>
  boxK h 108 [.int .u32 n20] fun q21 h22 =>
  apK h22 108 T108 a7 l7 c7 (.slice (some q21) 1 1) fun a_23 l_23 c_23 h23 =>
  0 ≤ (32 : Int) ∧ letK (shrI .u64 n18 32) fun n24 =>
  letK (IntKind.i64.wrap (x9 + 1)) fun n25 =>
  N4 a0 l0 c0 x1 a_23 l_23 c_23 n24 n25 h23) (D2.t R a7 l7 c7 x8 h)
def D5.g (R : Rt) (N4 : Option Addr → Nat → Nat → Int → Option Addr → Nat → Nat → Int → Int → Hp → Prop) (fr : Fr) (h : Hp) : Prop := gSlice (fr 0) fun a0 l0 c0 => gInt .u32 (fr 1) fun x1 => gSlice (fr 7) fun a7 l7 c7 => gInt .u64 (fr 8) fun x8 => gInt .i64 (fr 9) fun x9 => D5.t R N4 a0 l0 c0 x1 a7 l7 c7 x8 x9 h
theorem D5.ok (R : Rt) (N4 : Option Addr → Nat → Nat → Int → Option Addr → Nat → Nat → Int → Int → Hp → Prop) (fr : Fr) (h : Hp) (g : D5.g R N4 fr h) : den prog E (cAt C [true, true, true, false, true, false, false]) (Ex.then (L4.g N4) (Ex.inBlock 0 (Ex.then (D2.g R) (retQ E [.tmp 6] R)))) fr h := by
  obtain ⟨a0, l0, c0, e0, g⟩ := gSlice_elim g
  obtain ⟨x1, e1, g⟩ := gInt_elim g
  obtain ⟨a7, l7, c7, e7, g⟩ := gSlice_elim g
  obtain ⟨x8, e8, g⟩ := gInt_elim g
  obtain ⟨x9, e9, g⟩ := gInt_elim g
  exact den_enter [(0, .slice a0 l0 c0), (1, .int .u32 x1), (7, .slice a7 l7 c7), (8, .int .u64 x8), (9, .int .i64 x9)] ⟨e0, e1, e7, e8, e9, trivial⟩ (by kernel_rfl) g
def L4.t (R : Rt) : Nat → Option Addr → Nat → Nat → Int → Option Addr → Nat → Nat → Int → Int → Hp → Prop
  | 0 => fun _ _ _ _ _ _ _ _ _ _ => False
  | n + 1 => fun a0 l0 c0 x1 a7 l7 c7 x8 x9 h => D5.t R (L4.t R n) a0 l0 c0 x1 a7 l7 c7 x8 x9 h
theorem L4.ok (R : Rt) (fr : Fr) (h : Hp) (g : L4.g (fun a0 l0 c0 x1 a7 l7 c7 x8 x9 h => ∃ n, L4.t R n a0 l0 c0 x1 a7 l7 c7 x8 x9 h) fr h) : den prog E (cAt C [true, true, true, false, true, false]) (Ex.inBlock 0 (Ex.then (D2.g R) (retQ E [.tmp 6] R))) fr h := by
  obtain ⟨a0, l0, c0, e0, g⟩ := gSlice_elim g
  obtain ⟨x1, e1, g⟩ := gInt_elim g
  obtain ⟨a7, l7, c7, e7, g⟩ := gSlice_elim g
  obtain ⟨x8, e8, g⟩ := gInt_elim g
  obtain ⟨x9, e9, g⟩ := gInt_elim g
  obtain ⟨n, g⟩ := g
  refine loop_ok (fun n => L4.g (L4.t R n)) (b := (cAt C [true, true, true, false, true, false, false])) (by kernel_rfl) (fun fr h g => ?_) (fun n => D5.ok R (L4.t R n)) n fr h (gSlice_intro e0 (gInt_intro e1 (gSlice_intro e7 (gInt_intro e8 (gInt_intro e9 (g))))))
  obtain ⟨a0, l0, c0, e0, g⟩ := gSlice_elim g
  obtain ⟨x1, e1, g⟩ := gInt_elim g
  obtain ⟨a7, l7, c7, e7, g⟩ := gSlice_elim g
  obtain ⟨x8, e8, g⟩ := gInt_elim g
  obtain ⟨x9, e9, g⟩ := gInt_elim g
  exact g
theorem B6.ok (R : Rt) (fr : Fr) (h : Hp) (g : L4.g (fun a0 l0 c0 x1 a7 l7 c7 x8 x9 h => ∃ n, L4.t R n a0 l0 c0 x1 a7 l7 c7 x8 x9 h) fr h) : den prog E (cAt C [true, true, true, false, true]) (Ex.then (D2.g R) (retQ E [.tmp 6] R)) fr h :=
  den_block (by kernel_rfl) (L4.ok R fr h g)
def D3.t (R : Rt) (a0 : Option Addr) (l0 : Nat) (c0 : Nat) (x1 : Int) (a7 : Option Addr) (l7 : Nat) (c7 : Nat) (x8 : Int) (h : Hp) : Prop :=
  (∃ n, L4.t R n a0 l0 c0 x1 a7 l7 c7 x8 0 h)
def D3.g (R : Rt) (fr : Fr) (h : Hp) : Prop := gSlice (fr 0) fun a0 l0 c0 => gInt .u32 (fr 1) fun x1 => gSlice (fr 7) fun a7 l7 c7 => gInt .u64 (fr 8) fun x8 => D3.t R a0 l0 c0 x1 a7 l7 c7 x8 h
theorem D3.ok (R : Rt) (fr : Fr) (h : Hp) (g : D3.g R fr h) : den prog E (cAt C [true, true, true, false]) (Ex.then (D2.g R) (retQ E [.tmp 6] R)) fr h := by
  obtain ⟨a0, l0, c0, e0, g⟩ := gSlice_elim g
  obtain ⟨x1, e1, g⟩ := gInt_elim g
  obtain ⟨a7, l7, c7, e7, g⟩ := gSlice_elim g
  obtain ⟨x8, e8, g⟩ := gInt_elim g
  exact den_cut 1 (r := (cAt C [true, true, true, false, true])) (by kernel_rfl) (B6.ok R) (den_enter [(0, .slice a0 l0 c0), (1, .int .u32 x1), (7, .slice a7 l7 c7), (8, .int .u64 x8)] ⟨e0, e1, e7, e8, trivial⟩ (by kernel_rfl) g)
theorem W7.ok (R : Rt) (fr : Fr) (h : Hp) (g : D3.g R fr h) : den prog E (cAt C [true, true, true]) (retQ E [.tmp 6] R) fr h :=
  den_then (by kernel_rfl) (D2.ok R) (D3.ok R fr h g)
def D1.t (R : Rt) (a0 : Option Addr) (l0 : Nat) (c0 : Nat) (x1 : Int) (x2 : Int) (h : Hp) : Prop :=
  letK (IntKind.i64.wrap ((((l0 : Nat) : Int)) + 1)) fun n1 =>
  mkK h 108 T108 0 n1 fun q2 h3 =>
  letK (IntKind.u64.wrap x2) fun n4 =>
  D3.t R a0 l0 c0 x1 (some q2) ((0 : Int).toNat) n1.toNat n4 h3
def D1.g (R : Rt) (fr : Fr) (h : Hp) : Prop := gSlice (fr 0) fun a0 l0 c0 => gInt .u32 (fr 1) fun x1 => gInt .u32 (fr 2) fun x2 => D1.t R a0 l0 c0 x1 x2 h
theorem D1.ok (R : Rt) (fr : Fr) (h : Hp) (g : D1.g R fr h) : den prog E C (retQ E [.tmp 6] R) fr h := by
  obtain ⟨a0, l0, c0, e0, g⟩ := gSlice_elim g
  obtain ⟨x1, e1, g⟩ := gInt_elim g
  obtain ⟨x2, e2, g⟩ := gInt_elim g
  exact den_cut 3 (r := (cAt C [true, true, true])) (by kernel_rfl) (W7.ok R) (den_enter [(0, .slice a0 l0 c0), (1, .int .u32 x1), (2, .int .u32 x2)] ⟨e0, e1, e2, trivial⟩ (by kernel_rfl) g)
def t (a0 : Option Addr) (l0 : Nat) (c0 : Nat) (x1 : Int) (x2 : Int) (h : Hp) (R : Rt) : Prop := D1.t R a0 l0 c0 x1 x2 h
theorem ok {a0 : Option Addr} {l0 : Nat} {c0 : Nat} {x1 : Int} {x2 : Int} {h : Hp} {R : Rt} (g : t a0 l0 c0 x1 x2 h R) : HC id #[.slice a0 l0 c0, .int .u32 x1, .int .u32 x2] h R :=
  calls_of_den' envOk (c := C) (rs := [.tmp 6]) Tryz.func127 (by kernel_rfl) (by kernel_rfl) (by kernel_rfl) (args := [.slice a0 l0 c0, .int .u32 x1, .int .u32 x2]) (by kernel_rfl) (D1.ok R _ h (gSlice_intro rfl (gInt_intro rfl (gInt_intro rfl (g)))))
end gnomonref01_MulSmall

namespace gnomonref01_DivSmall
noncomputable def C : Code := bodyOf Tryz.f128
def D2.t (R : Rt) (a6 : Option Addr) (l6 : Nat) (c6 : Nat) (x7 : Int) (h : Hp) : Prop :=
  HC gnomonref01_Norm.id #[.slice a6 l6 c6] h fun v6 h7 =>
  gSlice v6 fun a_8 l_8 c_8 =>
  letK (IntKind.u32.wrap x7) fun n9 =>
  R (.tuple #[.slice a_8 l_8 c_8, .int .u32 n9]) h7
def D2.g (R : Rt) (fr : Fr) (h : Hp) : Prop := gSlice (fr 6) fun a6 l6 c6 => gInt .u64 (fr 7) fun x7 => D2.t R a6 l6 c6 x7 h
theorem D2.ok (R : Rt) (fr : Fr) (h : Hp) (g : D2.g R fr h) : den prog E (cAt C [true, true, true, true, true]) (retQ E [.tmp 4, .tmp 5] R) fr h := by
  obtain ⟨a6, l6, c6, e6, g⟩ := gSlice_elim g
  obtain ⟨x7, e7, g⟩ := gInt_elim g
  exact den_enter [(6, .slice a6 l6 c6), (7, .int .u64 x7)] ⟨e6, e7, trivial⟩ (by kernel_rfl) g
def L4.g (N : Option Addr → Nat → Nat → Int → Option Addr → Nat → Nat → Int → Int → Hp → Prop) (fr : Fr) (h : Hp) : Prop := gSlice (fr 0) fun a0 l0 c0 => gInt .u32 (fr 1) fun x1 => gSlice (fr 6) fun a6 l6 c6 => gInt .u64 (fr 7) fun x7 => gInt .i64 (fr 8) fun x8 => N a0 l0 c0 x1 a6 l6 c6 x7 x8 h
def D5.t (R : Rt) (N4 : Option Addr → Nat → Nat → Int → Option Addr → Nat → Nat → Int → Int → Hp → Prop) (a0 : Option Addr) (l0 : Nat) (c0 : Nat) (x1 : Int) (a6 : Option Addr) (l6 : Nat) (c6 : Nat) (x7 : Int) (x8 : Int) (h : Hp) : Prop :=
  cond (decide (x8 ≥ 0)) (0 ≤ (32 : Int) ∧ letK (shlI .u64 x7 32) fun n11 =>
  idxK a0 l0 x8 1 fun q12 =>
  ldK h q12 fun v13 =>
  gInt .u32 v13 fun x_14 =>
  letK (IntKind.u64.wrap x_14) fun n15 =>
  letK (IntKind.u64.wrap (n11 + n15)) fun n16 =>
  letK (IntKind.u64.wrap x1) fun n17 =>
  n17 ≠ 0 ∧ letK (IntKind.u64.wrap (Int.tdiv n16 n17)) fun n18 =>
  letK (IntKind.u32.wrap n18) fun n19 =>
  idxK a6 l6 x8 1 fun q20 =>
  stK h q20 (.int .u32 n19) fun h21 =>
  letK (IntKind.u64.wrap x1) fun n22 =>
  n22 ≠ 0 ∧ letK (Int.tmod n16 n22) fun n23 =>
  letK (IntKind.i64.wrap (x8 - 1)) fun n24 =>
  N4 a0 l0 c0 x1 a6 l6 c6 n23 n24 h21) (D2.t R a6 l6 c6 x7 h)
def D5.g (R : Rt) (N4 : Option Addr → Nat → Nat → Int → Option Addr → Nat → Nat → Int → Int → Hp → Prop) (fr : Fr) (h : Hp) : Prop := gSlice (fr 0) fun a0 l0 c0 => gInt .u32 (fr 1) fun x1 => gSlice (fr 6) fun a6 l6 c6 => gInt .u64 (fr 7) fun x7 => gInt .i64 (fr 8) fun x8 => D5.t R N4 a0 l0 c0 x1 a6 l6 c6 x7 x8 h
theorem D5.ok (R : Rt) (N4 : Option Addr → Nat → Nat → Int → Option Addr → Nat → Nat → Int → Int → Hp → Prop) (fr : Fr) (h : Hp) (g : D5.g R N4 fr h) : den prog E (cAt C [true, true, true, true, false, true, false, false]) (Ex.then (L4.g N4) (Ex.inBlock 0 (Ex.then (D2.g R) (retQ E [.tmp 4, .tmp 5] R)))) fr h := by
  obtain ⟨a0, l0, c0, e0, g⟩ := gSlice_elim g
  obtain ⟨x1, e1, g⟩ := gInt_elim g
  obtain ⟨a6, l6, c6, e6, g⟩ := gSlice_elim g
  obtain ⟨x7, e7, g⟩ := gInt_elim g
  obtain ⟨x8, e8, g⟩ := gInt_elim g
  exact den_enter [(0, .slice a0 l0 c0), (1, .int .u32 x1), (6, .slice a6 l6 c6), (7, .int .u64 x7), (8, .int .i64 x8)] ⟨e0, e1, e6, e7, e8, trivial⟩ (by kernel_rfl) g
def L4.t (R : Rt) : Nat → Option Addr → Nat → Nat → Int → Option Addr → Nat → Nat → Int → Int → Hp → Prop
  | 0 => fun _ _ _ _ _ _ _ _ _ _ => False
  | n + 1 => fun a0 l0 c0 x1 a6 l6 c6 x7 x8 h => D5.t R (L4.t R n) a0 l0 c0 x1 a6 l6 c6 x7 x8 h
theorem L4.ok (R : Rt) (fr : Fr) (h : Hp) (g : L4.g (fun a0 l0 c0 x1 a6 l6 c6 x7 x8 h => ∃ n, L4.t R n a0 l0 c0 x1 a6 l6 c6 x7 x8 h) fr h) : den prog E (cAt C [true, true, true, true, false, true, false]) (Ex.inBlock 0 (Ex.then (D2.g R) (retQ E [.tmp 4, .tmp 5] R))) fr h := by
  obtain ⟨a0, l0, c0, e0, g⟩ := gSlice_elim g
  obtain ⟨x1, e1, g⟩ := gInt_elim g
  obtain ⟨a6, l6, c6, e6, g⟩ := gSlice_elim g
  obtain ⟨x7, e7, g⟩ := gInt_elim g
  obtain ⟨x8, e8, g⟩ := gInt_elim g
  obtain ⟨n, g⟩ := g
  refine loop_ok (fun n => L4.g (L4.t R n)) (b := (cAt C [true, true, true, true, false, true, false, false])) (by kernel_rfl) (fun fr h g => ?_) (fun n => D5.ok R (L4.t R n)) n fr h (gSlice_intro e0 (gInt_intro e1 (gSlice_intro e6 (gInt_intro e7 (gInt_intro e8 (g))))))
  obtain ⟨a0, l0, c0, e0, g⟩ := gSlice_elim g
  obtain ⟨x1, e1, g⟩ := gInt_elim g
  obtain ⟨a6, l6, c6, e6, g⟩ := gSlice_elim g
  obtain ⟨x7, e7, g⟩ := gInt_elim g
  obtain ⟨x8, e8, g⟩ := gInt_elim g
  exact g
theorem B6.ok (R : Rt) (fr : Fr) (h : Hp) (g : L4.g (fun a0 l0 c0 x1 a6 l6 c6 x7 x8 h => ∃ n, L4.t R n a0 l0 c0 x1 a6 l6 c6 x7 x8 h) fr h) : den prog E (cAt C [true, true, true, true, false, true]) (Ex.then (D2.g R) (retQ E [.tmp 4, .tmp 5] R)) fr h :=
  den_block (by kernel_rfl) (L4.ok R fr h g)
def D3.t (R : Rt) (a0 : Option Addr) (l0 : Nat) (c0 : Nat) (x1 : Int) (a6 : Option Addr) (l6 : Nat) (c6 : Nat) (x7 : Int) (h : Hp) : Prop :=
  letK (IntKind.i64.wrap ((((l0 : Nat) : Int)) - 1)) fun n10 => (∃ n, L4.t R n a0 l0 c0 x1 a6 l6 c6 x7 n10 h)
def D3.g (R : Rt) (fr : Fr) (h : Hp) : Prop := gSlice (fr 0) fun a0 l0 c0 => gInt .u32 (fr 1) fun x1 => gSlice (fr 6) fun a6 l6 c6 => gInt .u64 (fr 7) fun x7 => D3.t R a0 l0 c0 x1 a6 l6 c6 x7 h
theorem D3.ok (R : Rt) (fr : Fr) (h : Hp) (g : D3.g R fr h) : den prog E (cAt C [true, true, true, true, false]) (Ex.then (D2.g R) (retQ E [.tmp 4, .tmp 5] R)) fr h := by
  obtain ⟨a0, l0, c0, e0, g⟩ := gSlice_elim g
  obtain ⟨x1, e1, g⟩ := gInt_elim g
  obtain ⟨a6, l6, c6, e6, g⟩ := gSlice_elim g
  obtain ⟨x7, e7, g⟩ := gInt_elim g
  exact den_cut 1 (r := (cAt C [true, true, true, true, false, true])) (by kernel_rfl) (B6.ok R) (den_enter [(0, .slice a0 l0 c0), (1, .int .u32 x1), (6, .slice a6 l6 c6), (7, .int .u64 x7)] ⟨e0, e1, e6, e7, trivial⟩ (by kernel_rfl) g)
theorem W7.ok (R : Rt) (fr : Fr) (h : Hp) (g : D3.g R fr h) : den prog E (cAt C [true, true, true, true]) (retQ E [.tmp 4, .tmp 5] R) fr h :=
  den_then (by kernel_rfl) (D2.ok R) (D3.ok R fr h g)
def D1.t (R : Rt) (a0 : Option Addr) (l0 : Nat) (c0 : Nat) (x1 : Int) (h : Hp) : Prop :=
  cond (x1 == 0) (HC gnomonref01_Word.id #[.int .u64 0] h fun v1 h2 =>
  gSlice v1 fun a_3 l_3 c_3 =>
  R (.tuple #[.slice a_3 l_3 c_3, .int .u32 0]) h2) (mkK h 108 T108 (((l0 : Nat) : Int)) (((l0 : Nat) : Int)) fun q4 h5 =>
  D3.t R a0 l0 c0 x1 (some q4) ((((l0 : Nat) : Int)).toNat) ((((l0 : Nat) : Int)).toNat) 0 h5)
def D1.g (R : Rt) (fr : Fr) (h : Hp) : Prop := gSlice (fr 0) fun a0 l0 c0 => gInt .u32 (fr 1) fun x1 => D1.t R a0 l0 c0 x1 h
theorem D1.ok (R : Rt) (fr : Fr) (h : Hp) (g : D1.g R fr h) : den prog E C (retQ E [.tmp 4, .tmp 5] R) fr h := by
  obtain ⟨a0, l0, c0, e0, g⟩ := gSlice_elim g
  obtain ⟨x1, e1, g⟩ := gInt_elim g
  exact den_cut 4 (r := (cAt C [true, true, true, true])) (by kernel_rfl) (W7.ok R) (den_enter [(0, .slice a0 l0 c0), (1, .int .u32 x1)] ⟨e0, e1, trivial⟩ (by kernel_rfl) g)
def t (a0 : Option Addr) (l0 : Nat) (c0 : Nat) (x1 : Int) (h : Hp) (R : Rt) : Prop := D1.t R a0 l0 c0 x1 h
theorem ok {a0 : Option Addr} {l0 : Nat} {c0 : Nat} {x1 : Int} {h : Hp} {R : Rt} (g : t a0 l0 c0 x1 h R) : HC id #[.slice a0 l0 c0, .int .u32 x1] h R :=
  calls_of_den' envOk (c := C) (rs := [.tmp 4, .tmp 5]) Tryz.func128 (by kernel_rfl) (by kernel_rfl) (by kernel_rfl) (args := [.slice a0 l0 c0, .int .u32 x1]) (by kernel_rfl) (D1.ok R _ h (gSlice_intro rfl (gInt_intro rfl (g))))
end gnomonref01_DivSmall

namespace gnomonref01_digit
noncomputable def C : Code := bodyOf Tryz.f129
def D2.t (R : Rt) (x7 : Int) (h : Hp) : Prop :=
  letK (IntKind.u32.wrap x7) fun n18 => R (.int .u32 n18) h
def D2.g (R : Rt) (fr : Fr) (h : Hp) : Prop := gInt .u64 (fr 7) fun x7 => D2.t R x7 h
theorem D2.ok (R : Rt) (fr : Fr) (h : Hp) (g : D2.g R fr h) : den prog E (cAt C [true, true, true, true, true, true, true]) (retQ E [.tmp 4] R) fr h := by
  obtain ⟨x7, e7, g⟩ := gInt_elim g
  exact den_enter [(7, .int .u64 x7)] ⟨e7, trivial⟩ (by kernel_rfl) g
def L3.g (N : Option Addr → Nat → Nat → Option Addr → Nat → Nat → Int → Int → Int → Hp → Prop) (fr : Fr) (h : Hp) : Prop := gSlice (fr 0) fun a0 l0 c0 => gSlice (fr 1) fun a1 l1 c1 => gInt .i64 (fr 5) fun x5 => gInt .u64 (fr 7) fun x7 => gInt .u64 (fr 9) fun x9 => N a0 l0 c0 a1 l1 c1 x5 x7 x9 h
def D6.t (R : Rt) (N3 : Option Addr → Nat → Nat → Option Addr → Nat → Nat → Int → Int → Int → Hp → Prop) (a0 : Option Addr) (l0 : Nat) (c0 : Nat) (a1 : Option Addr) (l1 : Nat) (c1 : Nat) (x5 : Int) (x7 : Int) (x8 : Int) (x9 : Int) (h : Hp) : Prop :=
  letK (IntKind.u64.wrap (x9 - (if x8 < x9 then x8 else x9))) fun n20 => N3 a0 l0 c0 a1 l1 c1 x5 x7 n20 h
def D6.g (R : Rt) (N3 : Option Addr → Nat → Nat → Option Addr → Nat → Nat → Int → Int → Int → Hp → Prop) (fr : Fr) (h : Hp) : Prop := gSlice (fr 0) fun a0 l0 c0 => gSlice (fr 1) fun a1 l1 c1 => gInt .i64 (fr 5) fun x5 => gInt .u64 (fr 7) fun x7 => gInt .u64 (fr 8) fun x8 => gInt .u64 (fr 9) fun x9 => D6.t R N3 a0 l0 c0 a1 l1 c1 x5 x7 x8 x9 h
theorem D6.ok (R : Rt) (N3 : Option Addr → Nat → Nat → Option Addr → Nat → Nat → Int → Int → Int → Hp → Prop) (fr : Fr) (h : Hp) (g : D6.g R N3 fr h) : den prog E (cAt C [true, true, true, true, true, true, false, false, false, true, false, true, true, true]) (Ex.inBlock 3 (Ex.then (L3.g N3) (Ex.inBlock 2 (Ex.then (D2.g R) (retQ E [.tmp 4] R))))) fr h := by
  obtain ⟨a0, l0, c0, e0, g⟩ := gSlice_elim g
  obtain ⟨a1, l1, c1, e1, g⟩ := gSlice_elim g
  obtain ⟨x5, e5, g⟩ := gInt_elim g
  obtain ⟨x7, e7, g⟩ := gInt_elim g
  obtain ⟨x8, e8, g⟩ := gInt_elim g
  obtain ⟨x9, e9, g⟩ := gInt_elim g
  exact den_enter [(0, .slice a0 l0 c0), (1, .slice a1 l1 c1), (5, .int .i64 x5), (7, .int .u64 x7), (8, .int .u64 x8), (9, .int .u64 x9)] ⟨e0, e1, e5, e7, e8, e9, trivial⟩ (by kernel_rfl) g
def L8.g (N : Option Addr → Nat → Nat → Option Addr → Nat → Nat → Int → Int → Int → Int → Int → Hp → Prop) (fr : Fr) (h : Hp) : Prop := gSlice (fr 0) fun a0 l0 c0 => gSlice (fr 1) fun a1 l1 c1 => gInt .i64 (fr 5) fun x5 => gInt .u64 (fr 7) fun x7 => gInt .u64 (fr 8) fun x8 => gInt .u64 (fr 9) fun x9 => gInt .i64 (fr 13) fun x13 => N a0 l0 c0 a1 l1 c1 x5 x7 x8 x9 x13 h
def D9.t (R : Rt) (N3 : Option Addr → Nat → Nat → Option Addr → Nat → Nat → Int → Int → Int → Hp → Prop) (N8 : Option Addr → Nat → Nat → Option Addr → Nat → Nat → Int → Int → Int → Int → Int → Hp → Prop) (a0 : Option Addr) (l0 : Nat) (c0 : Nat) (a1 : Option Addr) (l1 : Nat) (c1 : Nat) (x5 : Int) (x7 : Int) (x8 : Int) (x9 : Int) (x13 : Int) (h : Hp) : Prop :=
  cond (decide (x13 ≤ x5)) (idxK a0 l0 x13 1 fun q21 =>
  ldK h q21 fun v22 =>
  gInt .u32 v22 fun x_23 =>
  letK (IntKind.u64.wrap x_23) fun n24 =>
  letK (IntKind.u64.wrap (x8 + n24)) fun n25 =>
  cond (decide (x13 < x5)) (idxK a1 l1 x13 1 fun q26 =>
  ldK h q26 fun v27 =>
  gInt .u32 v27 fun x_28 =>
  letK (IntKind.u64.wrap x_28) fun n29 =>
  letK (IntKind.u64.wrap (n25 + n29)) fun n30 =>
  letK (andI .u64 n30 4294967295) fun n31 =>
  letK (IntKind.u32.wrap n31) fun n32 =>
  idxK a0 l0 x13 1 fun q33 =>
  stK h q33 (.int .u32 n32) fun h34 =>
  0 ≤ (32 : Int) ∧ letK (shrI .u64 n30 32) fun n35 =>
  letK (IntKind.i64.wrap (x13 + 1)) fun n36 =>
  N8 a0 l0 c0 a1 l1 c1 x5 x7 n35 x9 n36 h34) (letK (andI .u64 n25 4294967295) fun n37 =>
  letK (IntKind.u32.wrap n37) fun n38 =>
  idxK a0 l0 x13 1 fun q39 =>
  stK h q39 (.int .u32 n38) fun h40 =>
  0 ≤ (32 : Int) ∧ letK (shrI .u64 n25 32) fun n41 =>
  letK (IntKind.i64.wrap (x13 + 1)) fun n42 =>
  N8 a0 l0 c0 a1 l1 c1 x5 x7 n41 x9 n42 h40)) (D6.t R N3 a0 l0 c0 a1 l1 c1 x5 x7 x8 x9 h)
def D9.g (R : Rt) (N3 : Option Addr → Nat → Nat → Option Addr → Nat → Nat → Int → Int → Int → Hp → Prop) (N8 : Option Addr → Nat → Nat → Option Addr → Nat → Nat → Int → Int → Int → Int → Int → Hp → Prop) (fr : Fr) (h : Hp) : Prop := gSlice (fr 0) fun a0 l0 c0 => gSlice (fr 1) fun a1 l1 c1 => gInt .i64 (fr 5) fun x5 => gInt .u64 (fr 7) fun x7 => gInt .u64 (fr 8) fun x8 => gInt .u64 (fr 9) fun x9 => gInt .i64 (fr 13) fun x13 => D9.t R N3 N8 a0 l0 c0 a1 l1 c1 x5 x7 x8 x9 x13 h
theorem D9.ok (R : Rt) (N3 : Option Addr → Nat → Nat → Option Addr → Nat → Nat → Int → Int → Int → Hp → Prop) (N8 : Option Addr → Nat → Nat → Option Addr → Nat → Nat → Int → Int → Int → Int → Int → Hp → Prop) (fr : Fr) (h : Hp) (g : D9.g R N3 N8 fr h) : den prog E (cAt C [true, true, true, true, true, true, false, false, false, true, false, true, true, false, true, false, false]) (Ex.then (L8.g N8) (Ex.inBlock 4 (Ex.then (D6.g R N3) (Ex.inBlock 3 (Ex.then (L3.g N3) (Ex.inBlock 2 (Ex.then (D2.g R) (retQ E [.tmp 4] R)))))))) fr h := by
  obtain ⟨a0, l0, c0, e0, g⟩ := gSlice_elim g
  obtain ⟨a1, l1, c1, e1, g⟩ := gSlice_elim g
  obtain ⟨x5, e5, g⟩ := gInt_elim g
  obtain ⟨x7, e7, g⟩ := gInt_elim g
  obtain ⟨x8, e8, g⟩ := gInt_elim g
  obtain ⟨x9, e9, g⟩ := gInt_elim g
  obtain ⟨x13, e13, g⟩ := gInt_elim g
  exact den_enter [(0, .slice a0 l0 c0), (1, .slice a1 l1 c1), (5, .int .i64 x5), (7, .int .u64 x7), (8, .int .u64 x8), (9, .int .u64 x9), (13, .int .i64 x13)] ⟨e0, e1, e5, e7, e8, e9, e13, trivial⟩ (by kernel_rfl) g
def L8.t (R : Rt) (N3 : Option Addr → Nat → Nat → Option Addr → Nat → Nat → Int → Int → Int → Hp → Prop) : Nat → Option Addr → Nat → Nat → Option Addr → Nat → Nat → Int → Int → Int → Int → Int → Hp → Prop
  | 0 => fun _ _ _ _ _ _ _ _ _ _ _ _ => False
  | n + 1 => fun a0 l0 c0 a1 l1 c1 x5 x7 x8 x9 x13 h => D9.t R N3 (L8.t R N3 n) a0 l0 c0 a1 l1 c1 x5 x7 x8 x9 x13 h
theorem L8.ok (R : Rt) (N3 : Option Addr → Nat → Nat → Option Addr → Nat → Nat → Int → Int → Int → Hp → Prop) (fr : Fr) (h : Hp) (g : L8.g (fun a0 l0 c0 a1 l1 c1 x5 x7 x8 x9 x13 h => ∃ n, L8.t R N3 n a0 l0 c0 a1 l1 c1 x5 x7 x8 x9 x13 h) fr h) : den prog E (cAt C [true, true, true, true, true, true, false, false, false, true, false, true, true, false, true, false]) (Ex.inBlock 4 (Ex.then (D6.g R N3) (Ex.inBlock 3 (Ex.then (L3.g N3) (Ex.inBlock 2 (Ex.then (D2.g R) (retQ E [.tmp 4] R))))))) fr h := by
  obtain ⟨a0, l0, c0, e0, g⟩ := gSlice_elim g
  obtain ⟨a1, l1, c1, e1, g⟩ := gSlice_elim g
  obtain ⟨x5, e5, g⟩ := gInt_elim g
  obtain ⟨x7, e7, g⟩ := gInt_elim g
  obtain ⟨x8, e8, g⟩ := gInt_elim g
  obtain ⟨x9, e9, g⟩ := gInt_elim g
  obtain ⟨x13, e13, g⟩ := gInt_elim g
  obtain ⟨n, g⟩ := g
  refine loop_ok (fun n => L8.g (L8.t R N3 n)) (b := (cAt C [true, true, true, true, true, true, false, false, false, true, false, true, true, false, true, false, false])) (by kernel_rfl) (fun fr h g => ?_) (fun n => D9.ok R N3 (L8.t R N3 n)) n fr h (gSlice_intro e0 (gSlice_intro e1 (gInt_intro e5 (gInt_intro e7 (gInt_intro e8 (gInt_intro e9 (gInt_intro e13 (g))))))))
  obtain ⟨a0, l0, c0, e0, g⟩ := gSlice_elim g
  obtain ⟨a1, l1, c1, e1, g⟩ := gSlice_elim g
  obtain ⟨x5, e5, g⟩ := gInt_elim g
  obtain ⟨x7, e7, g⟩ := gInt_elim g
  obtain ⟨x8, e8, g⟩ := gInt_elim g
  obtain ⟨x9, e9, g⟩ := gInt_elim g
  obtain ⟨x13, e13, g⟩ := gInt_elim g
  exact g
theorem B10.ok (R : Rt) (N3 : Option Addr → Nat → Nat → Option Addr → Nat → Nat → Int → Int → Int → Hp → Prop) (fr : Fr) (h : Hp) (g : L8.g (fun a0 l0 c0 a1 l1 c1 x5 x7 x8 x9 x13 h => ∃ n, L8.t R N3 n a0 l0 c0 a1 l1 c1 x5 x7 x8 x9 x13 h) fr h) : den prog E (cAt C [true, true, true, true, true, true, false, false, false, true, false, true, true, false, true]) (Ex.then (D6.g R N3) (Ex.inBlock 3 (Ex.then (L3.g N3) (Ex.inBlock 2 (Ex.then (D2.g R) (retQ E [.tmp 4] R)))))) fr h :=
  den_block (by kernel_rfl) (L8.ok R N3 fr h g)
def D7.t (R : Rt) (N3 : Option Addr → Nat → Nat → Option Addr → Nat → Nat → Int → Int → Int → Hp → Prop) (a0 : Option Addr) (l0 : Nat) (c0 : Nat) (a1 : Option Addr) (l1 : Nat) (c1 : Nat) (x5 : Int) (x7 : Int) (x8 : Int) (x9 : Int) (h : Hp) : Prop :=
  (∃ n, L8.t R N3 n a0 l0 c0 a1 l1 c1 x5 x7 x8 x9 0 h)
def D7.g (R : Rt) (N3 : Option Addr → Nat → Nat → Option Addr → Nat → Nat → Int → Int → Int → Hp → Prop) (fr : Fr) (h : Hp) : Prop := gSlice (fr 0) fun a0 l0 c0 => gSlice (fr 1) fun a1 l1 c1 => gInt .i64 (fr 5) fun x5 => gInt .u64 (fr 7) fun x7 => gInt .u64 (fr 8) fun x8 => gInt .u64 (fr 9) fun x9 => D7.t R N3 a0 l0 c0 a1 l1 c1 x5 x7 x8 x9 h
theorem D7.ok (R : Rt) (N3 : Option Addr → Nat → Nat → Option Addr → Nat → Nat → Int → Int → Int → Hp → Prop) (fr : Fr) (h : Hp) (g : D7.g R N3 fr h) : den prog E (cAt C [true, true, true, true, true, true, false, false, false, true, false, true, true, false]) (Ex.then (D6.g R N3) (Ex.inBlock 3 (Ex.then (L3.g N3) (Ex.inBlock 2 (Ex.then (D2.g R) (retQ E [.tmp 4] R)))))) fr h := by
  obtain ⟨a0, l0, c0, e0, g⟩ := gSlice_elim g
  obtain ⟨a1, l1, c1, e1, g⟩ := gSlice_elim g
  obtain ⟨x5, e5, g⟩ := gInt_elim g
  obtain ⟨x7, e7, g⟩ := gInt_elim g
  obtain ⟨x8, e8, g⟩ := gInt_elim g
  obtain ⟨x9, e9, g⟩ := gInt_elim g
  exact den_cut 1 (r := (cAt C [true, true, true, true, true, true, false, false, false, true, false, true, true, false, true])) (by kernel_rfl) (B10.ok R N3) (den_enter [(0, .slice a0 l0 c0), (1, .slice a1 l1 c1), (5, .int .i64 x5), (7, .int .u64 x7), (8, .int .u64 x8), (9, .int .u64 x9)] ⟨e0, e1, e5, e7, e8, e9, trivial⟩ (by kernel_rfl) g)
theorem W11.ok (R : Rt) (N3 : Option Addr → Nat → Nat → Option Addr → Nat → Nat → Int → Int → Int → Hp → Prop) (fr : Fr) (h : Hp) (g : D7.g R N3 fr h) : den prog E (cAt C [true, true, true, true, true, true, false, false, false, true, false, true, true]) (Ex.inBlock 3 (Ex.then (L3.g N3) (Ex.inBlock 2 (Ex.then (D2.g R) (retQ E [.tmp 4] R))))) fr h :=
  den_then (by kernel_rfl) (D6.ok R N3) (D7.ok R N3 fr h g)
def D5.t (R : Rt) (N3 : Option Addr → Nat → Nat → Option Addr → Nat → Nat → Int → Int → Int → Hp → Prop) (a0 : Option Addr) (l0 : Nat) (c0 : Nat) (a1 : Option Addr) (l1 : Nat) (c1 : Nat) (x5 : Int) (x7 : Int) (x9 : Int) (h : Hp) : Prop :=
  letK (IntKind.u64.wrap (x7 - 1)) fun n19 => D7.t R N3 a0 l0 c0 a1 l1 c1 x5 n19 0 x9 h
def D5.g (R : Rt) (N3 : Option Addr → Nat → Nat → Option Addr → Nat → Nat → Int → Int → Int → Hp → Prop) (fr : Fr) (h : Hp) : Prop := gSlice (fr 0) fun a0 l0 c0 => gSlice (fr 1) fun a1 l1 c1 => gInt .i64 (fr 5) fun x5 => gInt .u64 (fr 7) fun x7 => gInt .u64 (fr 9) fun x9 => D5.t R N3 a0 l0 c0 a1 l1 c1 x5 x7 x9 h
theorem D5.ok (R : Rt) (N3 : Option Addr → Nat → Nat → Option Addr → Nat → Nat → Int → Int → Int → Hp → Prop) (fr : Fr) (h : Hp) (g : D5.g R N3 fr h) : den prog E (cAt C [true, true, true, true, true, true, false, false, false, true, false]) (Ex.inBlock 3 (Ex.then (L3.g N3) (Ex.inBlock 2 (Ex.then (D2.g R) (retQ E [.tmp 4] R))))) fr h := by
  obtain ⟨a0, l0, c0, e0, g⟩ := gSlice_elim g
  obtain ⟨a1, l1, c1, e1, g⟩ := gSlice_elim g
  obtain ⟨x5, e5, g⟩ := gInt_elim g
  obtain ⟨x7, e7, g⟩ := gInt_elim g
  obtain ⟨x9, e9, g⟩ := gInt_elim g
  exact den_cut 2 (r := (cAt C [true, true, true, true, true, true, false, false, false, true, false, true, true])) (by kernel_rfl) (W11.ok R N3) (den_enter [(0, .slice a0 l0 c0), (1, .slice a1 l1 c1), (5, .int .i64 x5), (7, .int .u64 x7), (9, .int .u64 x9)] ⟨e0, e1, e5, e7, e9, trivial⟩ (by kernel_rfl) g)
theorem B12.ok (R : Rt) (N3 : Option Addr → Nat → Nat → Option Addr → Nat → Nat → Int → Int → Int → Hp → Prop) (fr : Fr) (h : Hp) (g : D5.g R N3 fr h) : den prog E (cAt C [true, true, true, true, true, true, false, false, false, true]) (Ex.then (L3.g N3) (Ex.inBlock 2 (Ex.then (D2.g R) (retQ E [.tmp 4] R)))) fr h :=
  den_block (by kernel_rfl) (D5.ok R N3 fr h g)
def D4.t (R : Rt) (N3 : Option Addr → Nat → Nat → Option Addr → Nat → Nat → Int → Int → Int → Hp → Prop) (a0 : Option Addr) (l0 : Nat) (c0 : Nat) (a1 : Option Addr) (l1 : Nat) (c1 : Nat) (x5 : Int) (x7 : Int) (x9 : Int) (h : Hp) : Prop :=
  cond (decide (x9 > 0)) (D5.t R N3 a0 l0 c0 a1 l1 c1 x5 x7 x9 h) (D2.t R x7 h)
def D4.g (R : Rt) (N3 : Option Addr → Nat → Nat → Option Addr → Nat → Nat → Int → Int → Int → Hp → Prop) (fr : Fr) (h : Hp) : Prop := gSlice (fr 0) fun a0 l0 c0 => gSlice (fr 1) fun a1 l1 c1 => gInt .i64 (fr 5) fun x5 => gInt .u64 (fr 7) fun x7 => gInt .u64 (fr 9) fun x9 => D4.t R N3 a0 l0 c0 a1 l1 c1 x5 x7 x9 h
theorem D4.ok (R : Rt) (N3 : Option Addr → Nat → Nat → Option Addr → Nat → Nat → Int → Int → Int → Hp → Prop) (fr : Fr) (h : Hp) (g : D4.g R N3 fr h) : den prog E (cAt C [true, true, true, true, true, true, false, false, false]) (Ex.then (L3.g N3) (Ex.inBlock 2 (Ex.then (D2.g R) (retQ E [.tmp 4] R)))) fr h := by
  obtain ⟨a0, l0, c0, e0, g⟩ := gSlice_elim g
  obtain ⟨a1, l1, c1, e1, g⟩ := gSlice_elim g
  obtain ⟨x5, e5, g⟩ := gInt_elim g
  obtain ⟨x7, e7, g⟩ := gInt_elim g
  obtain ⟨x9, e9, g⟩ := gInt_elim g
  exact den_cut 1 (r := (cAt C [true, true, true, true, true, true, false, false, false, true])) (by kernel_rfl) (B12.ok R N3) (den_enter [(0, .slice a0 l0 c0), (1, .slice a1 l1 c1), (5, .int .i64 x5), (7, .int .u64 x7), (9, .int .u64 x9)] ⟨e0, e1, e5, e7, e9, trivial⟩ (by kernel_rfl) g)
def L3.t (R : Rt) : Nat → Option Addr → Nat → Nat → Option Addr → Nat → Nat → Int → Int → Int → Hp → Prop
  | 0 => fun _ _ _ _ _ _ _ _ _ _ => False
  | n + 1 => fun a0 l0 c0 a1 l1 c1 x5 x7 x9 h => D4.t R (L3.t R n) a0 l0 c0 a1 l1 c1 x5 x7 x9 h
theorem L3.ok (R : Rt) (fr : Fr) (h : Hp) (g : L3.g (fun a0 l0 c0 a1 l1 c1 x5 x7 x9 h => ∃ n, L3.t R n a0 l0 c0 a1 l1 c1 x5 x7 x9 h) fr h) : den prog E (cAt C [true, true, true, true, true, true, false, false]) (Ex.inBlock 2 (Ex.then (D2.g R) (retQ E [.tmp 4] R))) fr h := by
  obtain ⟨a0, l0, c0, e0, g⟩ := gSlice_elim g
  obtain ⟨a1, l1, c1, e1, g⟩ := gSlice_elim g
  obtain ⟨x5, e5, g⟩ := gInt_elim g
  obtain ⟨x7, e7, g⟩ := gInt_elim g
  obtain ⟨x9, e9, g⟩ := gInt_elim g
  obtain ⟨n, g⟩ := g
  refine loop_ok (fun n => L3.g (L3.t R n)) (b := (cAt C [true, true, true, true, true, true, false, false, false])) (by kernel_rfl) (fun fr h g => ?_) (fun n => D4.ok R (L3.t R n)) n fr h (gSlice_intro e0 (gSlice_intro e1 (gInt_intro e5 (gInt_intro e7 (gInt_intro e9 (g))))))
  obtain ⟨a0, l0, c0, e0, g⟩ := gSlice_elim g
  obtain ⟨a1, l1, c1, e1, g⟩ := gSlice_elim g
  obtain ⟨x5, e5, g⟩ := gInt_elim g
  obtain ⟨x7, e7, g⟩ := gInt_elim g
  obtain ⟨x9, e9, g⟩ := gInt_elim g
  exact g
theorem B13.ok (R : Rt) (fr : Fr) (h : Hp) (g : L3.g (fun a0 l0 c0 a1 l1 c1 x5 x7 x9 h => ∃ n, L3.t R n a0 l0 c0 a1 l1 c1 x5 x7 x9 h) fr h) : den prog E (cAt C [true, true, true, true, true, true, false]) (Ex.then (D2.g R) (retQ E [.tmp 4] R)) fr h :=
  den_block (by kernel_rfl) (L3.ok R fr h g)
theorem W14.ok (R : Rt) (fr : Fr) (h : Hp) (g : L3.g (fun a0 l0 c0 a1 l1 c1 x5 x7 x9 h => ∃ n, L3.t R n a0 l0 c0 a1 l1 c1 x5 x7 x9 h) fr h) : den prog E (cAt C [true, true, true, true, true, true]) (retQ E [.tmp 4] R) fr h :=
  den_then (by kernel_rfl) (D2.ok R) (B13.ok R fr h g)
def L16.g (N : Option Addr → Nat → Nat → Option Addr → Nat → Nat → Int → Int → Int → Int → Int → Hp → Prop) (fr : Fr) (h : Hp) : Prop := gSlice (fr 0) fun a0 l0 c0 => gSlice (fr 1) fun a1 l1 c1 => gInt .i64 (fr 5) fun x5 => gInt .u64 (fr 7) fun x7 => gInt .u64 (fr 8) fun x8 => gInt .u64 (fr 9) fun x9 => gInt .i64 (fr 10) fun x10 => N a0 l0 c0 a1 l1 c1 x5 x7 x8 x9 x10 h
def D17.t (R : Rt) (N16 : Option Addr → Nat → Nat → Option Addr → Nat → Nat → Int → Int → Int → Int → Int → Hp → Prop) (a0 : Option Addr) (l0 : Nat) (c0 : Nat) (a1 : Option Addr) (l1 : Nat) (c1 : Nat) (x5 : Int) (x7 : Int) (x8 : Int) (x9 : Int) (x10 : Int) (h : Hp) : Prop :=
  cond (decide (x10 ≤ x5)) (cond (decide (x10 < x5)) (idxK a1 l1 x10 1 fun q43 =>
  ldK h q43 fun v44 =>
  gInt .u32 v44 fun x_45 =>
  letK (IntKind.u64.wrap x_45) fun n46 =>
  letK (IntKind.u64.wrap (x7 * n46)) fun n47 =>
  letK (IntKind.u64.wrap (x8 + n47)) fun n48 =>
  letK (andI .u64 n48 4294967295) fun n49 =>
  letK (IntKind.u64.wrap (n49 + x9)) fun n50 =>
  0 ≤ (32 : Int) ∧ letK (shrI .u64 n48 32) fun n51 =>
  idxK a0 l0 x10 1 fun q52 =>
  ldK h q52 fun v53 =>
  gInt .u32 v53 fun x_54 =>
  letK (IntKind.u64.wrap x_54) fun n55 =>
  cond (decide (n55 < n50)) (letK (IntKind.u64.wrap (n55 + 4294967296)) fun n56 =>
  letK (IntKind.u64.wrap (n56 - n50)) fun n57 =>
  letK (IntKind.u32.wrap n57) fun n58 =>
  idxK a0 l0 x10 1 fun q59 =>
  stK h q59 (.int .u32 n58) fun h60 =>
  letK (IntKind.i64.wrap (x10 + 1)) fun n61 =>
  N16 a0 l0 c0 a1 l1 c1 x5 x7 n51 1 n61 h60) (letK (IntKind.u64.wrap (n55 - n50)) fun n62 =>
  letK (IntKind.u32.wrap n62) fun n63 =>
  idxK a0 l0 x10 1 fun q64 =>
  stK h q64 (.int .u32 n63) fun h65 =>
  letK (IntKind.i64.wrap (x10 + 1)) fun n66 =>
  N16 a0 l0 c0 a1 l1 c1 x5 x7 n51 0 n66 h65)) (letK (andI .u64 x8 4294967295) fun n67 =>
  letK (IntKind.u64.wrap (n67 + x9)) fun n68 =>
  0 ≤ (32 : Int) ∧ letK (shrI .u64 x8 32) fun n69 =>
  idxK a0 l0 x10 1 fun q70 =>
  ldK h q70 fun v71 =>
  gInt .u32 v71 fun x_72 =>
  letK (IntKind.u64.wrap x_72) fun n73 =>
  cond (decide (n73 < n68)) (letK (IntKind.u64.wrap (n73 + 4294967296)) fun n74 =>
  letK (IntKind.u64.wrap (n74 - n68)) fun n75 =>
  letK (IntKind.u32.wrap n75) fun n76 =>
  idxK a0 l0 x10 1 fun q77 =>
  stK h q77 (.int .u32 n76) fun h78 =>
  letK (IntKind.i64.wrap (x10 + 1)) fun n79 =>
  N16 a0 l0 c0 a1 l1 c1 x5 x7 n69 1 n79 h78) (letK (IntKind.u64.wrap (n73 - n68)) fun n80 =>
  letK (IntKind.u32.wrap n80) fun n81 =>
  idxK a0 l0 x10 1 fun q82 =>
  stK h q82 (.int .u32 n81) fun h83 =>
  letK (IntKind.i64.wrap (x10 + 1)) fun n84 =>
  N16 a0 l0 c0 a1 l1 c1 x5 x7 n69 0 n84 h83))) ((∃ n, L3.t R n a0 l0 c0 a1 l1 c1 x5 x7 x9 h))
def D17.g (R : Rt) (N16 : Option Addr → Nat → Nat → Option Addr → Nat → Nat → Int → Int → Int → Int → Int → Hp → Prop) (fr : Fr) (h : Hp) : Prop := gSlice (fr 0) fun a0 l0 c0 => gSlice (fr 1) fun a1 l1 c1 => gInt .i64 (fr 5) fun x5 => gInt .u64 (fr 7) fun x7 => gInt .u64 (fr 8) fun x8 => gInt .u64 (fr 9) fun x9 => gInt .i64 (fr 10) fun x10 => D17.t R N16 a0 l0 c0 a1 l1 c1 x5 x7 x8 x9 x10 h
theorem D17.ok (R : Rt) (N16 : Option Addr → Nat → Nat → Option Addr → Nat → Nat → Int → Int → Int → Int → Int → Hp → Prop) (fr : Fr) (h : Hp) (g : D17.g R N16 fr h) : den prog E (cAt C [true, true, true, true, true, false, true, false, false]) (Ex.then (L16.g N16) (Ex.inBlock 0 (Ex.then (L3.g (fun a0 l0 c0 a1 l1 c1 x5 x7 x9 h => ∃ n, L3.t R n a0 l0 c0 a1 l1 c1 x5 x7 x9 h)) (retQ E [.tmp 4] R)))) fr h := by
  obtain ⟨a0, l0, c0, e0, g⟩ := gSlice_elim g
  obtain ⟨a1, l1, c1, e1, g⟩ := gSlice_elim g
  obtain ⟨x5, e5, g⟩ := gInt_elim g
  obtain ⟨x7, e7, g⟩ := gInt_elim g
  obtain ⟨x8, e8, g⟩ := gInt_elim g
  obtain ⟨x9, e9, g⟩ := gInt_elim g
  obtain ⟨x10, e10, g⟩ := gInt_elim g
  exact den_enter [(0, .slice a0 l0 c0), (1, .slice a1 l1 c1), (5, .int .i64 x5), (7, .int .u64 x7), (8, .int .u64 x8), (9, .int .u64 x9), (10, .int .i64 x10)] ⟨e0, e1, e5, e7, e8, e9, e10, trivial⟩ (by kernel_rfl) g
def L16.t (R : Rt) : Nat → Option Addr → Nat → Nat → Option Addr → Nat → Nat → Int → Int → Int → Int → Int → Hp → Prop
  | 0 => fun _ _ _ _ _ _ _ _ _ _ _ _ => False
  | n + 1 => fun a0 l0 c0 a1 l1 c1 x5 x7 x8 x9 x10 h => D17.t R (L16.t R n) a0 l0 c0 a1 l1 c1 x5 x7 x8 x9 x10 h
theorem L16.ok (R : Rt) (fr : Fr) (h : Hp) (g : L16.g (fun a0 l0 c0 a1 l1 c1 x5 x7 x8 x9 x10 h => ∃ n, L16.t R n a0 l0 c0 a1 l1 c1 x5 x7 x8 x9 x10 h) fr h) : den prog E (cAt C [true, true, true, true, true, false, true, false]) (Ex.inBlock 0 (Ex.then (L3.g (fun a0 l0 c0 a1 l1 c1 x5 x7 x9 h => ∃ n, L3.t R n a0 l0 c0 a1 l1 c1 x5 x7 x9 h)) (retQ E [.tmp 4] R))) fr h := by
  obtain ⟨a0, l0, c0, e0, g⟩ := gSlice_elim g
  obtain ⟨a1, l1, c1, e1, g⟩ := gSlice_elim g
  obtain ⟨x5, e5, g⟩ := gInt_elim g
  obtain ⟨x7, e7, g⟩ := gInt_elim g
  obtain ⟨x8, e8, g⟩ := gInt_elim g
  obtain ⟨x9, e9, g⟩ := gInt_elim g
  obtain ⟨x10, e10, g⟩ := gInt_elim g
  obtain ⟨n, g⟩ := g
  refine loop_ok (fun n => L16.g (L16.t R n)) (b := (cAt C [true, true, true, true, true, false, true, false, false])) (by kernel_rfl) (fun fr h g => ?_) (fun n => D17.ok R (L16.t R n)) n fr h (gSlice_intro e0 (gSlice_intro e1 (gInt_intro e5 (gInt_intro e7 (gInt_intro e8 (gInt_intro e9 (gInt_intro e10 (g))))))))
  obtain ⟨a0, l0, c0, e0, g⟩ := gSlice_elim g
  obtain ⟨a1, l1, c1, e1, g⟩ := gSlice_elim g
  obtain ⟨x5, e5, g⟩ := gInt_elim g
  obtain ⟨x7, e7, g⟩ := gInt_elim g
  obtain ⟨x8, e8, g⟩ := gInt_elim g
  obtain ⟨x9, e9, g⟩ := gInt_elim g
  obtain ⟨x10, e10, g⟩ := gInt_elim g
  exact g
theorem B18.ok (R : Rt) (fr : Fr) (h : Hp) (g : L16.g (fun a0 l0 c0 a1 l1 c1 x5 x7 x8 x9 x10 h => ∃ n, L16.t R n a0 l0 c0 a1 l1 c1 x5 x7 x8 x9 x10 h) fr h) : den prog E (cAt C [true, true, true, true, true, false, true]) (Ex.then (L3.g (fun a0 l0 c0 a1 l1 c1 x5 x7 x9 h => ∃ n, L3.t R n a0 l0 c0 a1 l1 c1 x5 x7 x9 h)) (retQ E [.tmp 4] R)) fr h :=
  den_block (by kernel_rfl) (L16.ok R fr h g)
def D15.t (R : Rt) (a0 : Option Addr) (l0 : Nat) (c0 : Nat) (a1 : Option Addr) (l1 : Nat) (c1 : Nat) (x5 : Int) (x7 : Int) (x8 : Int) (x9 : Int) (h : Hp) : Prop :=
  (∃ n, L16.t R n a0 l0 c0 a1 l1 c1 x5 x7 x8 x9 0 h)
def D15.g (R : Rt) (fr : Fr) (h : Hp) : Prop := gSlice (fr 0) fun a0 l0 c0 => gSlice (fr 1) fun a1 l1 c1 => gInt .i64 (fr 5) fun x5 => gInt .u64 (fr 7) fun x7 => gInt .u64 (fr 8) fun x8 => gInt .u64 (fr 9) fun x9 => D15.t R a0 l0 c0 a1 l1 c1 x5 x7 x8 x9 h
theorem D15.ok (R : Rt) (fr : Fr) (h : Hp) (g : D15.g R fr h) : den prog E (cAt C [true, true, true, true, true, false]) (Ex.then (L3.g (fun a0 l0 c0 a1 l1 c1 x5 x7 x9 h => ∃ n, L3.t R n a0 l0 c0 a1 l1 c1 x5 x7 x9 h)) (retQ E [.tmp 4] R)) fr h := by
  obtain ⟨a0, l0, c0, e0, g⟩ := gSlice_elim g
  obtain ⟨a1, l1, c1, e1, g⟩ := gSlice_elim g
  obtain ⟨x5, e5, g⟩ := gInt_elim g
  obtain ⟨x7, e7, g⟩ := gInt_elim g
  obtain ⟨x8, e8, g⟩ := gInt_elim g
  obtain ⟨x9, e9, g⟩ := gInt_elim g
  exact den_cut 1 (r := (cAt C [true, true, true, true, true, false, true])) (by kernel_rfl) (B18.ok R) (den_enter [(0, .slice a0 l0 c0), (1, .slice a1 l1 c1), (5, .int .i64 x5), (7, .int .u64 x7), (8, .int .u64 x8), (9, .int .u64 x9)] ⟨e0, e1, e5, e7, e8, e9, trivial⟩ (by kernel_rfl) g)
theorem W19.ok (R : Rt) (fr : Fr) (h : Hp) (g : D15.g R fr h) : den prog E (cAt C [true, true, true, true, true]) (retQ E [.tmp 4] R) fr h :=
  den_then (by kernel_rfl) (W14.ok R) (D15.ok R fr h g)
def D1.t (R : Rt) (a0 : Option Addr) (l0 : Nat) (c0 : Nat) (a1 : Option Addr) (l1 : Nat) (c1 : Nat) (h : Hp) : Prop :=
  idxK a0 l0 (((l1 : Nat) : Int)) 1 fun q1 =>
  ldK h q1 fun v2 =>
  gInt .u32 v2 fun x_3 =>
  letK (IntKind.u64.wrap x_3) fun n4 =>
  0 ≤ (32 : Int) ∧ letK (shlI .u64 n4 32) fun n5 =>
  letK (IntKind.i64.wrap ((((l1 : Nat) : Int)) - 1)) fun n6 =>
  idxK a0 l0 n6 1 fun q7 =>
  ldK h q7 fun v8 =>
  gInt .u32 v8 fun x_9 =>
  letK (IntKind.u64.wrap x_9) fun n10 =>
  letK (IntKind.u64.wrap (n5 + n10)) fun n11 =>
  letK (IntKind.i64.wrap ((((l1 : Nat) : Int)) - 1)) fun n12 =>
  idxK a1 l1 n12 1 fun q13 =>
  ldK h q13 fun v14 =>
  gInt .u32 v14 fun x_15 =>
  letK (IntKind.u64.wrap x_15) fun n16 =>
  n16 ≠ 0 ∧ letK (IntKind.u64.wrap (Int.tdiv n11 n16)) fun n17 =>
  D15.t R a0 l0 c0 a1 l1 c1 (((l1 : Nat) : Int)) (if 4294967295 < n17 then 4294967295 else n17) 0 0 h
def D1.g (R : Rt) (fr : Fr) (h : Hp) : Prop := gSlice (fr 0) fun a0 l0 c0 => gSlice (fr 1) fun a1 l1 c1 => D1.t R a0 l0 c0 a1 l1 c1 h
theorem D1.ok (R : Rt) (fr : Fr) (h : Hp) (g : D1.g R fr h) : den prog E C (retQ E [.tmp 4] R) fr h := by
  obtain ⟨a0, l0, c0, e0, g⟩ := gSlice_elim g
  obtain ⟨a1, l1, c1, e1, g⟩ := gSlice_elim g
  exact den_cut 5 (r := (cAt C [true, true, true, true, true])) (by kernel_rfl) (W19.ok R) (den_enter [(0, .slice a0 l0 c0), (1, .slice a1 l1 c1)] ⟨e0, e1, trivial⟩ (by kernel_rfl) g)
def t (a0 : Option Addr) (l0 : Nat) (c0 : Nat) (a1 : Option Addr) (l1 : Nat) (c1 : Nat) (h : Hp) (R : Rt) : Prop := D1.t R a0 l0 c0 a1 l1 c1 h
theorem ok {a0 : Option Addr} {l0 : Nat} {c0 : Nat} {a1 : Option Addr} {l1 : Nat} {c1 : Nat} {h : Hp} {R : Rt} (g : t a0 l0 c0 a1 l1 c1 h R) : HC id #[.slice a0 l0 c0, .slice a1 l1 c1] h R :=
  calls_of_den' envOk (c := C) (rs := [.tmp 4]) Tryz.func129 (by kernel_rfl) (by kernel_rfl) (by kernel_rfl) (args := [.slice a0 l0 c0, .slice a1 l1 c1]) (by kernel_rfl) (D1.ok R _ h (gSlice_intro rfl (gSlice_intro rfl (g))))
end gnomonref01_digit

namespace gnomonref01_Bit
noncomputable def C : Code := bodyOf Tryz.f130
def D2.t (R : Rt) (a0 : Option Addr) (l0 : Nat) (c0 : Nat) (x1 : Int) (h : Hp) : Prop :=
  (32 : Int) ≠ 0 ∧ letK (IntKind.i64.wrap (Int.tdiv x1 32)) fun n2 =>
  idxK a0 l0 n2 1 fun q3 =>
  ldK h q3 fun v4 =>
  gInt .u32 v4 fun x_5 =>
  (32 : Int) ≠ 0 ∧ letK (Int.tmod x1 32) fun n6 =>
  0 ≤ n6 ∧ letK (shrI .u32 x_5 n6) fun n7 =>
  letK (andI .u32 n7 1) fun n8 =>
  letK (IntKind.i64.wrap n8) fun n9 =>
  R (.int .i64 n9) h
def D2.g (R : Rt) (fr : Fr) (h : Hp) : Prop := gSlice (fr 0) fun a0 l0 c0 => gInt .i64 (fr 1) fun x1 => D2.t R a0 l0 c0 x1 h
theorem D2.ok (R : Rt) (fr : Fr) (h : Hp) (g : D2.g R fr h) : den prog E (cAt C [true, true]) (retQ E [.tmp 4] R) fr h := by
  obtain ⟨a0, l0, c0, e0, g⟩ := gSlice_elim g
  obtain ⟨x1, e1, g⟩ := gInt_elim g
  exact den_enter [(0, .slice a0 l0 c0), (1, .int .i64 x1)] ⟨e0, e1, trivial⟩ (by kernel_rfl) g
def D1.t (R : Rt) (a0 : Option Addr) (l0 : Nat) (c0 : Nat) (x1 : Int) (h : Hp) : Prop :=
  cond (decide (x1 < 0)) (R (.int .i64 0) h) ((32 : Int) ≠ 0 ∧ letK (IntKind.i64.wrap (Int.tdiv x1 32)) fun n1 =>
  cond (decide (n1 ≥ (((l0 : Nat) : Int)))) (R (.int .i64 0) h) (D2.t R a0 l0 c0 x1 h))
def D1.g (R : Rt) (fr : Fr) (h : Hp) : Prop := gSlice (fr 0) fun a0 l0 c0 => gInt .i64 (fr 1) fun x1 => D1.t R a0 l0 c0 x1 h
theorem D1.ok (R : Rt) (fr : Fr) (h : Hp) (g : D1.g R fr h) : den prog E C (retQ E [.tmp 4] R) fr h := by
  obtain ⟨a0, l0, c0, e0, g⟩ := gSlice_elim g
  obtain ⟨x1, e1, g⟩ := gInt_elim g
  exact den_cut 2 (r := (cAt C [true, true])) (by kernel_rfl) (D2.ok R) (den_enter [(0, .slice a0 l0 c0), (1, .int .i64 x1)] ⟨e0, e1, trivial⟩ (by kernel_rfl) g)
def t (a0 : Option Addr) (l0 : Nat) (c0 : Nat) (x1 : Int) (h : Hp) (R : Rt) : Prop := D1.t R a0 l0 c0 x1 h
theorem ok {a0 : Option Addr} {l0 : Nat} {c0 : Nat} {x1 : Int} {h : Hp} {R : Rt} (g : t a0 l0 c0 x1 h R) : HC id #[.slice a0 l0 c0, .int .i64 x1] h R :=
  calls_of_den' envOk (c := C) (rs := [.tmp 4]) Tryz.func130 (by kernel_rfl) (by kernel_rfl) (by kernel_rfl) (args := [.slice a0 l0 c0, .int .i64 x1]) (by kernel_rfl) (D1.ok R _ h (gSlice_intro rfl (gInt_intro rfl (g))))
end gnomonref01_Bit

end Go.Proofs.YtanlcacaihdceaaGreatDoor.G
