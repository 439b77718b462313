/- Texts of this work, joined: Fp0. -/
import Derived.Test.YtjijdlkpmngolaaGreatKE
/- Functions of the translation as predicates over heaps, and that their calls do so. Written by a program of this work. -/
namespace Go.Proofs.YtjijdlkpmngolaaGreat.G
open Go.Gv
set_option linter.unusedVariables false
set_option maxRecDepth 100000

namespace gnomonlaw13_NearpiConvergents
noncomputable def C : Code := bodyOf Tryz.f4
def D1.t (R : Rt) (x0 : Int) (h : Hp) : Prop :=
  HC gnomonlaw13_awake.id #[] h fun v1 h2 =>
  gBool v1 fun b_3 =>
  cond b_3 (HC gnomonlaw13_plays.id #[.agg #[.int .i64 2, .int .i64 x0, .int .i64 0]] h2 fun v4 h5 =>
  gBool v4 fun b_6 =>
  R (.bool b_6) h5) (R (.bool false) h2)
def D1.g (R : Rt) (fr : Fr) (h : Hp) : Prop := gInt .i64 (fr 0) fun x0 => D1.t R x0 h
theorem D1.ok (R : Rt) (fr : Fr) (h : Hp) (g : D1.g R fr h) : den prog E C (retQ E [.tmp 2] R) fr h := by
  obtain ⟨x0, e0, g⟩ := gInt_elim g
  exact den_enter [(0, .int .i64 x0)] ⟨e0, trivial⟩ (by kernel_rfl) g
def t (x0 : Int) (h : Hp) (R : Rt) : Prop := D1.t R x0 h
theorem ok {x0 : Int} {h : Hp} {R : Rt} (g : t x0 h R) : HC id #[.int .i64 x0] h R :=
  calls_of_den' envOk (c := C) (rs := [.tmp 2]) Tryz.func4 (by kernel_rfl) (by kernel_rfl) (by kernel_rfl) (args := [.int .i64 x0]) (by kernel_rfl) (D1.ok R _ h (gInt_intro rfl (g)))
end gnomonlaw13_NearpiConvergents







namespace gnomonlaw13_awake
noncomputable def C : Code := bodyOf Tryz.f11
def D3.t (R : Rt) (q6 : Addr) (h : Hp) : Prop :=
  ldK h (q6.add 0) fun v47 =>
  gInt .u64 v47 fun x_48 =>
  cond (x_48 == 3) (ldK h (q6.add 1) fun v49 =>
  gSlice v49 fun a_50 l_50 c_50 =>
  boxK h 35 [.int .u64 2] fun q51 h52 =>
  HQC gnomonref01_Same.id #[.slice a_50 l_50 c_50, .slice (some q51) 1 1] h52 fun v53 =>
  gBool v53 fun b_54 =>
  cond b_54 (ldK h52 (q6.add 2) fun v55 =>
  gInt .i64 v55 fun x_56 =>
  R (.bool (x_56 == 3)) h52) (R (.bool false) h52)) (R (.bool false) h)
def D3.g (R : Rt) (fr : Fr) (h : Hp) : Prop := gPtrS (fr 6) fun q6 => D3.t R q6 h
theorem D3.ok (R : Rt) (fr : Fr) (h : Hp) (g : D3.g R fr h) : den prog E (cAt C [true, true, true, true, true, true]) (retQ E [.tmp 0] R) fr h := by
  obtain ⟨q6, e6, g⟩ := gPtrS_elim g
  exact den_enter [(6, .pointer (some q6))] ⟨e6, trivial⟩ (by kernel_rfl) g
def D2.t (R : Rt) (a1 : Option Addr) (l1 : Nat) (c1 : Nat) (a3 : Option Addr) (l3 : Nat) (c3 : Nat) (a4 : Option Addr) (l4 : Nat) (c4 : Nat) (q6 : Addr) (h : Hp) : Prop :=
  boxK h 35 [.int .u64 1, .int .u64 1, .int .u64 1, .int .u64 3, .int .u64 31] fun q35 h36 =>
  HQC gnomonref01_Same.id #[.slice a1 l1 c1, .slice (some q35) 5 5] h36 fun v37 =>
  gBool v37 fun b_38 =>
  cond (!b_38) (R (.bool false) h36) (boxK h36 35 [.int .u64 11] fun q39 h40 =>
  HQC gnomonref01_Same.id #[.slice a3 l3 c3, .slice (some q39) 1 1] h40 fun v41 =>
  gBool v41 fun b_42 =>
  cond (!b_42) (R (.bool false) h40) (boxK h40 35 [.int .u64 7] fun q43 h44 =>
  HQC gnomonref01_Same.id #[.slice a4 l4 c4, .slice (some q43) 1 1] h44 fun v45 =>
  gBool v45 fun b_46 =>
  cond (!b_46) (R (.bool false) h44) (D3.t R q6 h44)))
def D2.g (R : Rt) (fr : Fr) (h : Hp) : Prop := gSlice (fr 1) fun a1 l1 c1 => gSlice (fr 3) fun a3 l3 c3 => gSlice (fr 4) fun a4 l4 c4 => gPtrS (fr 6) fun q6 => D2.t R a1 l1 c1 a3 l3 c3 a4 l4 c4 q6 h
theorem D2.ok (R : Rt) (fr : Fr) (h : Hp) (g : D2.g R fr h) : den prog E (cAt C [true, true, true, true, true]) (retQ E [.tmp 0] R) fr h := by
  obtain ⟨a1, l1, c1, e1, g⟩ := gSlice_elim g
  obtain ⟨a3, l3, c3, e3, g⟩ := gSlice_elim g
  obtain ⟨a4, l4, c4, e4, g⟩ := gSlice_elim g
  obtain ⟨q6, e6, g⟩ := gPtrS_elim g
  exact den_cut 1 (r := (cAt C [true, true, true, true, true, true])) (by kernel_rfl) (D3.ok R) (den_enter [(1, .slice a1 l1 c1), (3, .slice a3 l3 c3), (4, .slice a4 l4 c4), (6, .pointer (some q6))] ⟨e1, e3, e4, e6, trivial⟩ (by kernel_rfl) g)
def D1.t (R : Rt)  (h : Hp) : Prop :=
  HC nearpi_Terms.id #[.int .i64 5] h fun v1 h2 =>
  gTup v1 fun y3 =>
  uncons y3 fun v4 y4 =>
  gSlice v4 fun a_5 l_5 c_5 =>
  uncons y4 fun v6 y6 =>
  gInt .i64 v6 fun x_7 =>
  unnil y6 <| HC nearpi_Convergent.id #[.int .i64 3] h2 fun v8 h9 =>
  gTup v8 fun y10 =>
  uncons y10 fun v11 y11 =>
  gSlice v11 fun a_12 l_12 c_12 =>
  uncons y11 fun v13 y13 =>
  gSlice v13 fun a_14 l_14 c_14 =>
  uncons y13 fun v15 y15 =>
  gInt .i64 v15 fun x_16 =>
  unnil y15 <| HC nearpi_Nearest.id #[.int .i64 2, .int .i64 0] h9 fun v17 h18 =>
  gTup v17 fun y19 =>
  uncons y19 fun v20 y20 =>
  gAgg v20 fun y21 =>
  uncons y21 fun v22 y22 =>
  gInt .u64 v22 fun x_23 =>
  uncons y22 fun v24 y24 =>
  gSlice v24 fun a_25 l_25 c_25 =>
  uncons y24 fun v26 y26 =>
  gInt .i64 v26 fun x_27 =>
  unnil y26 <| uncons y20 fun v28 y28 =>
  gInt .i64 v28 fun x_29 =>
  unnil y28 <| boxK h18 39 T39.zs fun q30 h31 =>
  stK h31 (q30.add 0) (.int .u64 x_23) fun h32 =>
  stK h32 (q30.add 1) (.slice a_25 l_25 c_25) fun h33 =>
  stK h33 (q30.add 2) (.int .i64 x_27) fun h34 =>
  cond (x_7 != 0) (R (.bool false) h34) (cond (x_16 != 0) (R (.bool false) h34) (cond (x_29 != 0) (R (.bool false) h34) (D2.t R a_5 l_5 c_5 a_12 l_12 c_12 a_14 l_14 c_14 q30 h34)))
def D1.g (R : Rt) (fr : Fr) (h : Hp) : Prop := D1.t R  h
theorem D1.ok (R : Rt) (fr : Fr) (h : Hp) (g : D1.g R fr h) : den prog E C (retQ E [.tmp 0] R) fr h := by
  exact den_cut 5 (r := (cAt C [true, true, true, true, true])) (by kernel_rfl) (D2.ok R) (den_enter [] trivial (by kernel_rfl) g)
def t  (h : Hp) (R : Rt) : Prop := D1.t R h
theorem ok  {h : Hp} {R : Rt} (g : t  h R) : HC id #[] h R :=
  calls_of_den' envOk (c := C) (rs := [.tmp 0]) Tryz.func11 (by kernel_rfl) (by kernel_rfl) (by kernel_rfl) (args := []) (by kernel_rfl) (D1.ok R _ h (g))
end gnomonlaw13_awake

namespace gnomonlaw13_plays
noncomputable def C : Code := bodyOf Tryz.f12
def D1.t (R : Rt) (x0_0 : Int) (x0_1 : Int) (x0_2 : Int) (h : Hp) : Prop :=
  boxK h 25 [.int .i64 x0_0, .int .i64 x0_1, .int .i64 x0_2] fun q1 h2 =>
  ldK h2 (q1.add 0) fun v3 =>
  gInt .i64 v3 fun x_4 =>
  cond (x_4 == 1) (ldK h2 (q1.add 1) fun v5 =>
  gInt .i64 v5 fun x_6 =>
  HC nearpi_Terms.id #[.int .i64 x_6] h2 fun v7 h8 =>
  gTup v7 fun y9 =>
  uncons y9 fun v10 y10 =>
  gSlice v10 fun a_11 l_11 c_11 =>
  uncons y10 fun v12 y12 =>
  gInt .i64 v12 fun x_13 =>
  unnil y12 <| ldK h8 (q1.add 1) fun v14 =>
  gInt .i64 v14 fun x_15 =>
  HC gnomonref13_DocTerms.id #[.int .i64 x_15] h8 fun v16 h17 =>
  gTup v16 fun y18 =>
  uncons y18 fun v19 y19 =>
  gSlice v19 fun a_20 l_20 c_20 =>
  uncons y19 fun v21 y21 =>
  gInt .i64 v21 fun x_22 =>
  unnil y21 <| HQC gnomonref01_Same.id #[.slice a_11 l_11 c_11, .slice a_20 l_20 c_20] h17 fun v23 =>
  gBool v23 fun b_24 =>
  cond b_24 (R (.bool (x_13 == x_22)) h17) (R (.bool false) h17)) (cond (x_4 == 2) (ldK h2 (q1.add 1) fun v25 =>
  gInt .i64 v25 fun x_26 =>
  HC nearpi_Convergent.id #[.int .i64 x_26] h2 fun v27 h28 =>
  gTup v27 fun y29 =>
  uncons y29 fun v30 y30 =>
  gSlice v30 fun a_31 l_31 c_31 =>
  uncons y30 fun v32 y32 =>
  gSlice v32 fun a_33 l_33 c_33 =>
  uncons y32 fun v34 y34 =>
  gInt .i64 v34 fun x_35 =>
  unnil y34 <| ldK h28 (q1.add 1) fun v36 =>
  gInt .i64 v36 fun x_37 =>
  HC gnomonref13_DocConvergent.id #[.int .i64 x_37] h28 fun v38 h39 =>
  gTup v38 fun y40 =>
  uncons y40 fun v41 y41 =>
  gSlice v41 fun a_42 l_42 c_42 =>
  uncons y41 fun v43 y43 =>
  gSlice v43 fun a_44 l_44 c_44 =>
  uncons y43 fun v45 y45 =>
  gInt .i64 v45 fun x_46 =>
  unnil y45 <| HQC gnomonref01_Same.id #[.slice a_31 l_31 c_31, .slice a_42 l_42 c_42] h39 fun v47 =>
  gBool v47 fun b_48 =>
  cond b_48 (HQC gnomonref01_Same.id #[.slice a_33 l_33 c_33, .slice a_44 l_44 c_44] h39 fun v49 =>
  gBool v49 fun b_50 =>
  cond b_50 (R (.bool (x_35 == x_46)) h39) (R (.bool false) h39)) (R (.bool false) h39)) (cond (x_4 == 3) (ldK h2 (q1.add 1) fun v51 =>
  gInt .i64 v51 fun x_52 =>
  ldK h2 (q1.add 2) fun v53 =>
  gInt .i64 v53 fun x_54 =>
  HC nearpi_Nearest.id #[.int .i64 x_52, .int .i64 x_54] h2 fun v55 h56 =>
  gTup v55 fun y57 =>
  uncons y57 fun v58 y58 =>
  gAgg v58 fun y59 =>
  uncons y59 fun v60 y60 =>
  gInt .u64 v60 fun x_61 =>
  uncons y60 fun v62 y62 =>
  gSlice v62 fun a_63 l_63 c_63 =>
  uncons y62 fun v64 y64 =>
  gInt .i64 v64 fun x_65 =>
  unnil y64 <| uncons y58 fun v66 y66 =>
  gInt .i64 v66 fun x_67 =>
  unnil y66 <| boxK h56 39 T39.zs fun q68 h69 =>
  stK h69 (q68.add 0) (.int .u64 x_61) fun h70 =>
  stK h70 (q68.add 1) (.slice a_63 l_63 c_63) fun h71 =>
  stK h71 (q68.add 2) (.int .i64 x_65) fun h72 =>
  ldK h72 (q1.add 1) fun v73 =>
  gInt .i64 v73 fun x_74 =>
  ldK h72 (q1.add 2) fun v75 =>
  gInt .i64 v75 fun x_76 =>
  HC gnomonref13_DocNearest.id #[.int .i64 x_74, .int .i64 x_76] h72 fun v77 h78 =>
  gTup v77 fun y79 =>
  uncons y79 fun v80 y80 =>
  gInt .u64 v80 fun x_81 =>
  uncons y80 fun v82 y82 =>
  gSlice v82 fun a_83 l_83 c_83 =>
  uncons y82 fun v84 y84 =>
  gInt .i64 v84 fun x_85 =>
  uncons y84 fun v86 y86 =>
  gInt .i64 v86 fun x_87 =>
  unnil y86 <| ldK h78 (q68.add 0) fun v88 =>
  gInt .u64 v88 fun x_89 =>
  cond (x_89 == x_81) (ldK h78 (q68.add 1) fun v90 =>
  gSlice v90 fun a_91 l_91 c_91 =>
  HQC gnomonref01_Same.id #[.slice a_91 l_91 c_91, .slice a_83 l_83 c_83] h78 fun v92 =>
  gBool v92 fun b_93 =>
  cond b_93 (ldK h78 (q68.add 2) fun v94 =>
  gInt .i64 v94 fun x_95 =>
  cond (x_95 == x_85) (R (.bool (x_67 == x_87)) h78) (R (.bool false) h78)) (R (.bool false) h78)) (R (.bool false) h78)) (R (.bool true) h2)))
def D1.g (R : Rt) (fr : Fr) (h : Hp) : Prop := gAgg (fr 0) fun z0 => uncons z0 fun w0_0 z0_0 => gInt .i64 w0_0 fun x0_0 => uncons z0_0 fun w0_1 z0_1 => gInt .i64 w0_1 fun x0_1 => uncons z0_1 fun w0_2 z0_2 => gInt .i64 w0_2 fun x0_2 => unnil z0_2 <| D1.t R x0_0 x0_1 x0_2 h
theorem D1.ok (R : Rt) (fr : Fr) (h : Hp) (g : D1.g R fr h) : den prog E C (retQ E [.tmp 2] R) fr h := by
  obtain ⟨z0, e0, g0_0⟩ := gAgg_elim' g
  obtain ⟨w0_0, z0_0, rfl, g0_0x⟩ := uncons_elim g0_0
  obtain ⟨x0_0, rfl, g0_1⟩ := gInt_elim g0_0x
  obtain ⟨w0_1, z0_1, rfl, g0_1x⟩ := uncons_elim g0_1
  obtain ⟨x0_1, rfl, g0_2⟩ := gInt_elim g0_1x
  obtain ⟨w0_2, z0_2, rfl, g0_2x⟩ := uncons_elim g0_2
  obtain ⟨x0_2, rfl, g0_3⟩ := gInt_elim g0_2x
  obtain ⟨rfl, g⟩ := unnil_elim g0_3
  exact den_enter [(0, .agg #[.int .i64 x0_0, .int .i64 x0_1, .int .i64 x0_2])] ⟨e0, trivial⟩ (by kernel_rfl) g
def t (x0_0 : Int) (x0_1 : Int) (x0_2 : Int) (h : Hp) (R : Rt) : Prop := D1.t R x0_0 x0_1 x0_2 h
theorem ok {x0_0 : Int} {x0_1 : Int} {x0_2 : Int} {h : Hp} {R : Rt} (g : t x0_0 x0_1 x0_2 h R) : HC id #[.agg #[.int .i64 x0_0, .int .i64 x0_1, .int .i64 x0_2]] h R :=
  calls_of_den' envOk (c := C) (rs := [.tmp 2]) Tryz.func12 (by kernel_rfl) (by kernel_rfl) (by kernel_rfl) (args := [.agg #[.int .i64 x0_0, .int .i64 x0_1, .int .i64 x0_2]]) (by kernel_rfl) (D1.ok R _ h (gAgg_intro rfl (uncons_intro (gInt_intro rfl (uncons_intro (gInt_intro rfl (uncons_intro (gInt_intro rfl (unnil_intro (g))))))))))
end gnomonlaw13_plays

namespace nearpi_Terms
noncomputable def C : Code := bodyOf Tryz.f13
def D2.t (R : Rt) (x0 : Int) (h : Hp) : Prop :=
  HC nearpi_first.id #[.int .i64 x0] h fun v1 h2 =>
  gSlice v1 fun a_3 l_3 c_3 =>
  R (.tuple #[.slice a_3 l_3 c_3, .int .i64 0]) h2
def D2.g (R : Rt) (fr : Fr) (h : Hp) : Prop := gInt .i64 (fr 0) fun x0 => D2.t R x0 h
theorem D2.ok (R : Rt) (fr : Fr) (h : Hp) (g : D2.g R fr h) : den prog E (cAt C [true, true]) (retQ E [.tmp 2, .tmp 3] R) fr h := by
  obtain ⟨x0, e0, g⟩ := gInt_elim g
  exact den_enter [(0, .int .i64 x0)] ⟨e0, trivial⟩ (by kernel_rfl) g
def D1.t (R : Rt) (x0 : Int) (h : Hp) : Prop :=
  cond (decide (x0 < 1)) (R (.tuple #[.slice none 0 0, .int .i64 1]) h) (cond (decide (x0 > 1000)) (R (.tuple #[.slice none 0 0, .int .i64 1]) h) (D2.t R x0 h))
def D1.g (R : Rt) (fr : Fr) (h : Hp) : Prop := gInt .i64 (fr 0) fun x0 => D1.t R x0 h
theorem D1.ok (R : Rt) (fr : Fr) (h : Hp) (g : D1.g R fr h) : den prog E C (retQ E [.tmp 2, .tmp 3] R) fr h := by
  obtain ⟨x0, e0, g⟩ := gInt_elim g
  exact den_cut 2 (r := (cAt C [true, true])) (by kernel_rfl) (D2.ok R) (den_enter [(0, .int .i64 x0)] ⟨e0, trivial⟩ (by kernel_rfl) g)
def t (x0 : Int) (h : Hp) (R : Rt) : Prop := D1.t R x0 h
theorem ok {x0 : Int} {h : Hp} {R : Rt} (g : t x0 h R) : HC id #[.int .i64 x0] h R :=
  calls_of_den' envOk (c := C) (rs := [.tmp 2, .tmp 3]) Tryz.func13 (by kernel_rfl) (by kernel_rfl) (by kernel_rfl) (args := [.int .i64 x0]) (by kernel_rfl) (D1.ok R _ h (gInt_intro rfl (g)))
end nearpi_Terms

namespace gnomonref01_Same
noncomputable def C : Code := bodyOf Tryz.f14
def D2.t (R : Rt)  (h : Hp) : Prop :=
  R (.bool true) h
def D2.g (R : Rt) (fr : Fr) (h : Hp) : Prop := D2.t R  h
theorem D2.ok (R : Rt) (fr : Fr) (h : Hp) (g : D2.g R fr h) : den prog E (cAt C [true, true, true]) (retQ E [.tmp 4] R) fr h := by
  exact den_enter [] trivial (by kernel_rfl) g
def L4.g (N : Option Addr → Nat → Nat → Option Addr → Nat → Nat → Int → Hp → Prop) (fr : Fr) (h : Hp) : Prop := gSlice (fr 0) fun a0 l0 c0 => gSlice (fr 1) fun a1 l1 c1 => gInt .i64 (fr 5) fun x5 => N a0 l0 c0 a1 l1 c1 x5 h
def D5.t (R : Rt) (N4 : Option Addr → Nat → Nat → Option Addr → Nat → Nat → Int → Hp → Prop) (a0 : Option Addr) (l0 : Nat) (c0 : Nat) (a1 : Option Addr) (l1 : Nat) (c1 : Nat) (x5 : Int) (h : Hp) : Prop :=
  cond (decide (x5 < (((l0 : Nat) : Int)))) (idxK a0 l0 x5 1 fun q1 =>
  ldK h q1 fun v2 =>
  gInt .u64 v2 fun x_3 =>
  idxK a1 l1 x5 1 fun q4 =>
  ldK h q4 fun v5 =>
  gInt .u64 v5 fun x_6 =>
  cond (x_3 != x_6) (R (.bool false) h) (letK (IntKind.i64.wrap (x5 + 1)) fun n7 =>
  N4 a0 l0 c0 a1 l1 c1 n7 h)) (D2.t R h)
def D5.g (R : Rt) (N4 : Option Addr → Nat → Nat → Option Addr → Nat → Nat → Int → Hp → Prop) (fr : Fr) (h : Hp) : Prop := gSlice (fr 0) fun a0 l0 c0 => gSlice (fr 1) fun a1 l1 c1 => gInt .i64 (fr 5) fun x5 => D5.t R N4 a0 l0 c0 a1 l1 c1 x5 h
theorem D5.ok (R : Rt) (N4 : Option Addr → Nat → Nat → Option Addr → Nat → Nat → Int → Hp → Prop) (fr : Fr) (h : Hp) (g : D5.g R N4 fr h) : den prog E (cAt C [true, true, false, true, false, false]) (Ex.then (L4.g N4) (Ex.inBlock 0 (Ex.then (D2.g R) (retQ E [.tmp 4] R)))) fr h := by
  obtain ⟨a0, l0, c0, e0, g⟩ := gSlice_elim g
  obtain ⟨a1, l1, c1, e1, g⟩ := gSlice_elim g
  obtain ⟨x5, e5, g⟩ := gInt_elim g
  exact den_enter [(0, .slice a0 l0 c0), (1, .slice a1 l1 c1), (5, .int .i64 x5)] ⟨e0, e1, e5, trivial⟩ (by kernel_rfl) g
def L4.t (R : Rt) : Nat → Option Addr → Nat → Nat → Option Addr → Nat → Nat → Int → Hp → Prop
  | 0 => fun _ _ _ _ _ _ _ _ => False
  | n + 1 => fun a0 l0 c0 a1 l1 c1 x5 h => D5.t R (L4.t R n) a0 l0 c0 a1 l1 c1 x5 h
theorem L4.ok (R : Rt) (fr : Fr) (h : Hp) (g : L4.g (fun a0 l0 c0 a1 l1 c1 x5 h => ∃ n, L4.t R n a0 l0 c0 a1 l1 c1 x5 h) fr h) : den prog E (cAt C [true, true, false, true, false]) (Ex.inBlock 0 (Ex.then (D2.g R) (retQ E [.tmp 4] R))) fr h := by
  obtain ⟨a0, l0, c0, e0, g⟩ := gSlice_elim g
  obtain ⟨a1, l1, c1, e1, g⟩ := gSlice_elim g
  obtain ⟨x5, e5, g⟩ := gInt_elim g
  obtain ⟨n, g⟩ := g
  refine loop_ok (fun n => L4.g (L4.t R n)) (b := (cAt C [true, true, false, true, false, false])) (by kernel_rfl) (fun fr h g => ?_) (fun n => D5.ok R (L4.t R n)) n fr h (gSlice_intro e0 (gSlice_intro e1 (gInt_intro e5 (g))))
  obtain ⟨a0, l0, c0, e0, g⟩ := gSlice_elim g
  obtain ⟨a1, l1, c1, e1, g⟩ := gSlice_elim g
  obtain ⟨x5, e5, g⟩ := gInt_elim g
  exact g
theorem B6.ok (R : Rt) (fr : Fr) (h : Hp) (g : L4.g (fun a0 l0 c0 a1 l1 c1 x5 h => ∃ n, L4.t R n a0 l0 c0 a1 l1 c1 x5 h) fr h) : den prog E (cAt C [true, true, false, true]) (Ex.then (D2.g R) (retQ E [.tmp 4] R)) fr h :=
  den_block (by kernel_rfl) (L4.ok R fr h g)
def D3.t (R : Rt) (a0 : Option Addr) (l0 : Nat) (c0 : Nat) (a1 : Option Addr) (l1 : Nat) (c1 : Nat) (h : Hp) : Prop :=
  (∃ n, L4.t R n a0 l0 c0 a1 l1 c1 0 h)
def D3.g (R : Rt) (fr : Fr) (h : Hp) : Prop := gSlice (fr 0) fun a0 l0 c0 => gSlice (fr 1) fun a1 l1 c1 => D3.t R a0 l0 c0 a1 l1 c1 h
theorem D3.ok (R : Rt) (fr : Fr) (h : Hp) (g : D3.g R fr h) : den prog E (cAt C [true, true, false]) (Ex.then (D2.g R) (retQ E [.tmp 4] R)) fr h := by
  obtain ⟨a0, l0, c0, e0, g⟩ := gSlice_elim g
  obtain ⟨a1, l1, c1, e1, g⟩ := gSlice_elim g
  exact den_cut 1 (r := (cAt C [true, true, false, true])) (by kernel_rfl) (B6.ok R) (den_enter [(0, .slice a0 l0 c0), (1, .slice a1 l1 c1)] ⟨e0, e1, trivial⟩ (by kernel_rfl) g)
theorem W7.ok (R : Rt) (fr : Fr) (h : Hp) (g : D3.g R fr h) : den prog E (cAt C [true, true]) (retQ E [.tmp 4] R) fr h :=
  den_then (by kernel_rfl) (D2.ok R) (D3.ok R fr h g)
def D1.t (R : Rt) (a0 : Option Addr) (l0 : Nat) (c0 : Nat) (a1 : Option Addr) (l1 : Nat) (c1 : Nat) (h : Hp) : Prop :=
  cond ((((l0 : Nat) : Int)) != (((l1 : Nat) : Int))) (R (.bool false) h) (D3.t R a0 l0 c0 a1 l1 c1 h)
def D1.g (R : Rt) (fr : Fr) (h : Hp) : Prop := gSlice (fr 0) fun a0 l0 c0 => gSlice (fr 1) fun a1 l1 c1 => D1.t R a0 l0 c0 a1 l1 c1 h
theorem D1.ok (R : Rt) (fr : Fr) (h : Hp) (g : D1.g R fr h) : den prog E C (retQ E [.tmp 4] R) fr h := by
  obtain ⟨a0, l0, c0, e0, g⟩ := gSlice_elim g
  obtain ⟨a1, l1, c1, e1, g⟩ := gSlice_elim g
  exact den_cut 2 (r := (cAt C [true, true])) (by kernel_rfl) (W7.ok R) (den_enter [(0, .slice a0 l0 c0), (1, .slice a1 l1 c1)] ⟨e0, e1, trivial⟩ (by kernel_rfl) g)
def t (a0 : Option Addr) (l0 : Nat) (c0 : Nat) (a1 : Option Addr) (l1 : Nat) (c1 : Nat) (h : Hp) (R : Rt) : Prop := D1.t R a0 l0 c0 a1 l1 c1 h
theorem ok {a0 : Option Addr} {l0 : Nat} {c0 : Nat} {a1 : Option Addr} {l1 : Nat} {c1 : Nat} {h : Hp} {R : Rt} (g : t a0 l0 c0 a1 l1 c1 h R) : HC id #[.slice a0 l0 c0, .slice a1 l1 c1] h R :=
  calls_of_den' envOk (c := C) (rs := [.tmp 4]) Tryz.func14 (by kernel_rfl) (by kernel_rfl) (by kernel_rfl) (args := [.slice a0 l0 c0, .slice a1 l1 c1]) (by kernel_rfl) (D1.ok R _ h (gSlice_intro rfl (gSlice_intro rfl (g))))
end gnomonref01_Same

namespace nearpi_Convergent
noncomputable def C : Code := bodyOf Tryz.f15
def D3.t (R : Rt) (a5 : Option Addr) (l5 : Nat) (c5 : Nat) (a6 : Option Addr) (l6 : Nat) (c6 : Nat) (h : Hp) : Prop :=
  R (.tuple #[.slice a5 l5 c5, .slice a6 l6 c6, .int .i64 0]) h
def D3.g (R : Rt) (fr : Fr) (h : Hp) : Prop := gSlice (fr 5) fun a5 l5 c5 => gSlice (fr 6) fun a6 l6 c6 => D3.t R a5 l5 c5 a6 l6 c6 h
theorem D3.ok (R : Rt) (fr : Fr) (h : Hp) (g : D3.g R fr h) : den prog E (cAt C [true, true, true, true]) (retQ E [.tmp 2, .tmp 3, .tmp 4] R) fr h := by
  obtain ⟨a5, l5, c5, e5, g⟩ := gSlice_elim g
  obtain ⟨a6, l6, c6, e6, g⟩ := gSlice_elim g
  exact den_enter [(5, .slice a5 l5 c5), (6, .slice a6 l6 c6)] ⟨e5, e6, trivial⟩ (by kernel_rfl) g
def L5.g (N : Option Addr → Nat → Nat → Option Addr → Nat → Nat → Option Addr → Nat → Nat → Option Addr → Nat → Nat → Option Addr → Nat → Nat → Int → Int → Hp → Prop) (fr : Fr) (h : Hp) : Prop := gSlice (fr 5) fun a5 l5 c5 => gSlice (fr 6) fun a6 l6 c6 => gSlice (fr 7) fun a7 l7 c7 => gSlice (fr 8) fun a8 l8 c8 => gSlice (fr 23) fun a23 l23 c23 => gInt .i64 (fr 24) fun x24 => gInt .i64 (fr 25) fun x25 => N a5 l5 c5 a6 l6 c6 a7 l7 c7 a8 l8 c8 a23 l23 c23 x24 x25 h
def D6.t (R : Rt) (N5 : Option Addr → Nat → Nat → Option Addr → Nat → Nat → Option Addr → Nat → Nat → Option Addr → Nat → Nat → Option Addr → Nat → Nat → Int → Int → Hp → Prop) (a5 : Option Addr) (l5 : Nat) (c5 : Nat) (a6 : Option Addr) (l6 : Nat) (c6 : Nat) (a7 : Option Addr) (l7 : Nat) (c7 : Nat) (a8 : Option Addr) (l8 : Nat) (c8 : Nat) (a23 : Option Addr) (l23 : Nat) (c23 : Nat) (x24 : Int) (x25 : Int) (h : Hp) : Prop :=
  cond (decide (x25 < x24)) (idxK a23 l23 x25 1 fun q5 =>
  ldK h q5 fun v6 =>
  gInt .u64 v6 fun x_7 =>
  cond (x25 == 0) (HC nat_Word.id #[.int .u64 x_7] h fun v8 h9 =>
  gSlice v8 fun a_10 l_10 c_10 =>
  HC nat_Word.id #[.int .u64 1] h9 fun v11 h12 =>
  gSlice v11 fun a_13 l_13 c_13 =>
  HC nat_Word.id #[.int .u64 1] h12 fun v14 h15 =>
  gSlice v14 fun a_16 l_16 c_16 =>
  letK (IntKind.i64.wrap (x25 + 1)) fun n17 =>
  N5 a_10 l_10 c_10 a_13 l_13 c_13 a_16 l_16 c_16 none 0 0 a23 l23 c23 x24 n17 h15) (HC nearpi_plus.id #[.slice a5 l5 c5, .int .u64 x_7, .slice a7 l7 c7] h fun v18 h19 =>
  gTup v18 fun y20 =>
  uncons y20 fun v21 y21 =>
  gSlice v21 fun a_22 l_22 c_22 =>
  uncons y21 fun v23 y23 =>
  gInt .i64 v23 fun x_24 =>
  unnil y23 <| HC nearpi_plus.id #[.slice a6 l6 c6, .int .u64 x_7, .slice a8 l8 c8] h19 fun v25 h26 =>
  gTup v25 fun y27 =>
  uncons y27 fun v28 y28 =>
  gSlice v28 fun a_29 l_29 c_29 =>
  uncons y28 fun v30 y30 =>
  gInt .i64 v30 fun x_31 =>
  unnil y30 <| cond (x_24 != 0) (R (.tuple #[.slice none 0 0, .slice none 0 0, .int .i64 (if x_31 > x_24 then x_31 else x_24)]) h26) (cond (x_31 != 0) (R (.tuple #[.slice none 0 0, .slice none 0 0, .int .i64 (if x_31 > x_24 then x_31 else x_24)]) h26) (letK (IntKind.i64.wrap (x25 + 1)) fun n32 =>
  N5 a_22 l_22 c_22 a_29 l_29 c_29 a5 l5 c5 a6 l6 c6 a23 l23 c23 x24 n32 h26)))) (D3.t R a5 l5 c5 a6 l6 c6 h)
def D6.g (R : Rt) (N5 : Option Addr → Nat → Nat → Option Addr → Nat → Nat → Option Addr → Nat → Nat → Option Addr → Nat → Nat → Option Addr → Nat → Nat → Int → Int → Hp → Prop) (fr : Fr) (h : Hp) : Prop := gSlice (fr 5) fun a5 l5 c5 => gSlice (fr 6) fun a6 l6 c6 => gSlice (fr 7) fun a7 l7 c7 => gSlice (fr 8) fun a8 l8 c8 => gSlice (fr 23) fun a23 l23 c23 => gInt .i64 (fr 24) fun x24 => gInt .i64 (fr 25) fun x25 => D6.t R N5 a5 l5 c5 a6 l6 c6 a7 l7 c7 a8 l8 c8 a23 l23 c23 x24 x25 h
theorem D6.ok (R : Rt) (N5 : Option Addr → Nat → Nat → Option Addr → Nat → Nat → Option Addr → Nat → Nat → Option Addr → Nat → Nat → Option Addr → Nat → Nat → Int → Int → Hp → Prop) (fr : Fr) (h : Hp) (g : D6.g R N5 fr h) : den prog E (cAt C [true, true, true, false, true, false, false]) (Ex.then (L5.g N5) (Ex.inBlock 0 (Ex.then (D3.g R) (retQ E [.tmp 2, .tmp 3, .tmp 4] R)))) fr h := by
  obtain ⟨a5, l5, c5, e5, g⟩ := gSlice_elim g
  obtain ⟨a6, l6, c6, e6, g⟩ := gSlice_elim g
  obtain ⟨a7, l7, c7, e7, g⟩ := gSlice_elim g
  obtain ⟨a8, l8, c8, e8, g⟩ := gSlice_elim g
  obtain ⟨a23, l23, c23, e23, g⟩ := gSlice_elim g
  obtain ⟨x24, e24, g⟩ := gInt_elim g
  obtain ⟨x25, e25, g⟩ := gInt_elim g
  exact den_enter [(5, .slice a5 l5 c5), (6, .slice a6 l6 c6), (7, .slice a7 l7 c7), (8, .slice a8 l8 c8), (23, .slice a23 l23 c23), (24, .int .i64 x24), (25, .int .i64 x25)] ⟨e5, e6, e7, e8, e23, e24, e25, trivial⟩ (by kernel_rfl) g
def L5.t (R : Rt) : Nat → Option Addr → Nat → Nat → Option Addr → Nat → Nat → Option Addr → Nat → Nat → Option Addr → Nat → Nat → Option Addr → Nat → Nat → Int → Int → Hp → Prop
  | 0 => fun _ _ _ _ _ _ _ _ _ _ _ _ _ _ _ _ _ _ => False
  | n + 1 => fun a5 l5 c5 a6 l6 c6 a7 l7 c7 a8 l8 c8 a23 l23 c23 x24 x25 h => D6.t R (L5.t R n) a5 l5 c5 a6 l6 c6 a7 l7 c7 a8 l8 c8 a23 l23 c23 x24 x25 h
theorem L5.ok (R : Rt) (fr : Fr) (h : Hp) (g : L5.g (fun a5 l5 c5 a6 l6 c6 a7 l7 c7 a8 l8 c8 a23 l23 c23 x24 x25 h => ∃ n, L5.t R n a5 l5 c5 a6 l6 c6 a7 l7 c7 a8 l8 c8 a23 l23 c23 x24 x25 h) fr h) : den prog E (cAt C [true, true, true, false, true, false]) (Ex.inBlock 0 (Ex.then (D3.g R) (retQ E [.tmp 2, .tmp 3, .tmp 4] R))) fr h := by
  obtain ⟨a5, l5, c5, e5, g⟩ := gSlice_elim g
  obtain ⟨a6, l6, c6, e6, g⟩ := gSlice_elim g
  obtain ⟨a7, l7, c7, e7, g⟩ := gSlice_elim g
  obtain ⟨a8, l8, c8, e8, g⟩ := gSlice_elim g
  obtain ⟨a23, l23, c23, e23, g⟩ := gSlice_elim g
  obtain ⟨x24, e24, g⟩ := gInt_elim g
  obtain ⟨x25, e25, g⟩ := gInt_elim g
  obtain ⟨n, g⟩ := g
  refine loop_ok (fun n => L5.g (L5.t R n)) (b := (cAt C [true, true, true, false, true, false, false])) (by kernel_rfl) (fun fr h g => ?_) (fun n => D6.ok R (L5.t R n)) n fr h (gSlice_intro e5 (gSlice_intro e6 (gSlice_intro e7 (gSlice_intro e8 (gSlice_intro e23 (gInt_intro e24 (gInt_intro e25 (g))))))))
  obtain ⟨a5, l5, c5, e5, g⟩ := gSlice_elim g
  obtain ⟨a6, l6, c6, e6, g⟩ := gSlice_elim g
  obtain ⟨a7, l7, c7, e7, g⟩ := gSlice_elim g
  obtain ⟨a8, l8, c8, e8, g⟩ := gSlice_elim g
  obtain ⟨a23, l23, c23, e23, g⟩ := gSlice_elim g
  obtain ⟨x24, e24, g⟩ := gInt_elim g
  obtain ⟨x25, e25, g⟩ := gInt_elim g
  exact g
theorem B7.ok (R : Rt) (fr : Fr) (h : Hp) (g : L5.g (fun a5 l5 c5 a6 l6 c6 a7 l7 c7 a8 l8 c8 a23 l23 c23 x24 x25 h => ∃ n, L5.t R n a5 l5 c5 a6 l6 c6 a7 l7 c7 a8 l8 c8 a23 l23 c23 x24 x25 h) fr h) : den prog E (cAt C [true, true, true, false, true]) (Ex.then (D3.g R) (retQ E [.tmp 2, .tmp 3, .tmp 4] R)) fr h :=
  den_block (by kernel_rfl) (L5.ok R fr h g)
def D4.t (R : Rt) (x0 : Int) (a5 : Option Addr) (l5 : Nat) (c5 : Nat) (a6 : Option Addr) (l6 : Nat) (c6 : Nat) (a7 : Option Addr) (l7 : Nat) (c7 : Nat) (a8 : Option Addr) (l8 : Nat) (c8 : Nat) (h : Hp) : Prop :=
  letK (IntKind.i64.wrap (x0 + 1)) fun n1 =>
  HC nearpi_first.id #[.int .i64 n1] h fun v2 h3 =>
  gSlice v2 fun a_4 l_4 c_4 =>
  (∃ n, L5.t R n a5 l5 c5 a6 l6 c6 a7 l7 c7 a8 l8 c8 a_4 l_4 c_4 (((l_4 : Nat) : Int)) 0 h3)
def D4.g (R : Rt) (fr : Fr) (h : Hp) : Prop := gInt .i64 (fr 0) fun x0 => gSlice (fr 5) fun a5 l5 c5 => gSlice (fr 6) fun a6 l6 c6 => gSlice (fr 7) fun a7 l7 c7 => gSlice (fr 8) fun a8 l8 c8 => D4.t R x0 a5 l5 c5 a6 l6 c6 a7 l7 c7 a8 l8 c8 h
theorem D4.ok (R : Rt) (fr : Fr) (h : Hp) (g : D4.g R fr h) : den prog E (cAt C [true, true, true, false]) (Ex.then (D3.g R) (retQ E [.tmp 2, .tmp 3, .tmp 4] R)) fr h := by
  obtain ⟨x0, e0, g⟩ := gInt_elim g
  obtain ⟨a5, l5, c5, e5, g⟩ := gSlice_elim g
  obtain ⟨a6, l6, c6, e6, g⟩ := gSlice_elim g
  obtain ⟨a7, l7, c7, e7, g⟩ := gSlice_elim g
  obtain ⟨a8, l8, c8, e8, g⟩ := gSlice_elim g
  exact den_cut 1 (r := (cAt C [true, true, true, false, true])) (by kernel_rfl) (B7.ok R) (den_enter [(0, .int .i64 x0), (5, .slice a5 l5 c5), (6, .slice a6 l6 c6), (7, .slice a7 l7 c7), (8, .slice a8 l8 c8)] ⟨e0, e5, e6, e7, e8, trivial⟩ (by kernel_rfl) g)
theorem W8.ok (R : Rt) (fr : Fr) (h : Hp) (g : D4.g R fr h) : den prog E (cAt C [true, true, true]) (retQ E [.tmp 2, .tmp 3, .tmp 4] R) fr h :=
  den_then (by kernel_rfl) (D3.ok R) (D4.ok R fr h g)
def D2.t (R : Rt) (x0 : Int) (h : Hp) : Prop :=
  D4.t R x0 none 0 0 none 0 0 none 0 0 none 0 0 h
def D2.g (R : Rt) (fr : Fr) (h : Hp) : Prop := gInt .i64 (fr 0) fun x0 => D2.t R x0 h
theorem D2.ok (R : Rt) (fr : Fr) (h : Hp) (g : D2.g R fr h) : den prog E (cAt C [true, true]) (retQ E [.tmp 2, .tmp 3, .tmp 4] R) fr h := by
  obtain ⟨x0, e0, g⟩ := gInt_elim g
  exact den_cut 1 (r := (cAt C [true, true, true])) (by kernel_rfl) (W8.ok R) (den_enter [(0, .int .i64 x0)] ⟨e0, trivial⟩ (by kernel_rfl) g)
def D1.t (R : Rt) (x0 : Int) (h : Hp) : Prop :=
  cond (decide (x0 < 0)) (R (.tuple #[.slice none 0 0, .slice none 0 0, .int .i64 1]) h) (cond (decide (x0 ≥ 1000)) (R (.tuple #[.slice none 0 0, .slice none 0 0, .int .i64 1]) h) (D2.t R x0 h))
def D1.g (R : Rt) (fr : Fr) (h : Hp) : Prop := gInt .i64 (fr 0) fun x0 => D1.t R x0 h
theorem D1.ok (R : Rt) (fr : Fr) (h : Hp) (g : D1.g R fr h) : den prog E C (retQ E [.tmp 2, .tmp 3, .tmp 4] R) fr h := by
  obtain ⟨x0, e0, g⟩ := gInt_elim g
  exact den_cut 2 (r := (cAt C [true, true])) (by kernel_rfl) (D2.ok R) (den_enter [(0, .int .i64 x0)] ⟨e0, trivial⟩ (by kernel_rfl) g)
def t (x0 : Int) (h : Hp) (R : Rt) : Prop := D1.t R x0 h
theorem ok {x0 : Int} {h : Hp} {R : Rt} (g : t x0 h R) : HC id #[.int .i64 x0] h R :=
  calls_of_den' envOk (c := C) (rs := [.tmp 2, .tmp 3, .tmp 4]) Tryz.func15 (by kernel_rfl) (by kernel_rfl) (by kernel_rfl) (args := [.int .i64 x0]) (by kernel_rfl) (D1.ok R _ h (gInt_intro rfl (g)))
end nearpi_Convergent

namespace nearpi_Nearest
noncomputable def C : Code := bodyOf Tryz.f16
def D3.t (R : Rt) (x1 : Int) (q4 : Addr) (a6 : Option Addr) (l6 : Nat) (c6 : Nat) (x10 : Int) (b12 : Bool) (h : Hp) : Prop :=
  HC nearpi_multiple.id #[.slice a6 l6 c6, .int .u64 x10, .bool b12] h fun v79 h80 =>
  gSlice v79 fun a_81 l_81 c_81 =>
  HC nearpi_depth.id #[.int .u64 x10, .int .i64 x1, .slice a_81 l_81 c_81] h80 fun v82 h83 =>
  gInt .i64 v82 fun x_84 =>
  stK h83 (q4.add 0) (.int .u64 x10) fun h85 =>
  stK h85 (q4.add 1) (.slice a_81 l_81 c_81) fun h86 =>
  stK h86 (q4.add 2) (.int .i64 x_84) fun h87 =>
  ldK h87 (q4.add 0) fun v88 =>
  gInt .u64 v88 fun x_89 =>
  ldK h87 (q4.add 1) fun v90 =>
  gSlice v90 fun a_91 l_91 c_91 =>
  ldK h87 (q4.add 2) fun v92 =>
  gInt .i64 v92 fun x_93 =>
  R (.tuple #[.agg #[.int .u64 x_89, .slice a_91 l_91 c_91, .int .i64 x_93], .int .i64 0]) h87
def D3.g (R : Rt) (fr : Fr) (h : Hp) : Prop := gInt .i64 (fr 1) fun x1 => gPtrS (fr 4) fun q4 => gSlice (fr 6) fun a6 l6 c6 => gInt .u64 (fr 10) fun x10 => gBool (fr 12) fun b12 => D3.t R x1 q4 a6 l6 c6 x10 b12 h
theorem D3.ok (R : Rt) (fr : Fr) (h : Hp) (g : D3.g R fr h) : den prog E (cAt C [true, true, true, true, true, true, true, true]) (retQ E [.cell 4 39, .tmp 5] R) fr h := by
  obtain ⟨x1, e1, g⟩ := gInt_elim g
  obtain ⟨q4, e4, g⟩ := gPtrS_elim g
  obtain ⟨a6, l6, c6, e6, g⟩ := gSlice_elim g
  obtain ⟨x10, e10, g⟩ := gInt_elim g
  obtain ⟨b12, e12, g⟩ := gBool_elim g
  exact den_enter [(1, .int .i64 x1), (4, .pointer (some q4)), (6, .slice a6 l6 c6), (10, .int .u64 x10), (12, .bool b12)] ⟨e1, e4, e6, e10, e12, trivial⟩ (by kernel_rfl) g
def D2.t (R : Rt) (x0 : Int) (x1 : Int) (q4 : Addr) (h : Hp) : Prop :=
  HC nearpi_fraction.id #[.int .i64 x1] h fun v39 h40 =>
  gTup v39 fun y41 =>
  uncons y41 fun v42 y42 =>
  gSlice v42 fun a_43 l_43 c_43 =>
  uncons y42 fun v44 y44 =>
  gInt .i64 v44 fun x_45 =>
  unnil y44 <| cond (x_45 != 0) (stK h40 (q4.add 0) (.int .u64 0) fun h46 =>
  stK h46 (q4.add 1) (.slice none 0 0) fun h47 =>
  stK h47 (q4.add 2) (.int .i64 0) fun h48 =>
  ldK h48 (q4.add 0) fun v49 =>
  gInt .u64 v49 fun x_50 =>
  ldK h48 (q4.add 1) fun v51 =>
  gSlice v51 fun a_52 l_52 c_52 =>
  ldK h48 (q4.add 2) fun v53 =>
  gInt .i64 v53 fun x_54 =>
  R (.tuple #[.agg #[.int .u64 x_50, .slice a_52 l_52 c_52, .int .i64 x_54], .int .i64 x_45]) h48) (letK (IntKind.i64.wrap (x0 - 1)) fun n55 =>
  0 ≤ n55 ∧ letK (shlI .u64 1 n55) fun n56 =>
  0 ≤ x0 ∧ letK (shlI .u64 1 x0) fun n57 =>
  letK (IntKind.u64.wrap (n57 - 1)) fun n58 =>
  HC nearpi_from.id #[.slice a_43 l_43 c_43, .int .u64 n56, .int .u64 n58, .bool true] h40 fun v59 h60 =>
  gTup v59 fun y61 =>
  uncons y61 fun v62 y62 =>
  gInt .u64 v62 fun x_63 =>
  uncons y62 fun v64 y64 =>
  gSlice v64 fun a_65 l_65 c_65 =>
  unnil y64 <| HC nearpi_firstOver.id #[.slice a_43 l_43 c_43, .int .u64 n56, .int .u64 n58] h60 fun v66 h67 =>
  gInt .u64 v66 fun x_68 =>
  cond (decide (x_68 ≤ n58)) (HC nearpi_from.id #[.slice a_43 l_43 c_43, .int .u64 x_68, .int .u64 n58, .bool false] h67 fun v69 h70 =>
  gTup v69 fun y71 =>
  uncons y71 fun v72 y72 =>
  gInt .u64 v72 fun x_73 =>
  uncons y72 fun v74 y74 =>
  gSlice v74 fun a_75 l_75 c_75 =>
  unnil y74 <| HC nat_Cmp.id #[.slice a_75 l_75 c_75, .slice a_65 l_65 c_65] h70 fun v76 h77 =>
  gInt .i64 v76 fun x_78 =>
  cond (decide (x_78 < 0)) (D3.t R x1 q4 a_43 l_43 c_43 x_73 false h77) (D3.t R x1 q4 a_43 l_43 c_43 x_63 true h77)) (D3.t R x1 q4 a_43 l_43 c_43 x_63 true h67))
def D2.g (R : Rt) (fr : Fr) (h : Hp) : Prop := gInt .i64 (fr 0) fun x0 => gInt .i64 (fr 1) fun x1 => gPtrS (fr 4) fun q4 => D2.t R x0 x1 q4 h
theorem D2.ok (R : Rt) (fr : Fr) (h : Hp) (g : D2.g R fr h) : den prog E (cAt C [true, true]) (retQ E [.cell 4 39, .tmp 5] R) fr h := by
  obtain ⟨x0, e0, g⟩ := gInt_elim g
  obtain ⟨x1, e1, g⟩ := gInt_elim g
  obtain ⟨q4, e4, g⟩ := gPtrS_elim g
  exact den_cut 6 (r := (cAt C [true, true, true, true, true, true, true, true])) (by kernel_rfl) (D3.ok R) (den_enter [(0, .int .i64 x0), (1, .int .i64 x1), (4, .pointer (some q4))] ⟨e0, e1, e4, trivial⟩ (by kernel_rfl) g)
def D1.t (R : Rt) (x0 : Int) (x1 : Int) (h : Hp) : Prop :=
  boxK h 39 T39.zs fun q1 h2 =>
  cond (decide (x0 < 1)) (stK h2 (q1.add 0) (.int .u64 0) fun h3 =>
  stK h3 (q1.add 1) (.slice none 0 0) fun h4 =>
  stK h4 (q1.add 2) (.int .i64 0) fun h5 =>
  ldK h5 (q1.add 0) fun v6 =>
  gInt .u64 v6 fun x_7 =>
  ldK h5 (q1.add 1) fun v8 =>
  gSlice v8 fun a_9 l_9 c_9 =>
  ldK h5 (q1.add 2) fun v10 =>
  gInt .i64 v10 fun x_11 =>
  R (.tuple #[.agg #[.int .u64 x_7, .slice a_9 l_9 c_9, .int .i64 x_11], .int .i64 1]) h5) (cond (decide (x0 > 53)) (stK h2 (q1.add 0) (.int .u64 0) fun h12 =>
  stK h12 (q1.add 1) (.slice none 0 0) fun h13 =>
  stK h13 (q1.add 2) (.int .i64 0) fun h14 =>
  ldK h14 (q1.add 0) fun v15 =>
  gInt .u64 v15 fun x_16 =>
  ldK h14 (q1.add 1) fun v17 =>
  gSlice v17 fun a_18 l_18 c_18 =>
  ldK h14 (q1.add 2) fun v19 =>
  gInt .i64 v19 fun x_20 =>
  R (.tuple #[.agg #[.int .u64 x_16, .slice a_18 l_18 c_18, .int .i64 x_20], .int .i64 1]) h14) (cond (decide (x1 < (-64))) (stK h2 (q1.add 0) (.int .u64 0) fun h21 =>
  stK h21 (q1.add 1) (.slice none 0 0) fun h22 =>
  stK h22 (q1.add 2) (.int .i64 0) fun h23 =>
  ldK h23 (q1.add 0) fun v24 =>
  gInt .u64 v24 fun x_25 =>
  ldK h23 (q1.add 1) fun v26 =>
  gSlice v26 fun a_27 l_27 c_27 =>
  ldK h23 (q1.add 2) fun v28 =>
  gInt .i64 v28 fun x_29 =>
  R (.tuple #[.agg #[.int .u64 x_25, .slice a_27 l_27 c_27, .int .i64 x_29], .int .i64 1]) h23) (cond (decide (x1 > 971)) (stK h2 (q1.add 0) (.int .u64 0) fun h30 =>
  stK h30 (q1.add 1) (.slice none 0 0) fun h31 =>
  stK h31 (q1.add 2) (.int .i64 0) fun h32 =>
  ldK h32 (q1.add 0) fun v33 =>
  gInt .u64 v33 fun x_34 =>
  ldK h32 (q1.add 1) fun v35 =>
  gSlice v35 fun a_36 l_36 c_36 =>
  ldK h32 (q1.add 2) fun v37 =>
  gInt .i64 v37 fun x_38 =>
  R (.tuple #[.agg #[.int .u64 x_34, .slice a_36 l_36 c_36, .int .i64 x_38], .int .i64 1]) h32) (D2.t R x0 x1 q1 h2))))
def D1.g (R : Rt) (fr : Fr) (h : Hp) : Prop := gInt .i64 (fr 0) fun x0 => gInt .i64 (fr 1) fun x1 => D1.t R x0 x1 h
theorem D1.ok (R : Rt) (fr : Fr) (h : Hp) (g : D1.g R fr h) : den prog E C (retQ E [.cell 4 39, .tmp 5] R) fr h := by
  obtain ⟨x0, e0, g⟩ := gInt_elim g
  obtain ⟨x1, e1, g⟩ := gInt_elim g
  exact den_cut 2 (r := (cAt C [true, true])) (by kernel_rfl) (D2.ok R) (den_enter [(0, .int .i64 x0), (1, .int .i64 x1)] ⟨e0, e1, trivial⟩ (by kernel_rfl) g)
def t (x0 : Int) (x1 : Int) (h : Hp) (R : Rt) : Prop := D1.t R x0 x1 h
theorem ok {x0 : Int} {x1 : Int} {h : Hp} {R : Rt} (g : t x0 x1 h R) : HC id #[.int .i64 x0, .int .i64 x1] h R :=
  calls_of_den' envOk (c := C) (rs := [.cell 4 39, .tmp 5]) Tryz.func16 (by kernel_rfl) (by kernel_rfl) (by kernel_rfl) (args := [.int .i64 x0, .int .i64 x1]) (by kernel_rfl) (D1.ok R _ h (gInt_intro rfl (gInt_intro rfl (g))))
end nearpi_Nearest


namespace gnomonref13_DocConvergent
noncomputable def C : Code := bodyOf Tryz.f18
def D3.t (R : Rt) (a5 : Option Addr) (l5 : Nat) (c5 : Nat) (a6 : Option Addr) (l6 : Nat) (c6 : Nat) (h : Hp) : Prop :=
  HC gnomonref01_To.id #[.slice a5 l5 c5] h fun v13 h14 =>
  gSlice v13 fun a_15 l_15 c_15 =>
  HC gnomonref01_To.id #[.slice a6 l6 c6] h14 fun v16 h17 =>
  gSlice v16 fun a_18 l_18 c_18 =>
  R (.tuple #[.slice a_15 l_15 c_15, .slice a_18 l_18 c_18, .int .i64 0]) h17
def D3.g (R : Rt) (fr : Fr) (h : Hp) : Prop := gSlice (fr 5) fun a5 l5 c5 => gSlice (fr 6) fun a6 l6 c6 => D3.t R a5 l5 c5 a6 l6 c6 h
theorem D3.ok (R : Rt) (fr : Fr) (h : Hp) (g : D3.g R fr h) : den prog E (cAt C [true, true, true, true, true]) (retQ E [.tmp 2, .tmp 3, .tmp 4] R) fr h := by
  obtain ⟨a5, l5, c5, e5, g⟩ := gSlice_elim g
  obtain ⟨a6, l6, c6, e6, g⟩ := gSlice_elim g
  exact den_enter [(5, .slice a5 l5 c5), (6, .slice a6 l6 c6)] ⟨e5, e6, trivial⟩ (by kernel_rfl) g
def L5.g (N : Option Addr → Nat → Nat → Option Addr → Nat → Nat → Option Addr → Nat → Nat → Option Addr → Nat → Nat → Option Addr → Nat → Nat → Int → Int → Hp → Prop) (fr : Fr) (h : Hp) : Prop := gSlice (fr 5) fun a5 l5 c5 => gSlice (fr 6) fun a6 l6 c6 => gSlice (fr 7) fun a7 l7 c7 => gSlice (fr 8) fun a8 l8 c8 => gSlice (fr 23) fun a23 l23 c23 => gInt .i64 (fr 24) fun x24 => gInt .i64 (fr 25) fun x25 => N a5 l5 c5 a6 l6 c6 a7 l7 c7 a8 l8 c8 a23 l23 c23 x24 x25 h
def D6.t (R : Rt) (N5 : Option Addr → Nat → Nat → Option Addr → Nat → Nat → Option Addr → Nat → Nat → Option Addr → Nat → Nat → Option Addr → Nat → Nat → Int → Int → Hp → Prop) (a5 : Option Addr) (l5 : Nat) (c5 : Nat) (a6 : Option Addr) (l6 : Nat) (c6 : Nat) (a7 : Option Addr) (l7 : Nat) (c7 : Nat) (a8 : Option Addr) (l8 : Nat) (c8 : Nat) (a23 : Option Addr) (l23 : Nat) (c23 : Nat) (x24 : Int) (x25 : Int) (h : Hp) : Prop :=
  cond (decide (x25 < x24)) (idxK a23 l23 x25 1 fun q23 =>
  ldK h q23 fun v24 =>
  gInt .u64 v24 fun x_25 =>
  HC gnomonref01_Word.id #[.int .u64 x_25] h fun v26 h27 =>
  gSlice v26 fun a_28 l_28 c_28 =>
  HC gnomonref01_Mul.id #[.slice a_28 l_28 c_28, .slice a5 l5 c5] h27 fun v29 h30 =>
  gSlice v29 fun a_31 l_31 c_31 =>
  HC gnomonref01_Add.id #[.slice a_31 l_31 c_31, .slice a7 l7 c7] h30 fun v32 h33 =>
  gSlice v32 fun a_34 l_34 c_34 =>
  HC gnomonref01_Word.id #[.int .u64 x_25] h33 fun v35 h36 =>
  gSlice v35 fun a_37 l_37 c_37 =>
  HC gnomonref01_Mul.id #[.slice a_37 l_37 c_37, .slice a6 l6 c6] h36 fun v38 h39 =>
  gSlice v38 fun a_40 l_40 c_40 =>
  HC gnomonref01_Add.id #[.slice a_40 l_40 c_40, .slice a8 l8 c8] h39 fun v41 h42 =>
  gSlice v41 fun a_43 l_43 c_43 =>
  letK (IntKind.i64.wrap (x25 + 1)) fun n44 =>
  N5 a_34 l_34 c_34 a_43 l_43 c_43 a5 l5 c5 a6 l6 c6 a23 l23 c23 x24 n44 h42) (D3.t R a5 l5 c5 a6 l6 c6 h)
def D6.g (R : Rt) (N5 : Option Addr → Nat → Nat → Option Addr → Nat → Nat → Option Addr → Nat → Nat → Option Addr → Nat → Nat → Option Addr → Nat → Nat → Int → Int → Hp → Prop) (fr : Fr) (h : Hp) : Prop := gSlice (fr 5) fun a5 l5 c5 => gSlice (fr 6) fun a6 l6 c6 => gSlice (fr 7) fun a7 l7 c7 => gSlice (fr 8) fun a8 l8 c8 => gSlice (fr 23) fun a23 l23 c23 => gInt .i64 (fr 24) fun x24 => gInt .i64 (fr 25) fun x25 => D6.t R N5 a5 l5 c5 a6 l6 c6 a7 l7 c7 a8 l8 c8 a23 l23 c23 x24 x25 h
theorem D6.ok (R : Rt) (N5 : Option Addr → Nat → Nat → Option Addr → Nat → Nat → Option Addr → Nat → Nat → Option Addr → Nat → Nat → Option Addr → Nat → Nat → Int → Int → Hp → Prop) (fr : Fr) (h : Hp) (g : D6.g R N5 fr h) : den prog E (cAt C [true, true, true, true, false, true, false, false]) (Ex.then (L5.g N5) (Ex.inBlock 0 (Ex.then (D3.g R) (retQ E [.tmp 2, .tmp 3, .tmp 4] R)))) fr h := by
  obtain ⟨a5, l5, c5, e5, g⟩ := gSlice_elim g
  obtain ⟨a6, l6, c6, e6, g⟩ := gSlice_elim g
  obtain ⟨a7, l7, c7, e7, g⟩ := gSlice_elim g
  obtain ⟨a8, l8, c8, e8, g⟩ := gSlice_elim g
  obtain ⟨a23, l23, c23, e23, g⟩ := gSlice_elim g
  obtain ⟨x24, e24, g⟩ := gInt_elim g
  obtain ⟨x25, e25, g⟩ := gInt_elim g
  exact den_enter [(5, .slice a5 l5 c5), (6, .slice a6 l6 c6), (7, .slice a7 l7 c7), (8, .slice a8 l8 c8), (23, .slice a23 l23 c23), (24, .int .i64 x24), (25, .int .i64 x25)] ⟨e5, e6, e7, e8, e23, e24, e25, trivial⟩ (by kernel_rfl) g
def L5.t (R : Rt) : Nat → Option Addr → Nat → Nat → Option Addr → Nat → Nat → Option Addr → Nat → Nat → Option Addr → Nat → Nat → Option Addr → Nat → Nat → Int → Int → Hp → Prop
  | 0 => fun _ _ _ _ _ _ _ _ _ _ _ _ _ _ _ _ _ _ => False
  | n + 1 => fun a5 l5 c5 a6 l6 c6 a7 l7 c7 a8 l8 c8 a23 l23 c23 x24 x25 h => D6.t R (L5.t R n) a5 l5 c5 a6 l6 c6 a7 l7 c7 a8 l8 c8 a23 l23 c23 x24 x25 h
theorem L5.ok (R : Rt) (fr : Fr) (h : Hp) (g : L5.g (fun a5 l5 c5 a6 l6 c6 a7 l7 c7 a8 l8 c8 a23 l23 c23 x24 x25 h => ∃ n, L5.t R n a5 l5 c5 a6 l6 c6 a7 l7 c7 a8 l8 c8 a23 l23 c23 x24 x25 h) fr h) : den prog E (cAt C [true, true, true, true, false, true, false]) (Ex.inBlock 0 (Ex.then (D3.g R) (retQ E [.tmp 2, .tmp 3, .tmp 4] R))) fr h := by
  obtain ⟨a5, l5, c5, e5, g⟩ := gSlice_elim g
  obtain ⟨a6, l6, c6, e6, g⟩ := gSlice_elim g
  obtain ⟨a7, l7, c7, e7, g⟩ := gSlice_elim g
  obtain ⟨a8, l8, c8, e8, g⟩ := gSlice_elim g
  obtain ⟨a23, l23, c23, e23, g⟩ := gSlice_elim g
  obtain ⟨x24, e24, g⟩ := gInt_elim g
  obtain ⟨x25, e25, g⟩ := gInt_elim g
  obtain ⟨n, g⟩ := g
  refine loop_ok (fun n => L5.g (L5.t R n)) (b := (cAt C [true, true, true, true, false, true, false, false])) (by kernel_rfl) (fun fr h g => ?_) (fun n => D6.ok R (L5.t R n)) n fr h (gSlice_intro e5 (gSlice_intro e6 (gSlice_intro e7 (gSlice_intro e8 (gSlice_intro e23 (gInt_intro e24 (gInt_intro e25 (g))))))))
  obtain ⟨a5, l5, c5, e5, g⟩ := gSlice_elim g
  obtain ⟨a6, l6, c6, e6, g⟩ := gSlice_elim g
  obtain ⟨a7, l7, c7, e7, g⟩ := gSlice_elim g
  obtain ⟨a8, l8, c8, e8, g⟩ := gSlice_elim g
  obtain ⟨a23, l23, c23, e23, g⟩ := gSlice_elim g
  obtain ⟨x24, e24, g⟩ := gInt_elim g
  obtain ⟨x25, e25, g⟩ := gInt_elim g
  exact g
theorem B7.ok (R : Rt) (fr : Fr) (h : Hp) (g : L5.g (fun a5 l5 c5 a6 l6 c6 a7 l7 c7 a8 l8 c8 a23 l23 c23 x24 x25 h => ∃ n, L5.t R n a5 l5 c5 a6 l6 c6 a7 l7 c7 a8 l8 c8 a23 l23 c23 x24 x25 h) fr h) : den prog E (cAt C [true, true, true, true, false, true]) (Ex.then (D3.g R) (retQ E [.tmp 2, .tmp 3, .tmp 4] R)) fr h :=
  den_block (by kernel_rfl) (L5.ok R fr h g)
def D4.t (R : Rt) (x0 : Int) (a5 : Option Addr) (l5 : Nat) (c5 : Nat) (a6 : Option Addr) (l6 : Nat) (c6 : Nat) (a7 : Option Addr) (l7 : Nat) (c7 : Nat) (a8 : Option Addr) (l8 : Nat) (c8 : Nat) (h : Hp) : Prop :=
  letK (IntKind.i64.wrap (x0 + 1)) fun n19 =>
  HC gnomonref13_Quotients.id #[.int .i64 n19] h fun v20 h21 =>
  gSlice v20 fun a_22 l_22 c_22 =>
  (∃ n, L5.t R n a5 l5 c5 a6 l6 c6 a7 l7 c7 a8 l8 c8 a_22 l_22 c_22 (((l_22 : Nat) : Int)) 0 h21)
def D4.g (R : Rt) (fr : Fr) (h : Hp) : Prop := gInt .i64 (fr 0) fun x0 => gSlice (fr 5) fun a5 l5 c5 => gSlice (fr 6) fun a6 l6 c6 => gSlice (fr 7) fun a7 l7 c7 => gSlice (fr 8) fun a8 l8 c8 => D4.t R x0 a5 l5 c5 a6 l6 c6 a7 l7 c7 a8 l8 c8 h
theorem D4.ok (R : Rt) (fr : Fr) (h : Hp) (g : D4.g R fr h) : den prog E (cAt C [true, true, true, true, false]) (Ex.then (D3.g R) (retQ E [.tmp 2, .tmp 3, .tmp 4] R)) fr h := by
  obtain ⟨x0, e0, g⟩ := gInt_elim g
  obtain ⟨a5, l5, c5, e5, g⟩ := gSlice_elim g
  obtain ⟨a6, l6, c6, e6, g⟩ := gSlice_elim g
  obtain ⟨a7, l7, c7, e7, g⟩ := gSlice_elim g
  obtain ⟨a8, l8, c8, e8, g⟩ := gSlice_elim g
  exact den_cut 1 (r := (cAt C [true, true, true, true, false, true])) (by kernel_rfl) (B7.ok R) (den_enter [(0, .int .i64 x0), (5, .slice a5 l5 c5), (6, .slice a6 l6 c6), (7, .slice a7 l7 c7), (8, .slice a8 l8 c8)] ⟨e0, e5, e6, e7, e8, trivial⟩ (by kernel_rfl) g)
theorem W8.ok (R : Rt) (fr : Fr) (h : Hp) (g : D4.g R fr h) : den prog E (cAt C [true, true, true, true]) (retQ E [.tmp 2, .tmp 3, .tmp 4] R) fr h :=
  den_then (by kernel_rfl) (D3.ok R) (D4.ok R fr h g)
def D2.t (R : Rt) (x0 : Int) (h : Hp) : Prop :=
  HC gnomonref01_Word.id #[.int .u64 1] h fun v1 h2 =>
  gSlice v1 fun a_3 l_3 c_3 =>
  HC gnomonref01_Word.id #[.int .u64 0] h2 fun v4 h5 =>
  gSlice v4 fun a_6 l_6 c_6 =>
  HC gnomonref01_Word.id #[.int .u64 0] h5 fun v7 h8 =>
  gSlice v7 fun a_9 l_9 c_9 =>
  HC gnomonref01_Word.id #[.int .u64 1] h8 fun v10 h11 =>
  gSlice v10 fun a_12 l_12 c_12 =>
  D4.t R x0 a_3 l_3 c_3 a_6 l_6 c_6 a_9 l_9 c_9 a_12 l_12 c_12 h11
def D2.g (R : Rt) (fr : Fr) (h : Hp) : Prop := gInt .i64 (fr 0) fun x0 => D2.t R x0 h
theorem D2.ok (R : Rt) (fr : Fr) (h : Hp) (g : D2.g R fr h) : den prog E (cAt C [true, true]) (retQ E [.tmp 2, .tmp 3, .tmp 4] R) fr h := by
  obtain ⟨x0, e0, g⟩ := gInt_elim g
  exact den_cut 2 (r := (cAt C [true, true, true, true])) (by kernel_rfl) (W8.ok R) (den_enter [(0, .int .i64 x0)] ⟨e0, trivial⟩ (by kernel_rfl) g)
def D1.t (R : Rt) (x0 : Int) (h : Hp) : Prop :=
  cond (decide (x0 < 0)) (R (.tuple #[.slice none 0 0, .slice none 0 0, .int .i64 1]) h) (cond (decide (x0 ≥ 1000)) (R (.tuple #[.slice none 0 0, .slice none 0 0, .int .i64 1]) h) (D2.t R x0 h))
def D1.g (R : Rt) (fr : Fr) (h : Hp) : Prop := gInt .i64 (fr 0) fun x0 => D1.t R x0 h
theorem D1.ok (R : Rt) (fr : Fr) (h : Hp) (g : D1.g R fr h) : den prog E C (retQ E [.tmp 2, .tmp 3, .tmp 4] R) fr h := by
  obtain ⟨x0, e0, g⟩ := gInt_elim g
  exact den_cut 2 (r := (cAt C [true, true])) (by kernel_rfl) (D2.ok R) (den_enter [(0, .int .i64 x0)] ⟨e0, trivial⟩ (by kernel_rfl) g)
def t (x0 : Int) (h : Hp) (R : Rt) : Prop := D1.t R x0 h
theorem ok {x0 : Int} {h : Hp} {R : Rt} (g : t x0 h R) : HC id #[.int .i64 x0] h R :=
  calls_of_den' envOk (c := C) (rs := [.tmp 2, .tmp 3, .tmp 4]) Tryz.func18 (by kernel_rfl) (by kernel_rfl) (by kernel_rfl) (args := [.int .i64 x0]) (by kernel_rfl) (D1.ok R _ h (gInt_intro rfl (g)))
end gnomonref13_DocConvergent




namespace gnomonref01_To
noncomputable def C : Code := bodyOf Tryz.f22
def D2.t (R : Rt) (a4 : Option Addr) (l4 : Nat) (c4 : Nat) (h : Hp) : Prop :=
  R (.slice a4 l4 c4) h
def D2.g (R : Rt) (fr : Fr) (h : Hp) : Prop := gSlice (fr 4) fun a4 l4 c4 => D2.t R a4 l4 c4 h
theorem D2.ok (R : Rt) (fr : Fr) (h : Hp) (g : D2.g R fr h) : den prog E (cAt C [true, true, true, true]) (retQ E [.tmp 2] R) fr h := by
  obtain ⟨a4, l4, c4, e4, g⟩ := gSlice_elim g
  exact den_enter [(4, .slice a4 l4 c4)] ⟨e4, trivial⟩ (by kernel_rfl) g
def L4.g (N : Option Addr → Nat → Nat → Option Addr → Nat → Nat → Int → Hp → Prop) (fr : Fr) (h : Hp) : Prop := gSlice (fr 3) fun a3 l3 c3 => gSlice (fr 4) fun a4 l4 c4 => gInt .i64 (fr 5) fun x5 => N a3 l3 c3 a4 l4 c4 x5 h
def D5.t (R : Rt) (N4 : Option Addr → Nat → Nat → Option Addr → Nat → Nat → Int → Hp → Prop) (a3 : Option Addr) (l3 : Nat) (c3 : Nat) (a4 : Option Addr) (l4 : Nat) (c4 : Nat) (x5 : Int) (h : Hp) : Prop :=
  cond (decide (x5 < (((l3 : Nat) : Int)))) (idxK a3 l3 x5 1 fun q8 =>
  ldK h q8 fun v9 =>
  gInt .u32 v9 fun x_10 =>
  letK (IntKind.u64.wrap x_10) fun n11 =>
  letK (IntKind.i64.wrap (x5 + 1)) fun n12 =>
  cond (decide (n12 < (((l3 : Nat) : Int)))) (letK (IntKind.i64.wrap (x5 + 1)) fun n13 =>
  idxK a3 l3 n13 1 fun q14 =>
  ldK h q14 fun v15 =>
  gInt .u32 v15 fun x_16 =>
  letK (IntKind.u64.wrap x_16) fun n17 =>
  0 ≤ (32 : Int) ∧ letK (shlI .u64 n17 32) fun n18 =>
  letK (IntKind.u64.wrap (n11 + n18)) fun n19 =>
  boxK h 35 [.int .u64 n19] fun q20 h21 =>
  apK h21 35 T35 a4 l4 c4 (.slice (some q20) 1 1) fun a_22 l_22 c_22 h22 =>
  letK (IntKind.i64.wrap (x5 + 2)) fun n23 =>
  N4 a3 l3 c3 a_22 l_22 c_22 n23 h22) (boxK h 35 [.int .u64 n11] fun q24 h25 =>
  apK h25 35 T35 a4 l4 c4 (.slice (some q24) 1 1) fun a_26 l_26 c_26 h26 =>
  letK (IntKind.i64.wrap (x5 + 2)) fun n27 =>
  N4 a3 l3 c3 a_26 l_26 c_26 n27 h26)) (D2.t R a4 l4 c4 h)
def D5.g (R : Rt) (N4 : Option Addr → Nat → Nat → Option Addr → Nat → Nat → Int → Hp → Prop) (fr : Fr) (h : Hp) : Prop := gSlice (fr 3) fun a3 l3 c3 => gSlice (fr 4) fun a4 l4 c4 => gInt .i64 (fr 5) fun x5 => D5.t R N4 a3 l3 c3 a4 l4 c4 x5 h
theorem D5.ok (R : Rt) (N4 : Option Addr → Nat → Nat → Option Addr → Nat → Nat → Int → Hp → Prop) (fr : Fr) (h : Hp) (g : D5.g R N4 fr h) : den prog E (cAt C [true, true, true, false, true, false, false]) (Ex.then (L4.g N4) (Ex.inBlock 0 (Ex.then (D2.g R) (retQ E [.tmp 2] R)))) fr h := by
  obtain ⟨a3, l3, c3, e3, g⟩ := gSlice_elim g
  obtain ⟨a4, l4, c4, e4, g⟩ := gSlice_elim g
  obtain ⟨x5, e5, g⟩ := gInt_elim g
  exact den_enter [(3, .slice a3 l3 c3), (4, .slice a4 l4 c4), (5, .int .i64 x5)] ⟨e3, e4, e5, trivial⟩ (by kernel_rfl) g
def L4.t (R : Rt) : Nat → Option Addr → Nat → Nat → Option Addr → Nat → Nat → Int → Hp → Prop
  | 0 => fun _ _ _ _ _ _ _ _ => False
  | n + 1 => fun a3 l3 c3 a4 l4 c4 x5 h => D5.t R (L4.t R n) a3 l3 c3 a4 l4 c4 x5 h
theorem L4.ok (R : Rt) (fr : Fr) (h : Hp) (g : L4.g (fun a3 l3 c3 a4 l4 c4 x5 h => ∃ n, L4.t R n a3 l3 c3 a4 l4 c4 x5 h) fr h) : den prog E (cAt C [true, true, true, false, true, false]) (Ex.inBlock 0 (Ex.then (D2.g R) (retQ E [.tmp 2] R))) fr h := by
  obtain ⟨a3, l3, c3, e3, g⟩ := gSlice_elim g
  obtain ⟨a4, l4, c4, e4, g⟩ := gSlice_elim g
  obtain ⟨x5, e5, g⟩ := gInt_elim g
  obtain ⟨n, g⟩ := g
  refine loop_ok (fun n => L4.g (L4.t R n)) (b := (cAt C [true, true, true, false, true, false, false])) (by kernel_rfl) (fun fr h g => ?_) (fun n => D5.ok R (L4.t R n)) n fr h (gSlice_intro e3 (gSlice_intro e4 (gInt_intro e5 (g))))
  obtain ⟨a3, l3, c3, e3, g⟩ := gSlice_elim g
  obtain ⟨a4, l4, c4, e4, g⟩ := gSlice_elim g
  obtain ⟨x5, e5, g⟩ := gInt_elim g
  exact g
theorem B6.ok (R : Rt) (fr : Fr) (h : Hp) (g : L4.g (fun a3 l3 c3 a4 l4 c4 x5 h => ∃ n, L4.t R n a3 l3 c3 a4 l4 c4 x5 h) fr h) : den prog E (cAt C [true, true, true, false, true]) (Ex.then (D2.g R) (retQ E [.tmp 2] R)) fr h :=
  den_block (by kernel_rfl) (L4.ok R fr h g)
def D3.t (R : Rt) (a3 : Option Addr) (l3 : Nat) (c3 : Nat) (a4 : Option Addr) (l4 : Nat) (c4 : Nat) (h : Hp) : Prop :=
  (∃ n, L4.t R n a3 l3 c3 a4 l4 c4 0 h)
def D3.g (R : Rt) (fr : Fr) (h : Hp) : Prop := gSlice (fr 3) fun a3 l3 c3 => gSlice (fr 4) fun a4 l4 c4 => D3.t R a3 l3 c3 a4 l4 c4 h
theorem D3.ok (R : Rt) (fr : Fr) (h : Hp) (g : D3.g R fr h) : den prog E (cAt C [true, true, true, false]) (Ex.then (D2.g R) (retQ E [.tmp 2] R)) fr h := by
  obtain ⟨a3, l3, c3, e3, g⟩ := gSlice_elim g
  obtain ⟨a4, l4, c4, e4, g⟩ := gSlice_elim g
  exact den_cut 1 (r := (cAt C [true, true, true, false, true])) (by kernel_rfl) (B6.ok R) (den_enter [(3, .slice a3 l3 c3), (4, .slice a4 l4 c4)] ⟨e3, e4, trivial⟩ (by kernel_rfl) g)
theorem W7.ok (R : Rt) (fr : Fr) (h : Hp) (g : D3.g R fr h) : den prog E (cAt C [true, true, true]) (retQ E [.tmp 2] R) fr h :=
  den_then (by kernel_rfl) (D2.ok R) (D3.ok R fr h g)
def D1.t (R : Rt) (a0 : Option Addr) (l0 : Nat) (c0 : Nat) (h : Hp) : Prop :=
  HC gnomonref01_Norm.id #[.slice a0 l0 c0] h fun v1 h2 =>
  gSlice v1 fun a_3 l_3 c_3 =>
  (2 : Int) ≠ 0 ∧ letK (IntKind.i64.wrap (Int.tdiv (((l_3 : Nat) : Int)) 2)) fun n4 =>
  letK (IntKind.i64.wrap (n4 + 1)) fun n5 =>
  mkK h2 35 T35 0 n5 fun q6 h7 =>
  D3.t R a_3 l_3 c_3 (some q6) ((0 : Int).toNat) n5.toNat h7
def D1.g (R : Rt) (fr : Fr) (h : Hp) : Prop := gSlice (fr 0) fun a0 l0 c0 => D1.t R a0 l0 c0 h
theorem D1.ok (R : Rt) (fr : Fr) (h : Hp) (g : D1.g R fr h) : den prog E C (retQ E [.tmp 2] R) fr h := by
  obtain ⟨a0, l0, c0, e0, g⟩ := gSlice_elim g
  exact den_cut 3 (r := (cAt C [true, true, true])) (by kernel_rfl) (W7.ok R) (den_enter [(0, .slice a0 l0 c0)] ⟨e0, trivial⟩ (by kernel_rfl) g)
def t (a0 : Option Addr) (l0 : Nat) (c0 : Nat) (h : Hp) (R : Rt) : Prop := D1.t R a0 l0 c0 h
theorem ok {a0 : Option Addr} {l0 : Nat} {c0 : Nat} {h : Hp} {R : Rt} (g : t a0 l0 c0 h R) : HC id #[.slice a0 l0 c0] h R :=
  calls_of_den' envOk (c := C) (rs := [.tmp 2]) Tryz.func22 (by kernel_rfl) (by kernel_rfl) (by kernel_rfl) (args := [.slice a0 l0 c0]) (by kernel_rfl) (D1.ok R _ h (gSlice_intro rfl (g)))
end gnomonref01_To

namespace gnomonref01_Cmp
noncomputable def C : Code := bodyOf Tryz.f23
def D2.t (R : Rt)  (h : Hp) : Prop :=
  R (.int .i64 0) h
def D2.g (R : Rt) (fr : Fr) (h : Hp) : Prop := D2.t R  h
theorem D2.ok (R : Rt) (fr : Fr) (h : Hp) (g : D2.g R fr h) : den prog E (cAt C [true, true, true]) (retQ E [.tmp 4] R) fr h := by
  exact den_enter [] trivial (by kernel_rfl) g
def L4.g (N : Option Addr → Nat → Nat → Option Addr → Nat → Nat → Int → Hp → Prop) (fr : Fr) (h : Hp) : Prop := gSlice (fr 0) fun a0 l0 c0 => gSlice (fr 1) fun a1 l1 c1 => gInt .i64 (fr 5) fun x5 => N a0 l0 c0 a1 l1 c1 x5 h
def D5.t (R : Rt) (N4 : Option Addr → Nat → Nat → Option Addr → Nat → Nat → Int → Hp → Prop) (a0 : Option Addr) (l0 : Nat) (c0 : Nat) (a1 : Option Addr) (l1 : Nat) (c1 : Nat) (x5 : Int) (h : Hp) : Prop :=
  cond (decide (x5 ≥ 0)) (idxK a0 l0 x5 1 fun q2 =>
  ldK h q2 fun v3 =>
  gInt .u32 v3 fun x_4 =>
  idxK a1 l1 x5 1 fun q5 =>
  ldK h q5 fun v6 =>
  gInt .u32 v6 fun x_7 =>
  cond (decide (x_4 < x_7)) (R (.int .i64 (-1)) h) (idxK a0 l0 x5 1 fun q8 =>
  ldK h q8 fun v9 =>
  gInt .u32 v9 fun x_10 =>
  idxK a1 l1 x5 1 fun q11 =>
  ldK h q11 fun v12 =>
  gInt .u32 v12 fun x_13 =>
  cond (decide (x_10 > x_13)) (R (.int .i64 1) h) (letK (IntKind.i64.wrap (x5 - 1)) fun n14 =>
  N4 a0 l0 c0 a1 l1 c1 n14 h))) (D2.t R h)
def D5.g (R : Rt) (N4 : Option Addr → Nat → Nat → Option Addr → Nat → Nat → Int → Hp → Prop) (fr : Fr) (h : Hp) : Prop := gSlice (fr 0) fun a0 l0 c0 => gSlice (fr 1) fun a1 l1 c1 => gInt .i64 (fr 5) fun x5 => D5.t R N4 a0 l0 c0 a1 l1 c1 x5 h
theorem D5.ok (R : Rt) (N4 : Option Addr → Nat → Nat → Option Addr → Nat → Nat → Int → Hp → Prop) (fr : Fr) (h : Hp) (g : D5.g R N4 fr h) : den prog E (cAt C [true, true, false, true, false, false]) (Ex.then (L4.g N4) (Ex.inBlock 0 (Ex.then (D2.g R) (retQ E [.tmp 4] R)))) fr h := by
  obtain ⟨a0, l0, c0, e0, g⟩ := gSlice_elim g
  obtain ⟨a1, l1, c1, e1, g⟩ := gSlice_elim g
  obtain ⟨x5, e5, g⟩ := gInt_elim g
  exact den_enter [(0, .slice a0 l0 c0), (1, .slice a1 l1 c1), (5, .int .i64 x5)] ⟨e0, e1, e5, trivial⟩ (by kernel_rfl) g
def L4.t (R : Rt) : Nat → Option Addr → Nat → Nat → Option Addr → Nat → Nat → Int → Hp → Prop
  | 0 => fun _ _ _ _ _ _ _ _ => False
  | n + 1 => fun a0 l0 c0 a1 l1 c1 x5 h => D5.t R (L4.t R n) a0 l0 c0 a1 l1 c1 x5 h
theorem L4.ok (R : Rt) (fr : Fr) (h : Hp) (g : L4.g (fun a0 l0 c0 a1 l1 c1 x5 h => ∃ n, L4.t R n a0 l0 c0 a1 l1 c1 x5 h) fr h) : den prog E (cAt C [true, true, false, true, false]) (Ex.inBlock 0 (Ex.then (D2.g R) (retQ E [.tmp 4] R))) fr h := by
  obtain ⟨a0, l0, c0, e0, g⟩ := gSlice_elim g
  obtain ⟨a1, l1, c1, e1, g⟩ := gSlice_elim g
  obtain ⟨x5, e5, g⟩ := gInt_elim g
  obtain ⟨n, g⟩ := g
  refine loop_ok (fun n => L4.g (L4.t R n)) (b := (cAt C [true, true, false, true, false, false])) (by kernel_rfl) (fun fr h g => ?_) (fun n => D5.ok R (L4.t R n)) n fr h (gSlice_intro e0 (gSlice_intro e1 (gInt_intro e5 (g))))
  obtain ⟨a0, l0, c0, e0, g⟩ := gSlice_elim g
  obtain ⟨a1, l1, c1, e1, g⟩ := gSlice_elim g
  obtain ⟨x5, e5, g⟩ := gInt_elim g
  exact g
theorem B6.ok (R : Rt) (fr : Fr) (h : Hp) (g : L4.g (fun a0 l0 c0 a1 l1 c1 x5 h => ∃ n, L4.t R n a0 l0 c0 a1 l1 c1 x5 h) fr h) : den prog E (cAt C [true, true, false, true]) (Ex.then (D2.g R) (retQ E [.tmp 4] R)) fr h :=
  den_block (by kernel_rfl) (L4.ok R fr h g)
def D3.t (R : Rt) (a0 : Option Addr) (l0 : Nat) (c0 : Nat) (a1 : Option Addr) (l1 : Nat) (c1 : Nat) (h : Hp) : Prop :=
  letK (IntKind.i64.wrap ((((l0 : Nat) : Int)) - 1)) fun n1 => (∃ n, L4.t R n a0 l0 c0 a1 l1 c1 n1 h)
def D3.g (R : Rt) (fr : Fr) (h : Hp) : Prop := gSlice (fr 0) fun a0 l0 c0 => gSlice (fr 1) fun a1 l1 c1 => D3.t R a0 l0 c0 a1 l1 c1 h
theorem D3.ok (R : Rt) (fr : Fr) (h : Hp) (g : D3.g R fr h) : den prog E (cAt C [true, true, false]) (Ex.then (D2.g R) (retQ E [.tmp 4] R)) fr h := by
  obtain ⟨a0, l0, c0, e0, g⟩ := gSlice_elim g
  obtain ⟨a1, l1, c1, e1, g⟩ := gSlice_elim g
  exact den_cut 1 (r := (cAt C [true, true, false, true])) (by kernel_rfl) (B6.ok R) (den_enter [(0, .slice a0 l0 c0), (1, .slice a1 l1 c1)] ⟨e0, e1, trivial⟩ (by kernel_rfl) g)
theorem W7.ok (R : Rt) (fr : Fr) (h : Hp) (g : D3.g R fr h) : den prog E (cAt C [true, true]) (retQ E [.tmp 4] R) fr h :=
  den_then (by kernel_rfl) (D2.ok R) (D3.ok R fr h g)
def D1.t (R : Rt) (a0 : Option Addr) (l0 : Nat) (c0 : Nat) (a1 : Option Addr) (l1 : Nat) (c1 : Nat) (h : Hp) : Prop :=
  cond ((((l0 : Nat) : Int)) != (((l1 : Nat) : Int))) (cond (decide ((((l0 : Nat) : Int)) < (((l1 : Nat) : Int)))) (R (.int .i64 (-1)) h) (R (.int .i64 1) h)) (D3.t R a0 l0 c0 a1 l1 c1 h)
def D1.g (R : Rt) (fr : Fr) (h : Hp) : Prop := gSlice (fr 0) fun a0 l0 c0 => gSlice (fr 1) fun a1 l1 c1 => D1.t R a0 l0 c0 a1 l1 c1 h
theorem D1.ok (R : Rt) (fr : Fr) (h : Hp) (g : D1.g R fr h) : den prog E C (retQ E [.tmp 4] R) fr h := by
  obtain ⟨a0, l0, c0, e0, g⟩ := gSlice_elim g
  obtain ⟨a1, l1, c1, e1, g⟩ := gSlice_elim g
  exact den_cut 2 (r := (cAt C [true, true])) (by kernel_rfl) (W7.ok R) (den_enter [(0, .slice a0 l0 c0), (1, .slice a1 l1 c1)] ⟨e0, e1, trivial⟩ (by kernel_rfl) g)
def t (a0 : Option Addr) (l0 : Nat) (c0 : Nat) (a1 : Option Addr) (l1 : Nat) (c1 : Nat) (h : Hp) (R : Rt) : Prop := D1.t R a0 l0 c0 a1 l1 c1 h
theorem ok {a0 : Option Addr} {l0 : Nat} {c0 : Nat} {a1 : Option Addr} {l1 : Nat} {c1 : Nat} {h : Hp} {R : Rt} (g : t a0 l0 c0 a1 l1 c1 h R) : HC id #[.slice a0 l0 c0, .slice a1 l1 c1] h R :=
  calls_of_den' envOk (c := C) (rs := [.tmp 4]) Tryz.func23 (by kernel_rfl) (by kernel_rfl) (by kernel_rfl) (args := [.slice a0 l0 c0, .slice a1 l1 c1]) (by kernel_rfl) (D1.ok R _ h (gSlice_intro rfl (gSlice_intro rfl (g))))
end gnomonref01_Cmp

namespace gnomonref01_Pow2
noncomputable def C : Code := bodyOf Tryz.f24
def D1.t (R : Rt) (x0 : Int) (h : Hp) : Prop :=
  HC gnomonref01_Word.id #[.int .u64 1] h fun v1 h2 =>
  gSlice v1 fun a_3 l_3 c_3 =>
  HC gnomonref01_Shl.id #[.slice a_3 l_3 c_3, .int .i64 x0] h2 fun v4 h5 =>
  gSlice v4 fun a_6 l_6 c_6 =>
  R (.slice a_6 l_6 c_6) h5
def D1.g (R : Rt) (fr : Fr) (h : Hp) : Prop := gInt .i64 (fr 0) fun x0 => D1.t R x0 h
theorem D1.ok (R : Rt) (fr : Fr) (h : Hp) (g : D1.g R fr h) : den prog E C (retQ E [.tmp 2] R) fr h := by
  obtain ⟨x0, e0, g⟩ := gInt_elim g
  exact den_enter [(0, .int .i64 x0)] ⟨e0, trivial⟩ (by kernel_rfl) g
def t (x0 : Int) (h : Hp) (R : Rt) : Prop := D1.t R x0 h
theorem ok {x0 : Int} {h : Hp} {R : Rt} (g : t x0 h R) : HC id #[.int .i64 x0] h R :=
  calls_of_den' envOk (c := C) (rs := [.tmp 2]) Tryz.func24 (by kernel_rfl) (by kernel_rfl) (by kernel_rfl) (args := [.int .i64 x0]) (by kernel_rfl) (D1.ok R _ h (gInt_intro rfl (g)))
end gnomonref01_Pow2




namespace nat_Word
noncomputable def C : Code := bodyOf Tryz.f29
def D1.t (R : Rt) (x0 : Int) (h : Hp) : Prop :=
  cond (x0 == 0) (R (.slice none 0 0) h) (boxK h 35 [.int .u64 x0] fun q1 h2 => R (.slice (some q1) 1 1) h2)
def D1.g (R : Rt) (fr : Fr) (h : Hp) : Prop := gInt .u64 (fr 0) fun x0 => D1.t R x0 h
theorem D1.ok (R : Rt) (fr : Fr) (h : Hp) (g : D1.g R fr h) : den prog E C (retQ E [.tmp 2] R) fr h := by
  obtain ⟨x0, e0, g⟩ := gInt_elim g
  exact den_enter [(0, .int .u64 x0)] ⟨e0, trivial⟩ (by kernel_rfl) g
def t (x0 : Int) (h : Hp) (R : Rt) : Prop := D1.t R x0 h
theorem ok {x0 : Int} {h : Hp} {R : Rt} (g : t x0 h R) : HC id #[.int .u64 x0] h R :=
  calls_of_den' envOk (c := C) (rs := [.tmp 2]) Tryz.func29 (by kernel_rfl) (by kernel_rfl) (by kernel_rfl) (args := [.int .u64 x0]) (by kernel_rfl) (D1.ok R _ h (gInt_intro rfl (g)))
end nat_Word

namespace nearpi_plus
noncomputable def C : Code := bodyOf Tryz.f30
def D1.t (R : Rt) (a0 : Option Addr) (l0 : Nat) (c0 : Nat) (x1 : Int) (a2 : Option Addr) (l2 : Nat) (c2 : Nat) (h : Hp) : Prop :=
  HC nat_MulWord.id #[.slice a0 l0 c0, .int .u64 x1] h fun v1 h2 =>
  gTup v1 fun y3 =>
  uncons y3 fun v4 y4 =>
  gSlice v4 fun a_5 l_5 c_5 =>
  uncons y4 fun v6 y6 =>
  gInt .i64 v6 fun x_7 =>
  unnil y6 <| cond (x_7 != 0) (R (.tuple #[.slice none 0 0, .int .i64 x_7]) h2) (HC nat_Add.id #[.slice a_5 l_5 c_5, .slice a2 l2 c2] h2 fun v8 h9 =>
  gTup v8 fun y10 =>
  uncons y10 fun v11 y11 =>
  gSlice v11 fun a_12 l_12 c_12 =>
  uncons y11 fun v13 y13 =>
  gInt .i64 v13 fun x_14 =>
  unnil y13 <| R (.tuple #[.slice a_12 l_12 c_12, .int .i64 x_14]) h9)
def D1.g (R : Rt) (fr : Fr) (h : Hp) : Prop := gSlice (fr 0) fun a0 l0 c0 => gInt .u64 (fr 1) fun x1 => gSlice (fr 2) fun a2 l2 c2 => D1.t R a0 l0 c0 x1 a2 l2 c2 h
theorem D1.ok (R : Rt) (fr : Fr) (h : Hp) (g : D1.g R fr h) : den prog E C (retQ E [.tmp 6, .tmp 7] R) fr h := by
  obtain ⟨a0, l0, c0, e0, g⟩ := gSlice_elim g
  obtain ⟨x1, e1, g⟩ := gInt_elim g
  obtain ⟨a2, l2, c2, e2, g⟩ := gSlice_elim g
  exact den_enter [(0, .slice a0 l0 c0), (1, .int .u64 x1), (2, .slice a2 l2 c2)] ⟨e0, e1, e2, trivial⟩ (by kernel_rfl) g
def t (a0 : Option Addr) (l0 : Nat) (c0 : Nat) (x1 : Int) (a2 : Option Addr) (l2 : Nat) (c2 : Nat) (h : Hp) (R : Rt) : Prop := D1.t R a0 l0 c0 x1 a2 l2 c2 h
theorem ok {a0 : Option Addr} {l0 : Nat} {c0 : Nat} {x1 : Int} {a2 : Option Addr} {l2 : Nat} {c2 : Nat} {h : Hp} {R : Rt} (g : t a0 l0 c0 x1 a2 l2 c2 h R) : HC id #[.slice a0 l0 c0, .int .u64 x1, .slice a2 l2 c2] h R :=
  calls_of_den' envOk (c := C) (rs := [.tmp 6, .tmp 7]) Tryz.func30 (by kernel_rfl) (by kernel_rfl) (by kernel_rfl) (args := [.slice a0 l0 c0, .int .u64 x1, .slice a2 l2 c2]) (by kernel_rfl) (D1.ok R _ h (gSlice_intro rfl (gInt_intro rfl (gSlice_intro rfl (g)))))
end nearpi_plus

namespace nearpi_fraction
noncomputable def C : Code := bodyOf Tryz.f31
def D1.t (R : Rt) (x0 : Int) (h : Hp) : Prop :=
  letK (IntKind.i64.wrap (x0 + 320)) fun n1 =>
  HC piconst_FloorInv.id #[.int .i64 n1] h fun v2 h3 =>
  gTup v2 fun y4 =>
  uncons y4 fun v5 y5 =>
  gSlice v5 fun a_6 l_6 c_6 =>
  uncons y5 fun v7 y7 =>
  gInt .i64 v7 fun x_8 =>
  unnil y7 <| R (.tuple #[.slice a_6 l_6 c_6, .int .i64 x_8]) h3
def D1.g (R : Rt) (fr : Fr) (h : Hp) : Prop := gInt .i64 (fr 0) fun x0 => D1.t R x0 h
theorem D1.ok (R : Rt) (fr : Fr) (h : Hp) (g : D1.g R fr h) : den prog E C (retQ E [.tmp 2, .tmp 3] R) fr h := by
  obtain ⟨x0, e0, g⟩ := gInt_elim g
  exact den_enter [(0, .int .i64 x0)] ⟨e0, trivial⟩ (by kernel_rfl) g
def t (x0 : Int) (h : Hp) (R : Rt) : Prop := D1.t R x0 h
theorem ok {x0 : Int} {h : Hp} {R : Rt} (g : t x0 h R) : HC id #[.int .i64 x0] h R :=
  calls_of_den' envOk (c := C) (rs := [.tmp 2, .tmp 3]) Tryz.func31 (by kernel_rfl) (by kernel_rfl) (by kernel_rfl) (args := [.int .i64 x0]) (by kernel_rfl) (D1.ok R _ h (gInt_intro rfl (g)))
end nearpi_fraction

namespace nearpi_from
noncomputable def C : Code := bodyOf Tryz.f32
def D2.t (R : Rt) (x1 : Int) (x2 : Int) (a10 : Option Addr) (l10 : Nat) (c10 : Nat) (a12 : Option Addr) (l12 : Nat) (c12 : Nat) (h : Hp) : Prop :=
  letK (IntKind.u64.wrap (x2 - x1)) fun n28 =>
  letK (IntKind.u64.wrap (n28 + 1)) fun n29 =>
  HC nearpi_ring_least.id #[.agg #[.slice a12 l12 c12, .slice a10 l10 c10], .int .u64 n29] h fun v30 h31 =>
  gTup v30 fun y32 =>
  uncons y32 fun v33 y33 =>
  gInt .u64 v33 fun x_34 =>
  uncons y33 fun v35 y35 =>
  gSlice v35 fun a_36 l_36 c_36 =>
  unnil y35 <| letK (IntKind.u64.wrap (x1 + x_34)) fun n37 =>
  R (.tuple #[.int .u64 n37, .slice a_36 l_36 c_36]) h31
def D2.g (R : Rt) (fr : Fr) (h : Hp) : Prop := gInt .u64 (fr 1) fun x1 => gInt .u64 (fr 2) fun x2 => gSlice (fr 10) fun a10 l10 c10 => gSlice (fr 12) fun a12 l12 c12 => D2.t R x1 x2 a10 l10 c10 a12 l12 c12 h
theorem D2.ok (R : Rt) (fr : Fr) (h : Hp) (g : D2.g R fr h) : den prog E (cAt C [true, true, true, true, true]) (retQ E [.tmp 8, .tmp 9] R) fr h := by
  obtain ⟨x1, e1, g⟩ := gInt_elim g
  obtain ⟨x2, e2, g⟩ := gInt_elim g
  obtain ⟨a10, l10, c10, e10, g⟩ := gSlice_elim g
  obtain ⟨a12, l12, c12, e12, g⟩ := gSlice_elim g
  exact den_enter [(1, .int .u64 x1), (2, .int .u64 x2), (10, .slice a10 l10 c10), (12, .slice a12 l12 c12)] ⟨e1, e2, e10, e12, trivial⟩ (by kernel_rfl) g
def D1.t (R : Rt) (a0 : Option Addr) (l0 : Nat) (c0 : Nat) (x1 : Int) (x2 : Int) (b3 : Bool) (h : Hp) : Prop :=
  HC nat_Low.id #[.slice a0 l0 c0, .int .i64 320] h fun v1 h2 =>
  gTup v1 fun y3 =>
  uncons y3 fun v4 y4 =>
  gSlice v4 fun a_5 l_5 c_5 =>
  uncons y4 fun v6 y6 =>
  gInt .i64 v6 fun x_7 =>
  unnil y6 <| HC nat_MulWord.id #[.slice a_5 l_5 c_5, .int .u64 x1] h2 fun v8 h9 =>
  gTup v8 fun y10 =>
  uncons y10 fun v11 y11 =>
  gSlice v11 fun a_12 l_12 c_12 =>
  uncons y11 fun v13 y13 =>
  gInt .i64 v13 fun x_14 =>
  unnil y13 <| HC nat_Low.id #[.slice a_12 l_12 c_12, .int .i64 320] h9 fun v15 h16 =>
  gTup v15 fun y17 =>
  uncons y17 fun v18 y18 =>
  gSlice v18 fun a_19 l_19 c_19 =>
  uncons y18 fun v20 y20 =>
  gInt .i64 v20 fun x_21 =>
  unnil y20 <| cond b3 (HC nearpi_opposite.id #[.slice a_5 l_5 c_5] h16 fun v22 h23 =>
  gSlice v22 fun a_24 l_24 c_24 =>
  HC nearpi_opposite.id #[.slice a_19 l_19 c_19] h23 fun v25 h26 =>
  gSlice v25 fun a_27 l_27 c_27 =>
  D2.t R x1 x2 a_24 l_24 c_24 a_27 l_27 c_27 h26) (D2.t R x1 x2 a_5 l_5 c_5 a_19 l_19 c_19 h16)
def D1.g (R : Rt) (fr : Fr) (h : Hp) : Prop := gSlice (fr 0) fun a0 l0 c0 => gInt .u64 (fr 1) fun x1 => gInt .u64 (fr 2) fun x2 => gBool (fr 3) fun b3 => D1.t R a0 l0 c0 x1 x2 b3 h
theorem D1.ok (R : Rt) (fr : Fr) (h : Hp) (g : D1.g R fr h) : den prog E C (retQ E [.tmp 8, .tmp 9] R) fr h := by
  obtain ⟨a0, l0, c0, e0, g⟩ := gSlice_elim g
  obtain ⟨x1, e1, g⟩ := gInt_elim g
  obtain ⟨x2, e2, g⟩ := gInt_elim g
  obtain ⟨b3, e3, g⟩ := gBool_elim g
  exact den_cut 5 (r := (cAt C [true, true, true, true, true])) (by kernel_rfl) (D2.ok R) (den_enter [(0, .slice a0 l0 c0), (1, .int .u64 x1), (2, .int .u64 x2), (3, .bool b3)] ⟨e0, e1, e2, e3, trivial⟩ (by kernel_rfl) g)
def t (a0 : Option Addr) (l0 : Nat) (c0 : Nat) (x1 : Int) (x2 : Int) (b3 : Bool) (h : Hp) (R : Rt) : Prop := D1.t R a0 l0 c0 x1 x2 b3 h
theorem ok {a0 : Option Addr} {l0 : Nat} {c0 : Nat} {x1 : Int} {x2 : Int} {b3 : Bool} {h : Hp} {R : Rt} (g : t a0 l0 c0 x1 x2 b3 h R) : HC id #[.slice a0 l0 c0, .int .u64 x1, .int .u64 x2, .bool b3] h R :=
  calls_of_den' envOk (c := C) (rs := [.tmp 8, .tmp 9]) Tryz.func32 (by kernel_rfl) (by kernel_rfl) (by kernel_rfl) (args := [.slice a0 l0 c0, .int .u64 x1, .int .u64 x2, .bool b3]) (by kernel_rfl) (D1.ok R _ h (gSlice_intro rfl (gInt_intro rfl (gInt_intro rfl (gBool_intro rfl (g))))))
end nearpi_from

namespace nearpi_firstOver
noncomputable def C : Code := bodyOf Tryz.f33
def D2.t (R : Rt) (x1 : Int) (h : Hp) : Prop :=
  R (.int .u64 x1) h
def D2.g (R : Rt) (fr : Fr) (h : Hp) : Prop := gInt .u64 (fr 1) fun x1 => D2.t R x1 h
theorem D2.ok (R : Rt) (fr : Fr) (h : Hp) (g : D2.g R fr h) : den prog E (cAt C [true, true]) (retQ E [.tmp 6] R) fr h := by
  obtain ⟨x1, e1, g⟩ := gInt_elim g
  exact den_enter [(1, .int .u64 x1)] ⟨e1, trivial⟩ (by kernel_rfl) g
def L3.g (N : Option Addr → Nat → Nat → Int → Int → Hp → Prop) (fr : Fr) (h : Hp) : Prop := gSlice (fr 0) fun a0 l0 c0 => gInt .u64 (fr 1) fun x1 => gInt .u64 (fr 2) fun x2 => N a0 l0 c0 x1 x2 h
def D4.t (R : Rt) (N3 : Option Addr → Nat → Nat → Int → Int → Hp → Prop) (a0 : Option Addr) (l0 : Nat) (c0 : Nat) (x1 : Int) (x2 : Int) (h : Hp) : Prop :=
  cond (decide (x1 ≤ x2)) (letK (IntKind.u64.wrap (x2 - x1)) fun n1 =>
  (2 : Int) ≠ 0 ∧ letK (IntKind.u64.wrap (Int.tdiv n1 2)) fun n2 =>
  letK (IntKind.u64.wrap (x1 + n2)) fun n3 =>
  HC nearpi_multiple.id #[.slice a0 l0 c0, .int .u64 n3, .bool false] h fun v4 h5 =>
  gSlice v4 fun a_6 l_6 c_6 =>
  cond (decide ((((l_6 : Nat) : Int)) > 0)) (letK (IntKind.u64.wrap (n3 - 1)) fun n7 =>
  N3 a0 l0 c0 x1 n7 h5) (letK (IntKind.u64.wrap (n3 + 1)) fun n8 =>
  N3 a0 l0 c0 n8 x2 h5)) (D2.t R x1 h)
def D4.g (R : Rt) (N3 : Option Addr → Nat → Nat → Int → Int → Hp → Prop) (fr : Fr) (h : Hp) : Prop := gSlice (fr 0) fun a0 l0 c0 => gInt .u64 (fr 1) fun x1 => gInt .u64 (fr 2) fun x2 => D4.t R N3 a0 l0 c0 x1 x2 h
theorem D4.ok (R : Rt) (N3 : Option Addr → Nat → Nat → Int → Int → Hp → Prop) (fr : Fr) (h : Hp) (g : D4.g R N3 fr h) : den prog E (cAt C [true, false, false, false]) (Ex.then (L3.g N3) (Ex.inBlock 0 (Ex.then (D2.g R) (retQ E [.tmp 6] R)))) fr h := by
  obtain ⟨a0, l0, c0, e0, g⟩ := gSlice_elim g
  obtain ⟨x1, e1, g⟩ := gInt_elim g
  obtain ⟨x2, e2, g⟩ := gInt_elim g
  exact den_enter [(0, .slice a0 l0 c0), (1, .int .u64 x1), (2, .int .u64 x2)] ⟨e0, e1, e2, trivial⟩ (by kernel_rfl) g
def L3.t (R : Rt) : Nat → Option Addr → Nat → Nat → Int → Int → Hp → Prop
  | 0 => fun _ _ _ _ _ _ => False
  | n + 1 => fun a0 l0 c0 x1 x2 h => D4.t R (L3.t R n) a0 l0 c0 x1 x2 h
theorem L3.ok (R : Rt) (fr : Fr) (h : Hp) (g : L3.g (fun a0 l0 c0 x1 x2 h => ∃ n, L3.t R n a0 l0 c0 x1 x2 h) fr h) : den prog E (cAt C [true, false, false]) (Ex.inBlock 0 (Ex.then (D2.g R) (retQ E [.tmp 6] R))) fr h := by
  obtain ⟨a0, l0, c0, e0, g⟩ := gSlice_elim g
  obtain ⟨x1, e1, g⟩ := gInt_elim g
  obtain ⟨x2, e2, g⟩ := gInt_elim g
  obtain ⟨n, g⟩ := g
  refine loop_ok (fun n => L3.g (L3.t R n)) (b := (cAt C [true, false, false, false])) (by kernel_rfl) (fun fr h g => ?_) (fun n => D4.ok R (L3.t R n)) n fr h (gSlice_intro e0 (gInt_intro e1 (gInt_intro e2 (g))))
  obtain ⟨a0, l0, c0, e0, g⟩ := gSlice_elim g
  obtain ⟨x1, e1, g⟩ := gInt_elim g
  obtain ⟨x2, e2, g⟩ := gInt_elim g
  exact g
theorem B5.ok (R : Rt) (fr : Fr) (h : Hp) (g : L3.g (fun a0 l0 c0 x1 x2 h => ∃ n, L3.t R n a0 l0 c0 x1 x2 h) fr h) : den prog E (cAt C [true, false]) (Ex.then (D2.g R) (retQ E [.tmp 6] R)) fr h :=
  den_block (by kernel_rfl) (L3.ok R fr h g)
theorem W6.ok (R : Rt) (fr : Fr) (h : Hp) (g : L3.g (fun a0 l0 c0 x1 x2 h => ∃ n, L3.t R n a0 l0 c0 x1 x2 h) fr h) : den prog E (cAt C [true]) (retQ E [.tmp 6] R) fr h :=
  den_then (by kernel_rfl) (D2.ok R) (B5.ok R fr h g)
def D1.t (R : Rt) (a0 : Option Addr) (l0 : Nat) (c0 : Nat) (x1 : Int) (x2 : Int) (h : Hp) : Prop :=
  (∃ n, L3.t R n a0 l0 c0 x1 x2 h)
def D1.g (R : Rt) (fr : Fr) (h : Hp) : Prop := gSlice (fr 0) fun a0 l0 c0 => gInt .u64 (fr 1) fun x1 => gInt .u64 (fr 2) fun x2 => D1.t R a0 l0 c0 x1 x2 h
theorem D1.ok (R : Rt) (fr : Fr) (h : Hp) (g : D1.g R fr h) : den prog E C (retQ E [.tmp 6] R) fr h := by
  obtain ⟨a0, l0, c0, e0, g⟩ := gSlice_elim g
  obtain ⟨x1, e1, g⟩ := gInt_elim g
  obtain ⟨x2, e2, g⟩ := gInt_elim g
  exact den_cut 1 (r := (cAt C [true])) (by kernel_rfl) (W6.ok R) (den_enter [(0, .slice a0 l0 c0), (1, .int .u64 x1), (2, .int .u64 x2)] ⟨e0, e1, e2, trivial⟩ (by kernel_rfl) g)
def t (a0 : Option Addr) (l0 : Nat) (c0 : Nat) (x1 : Int) (x2 : Int) (h : Hp) (R : Rt) : Prop := D1.t R a0 l0 c0 x1 x2 h
theorem ok {a0 : Option Addr} {l0 : Nat} {c0 : Nat} {x1 : Int} {x2 : Int} {h : Hp} {R : Rt} (g : t a0 l0 c0 x1 x2 h R) : HC id #[.slice a0 l0 c0, .int .u64 x1, .int .u64 x2] h R :=
  calls_of_den' envOk (c := C) (rs := [.tmp 6]) Tryz.func33 (by kernel_rfl) (by kernel_rfl) (by kernel_rfl) (args := [.slice a0 l0 c0, .int .u64 x1, .int .u64 x2]) (by kernel_rfl) (D1.ok R _ h (gSlice_intro rfl (gInt_intro rfl (gInt_intro rfl (g)))))
end nearpi_firstOver

namespace nat_Cmp
noncomputable def C : Code := bodyOf Tryz.f34
def D2.t (R : Rt)  (h : Hp) : Prop :=
  R (.int .i64 0) h
def D2.g (R : Rt) (fr : Fr) (h : Hp) : Prop := D2.t R  h
theorem D2.ok (R : Rt) (fr : Fr) (h : Hp) (g : D2.g R fr h) : den prog E (cAt C [true, true, true, true]) (retQ E [.tmp 4] R) fr h := by
  exact den_enter [] trivial (by kernel_rfl) g
def L4.g (N : Option Addr → Nat → Nat → Option Addr → Nat → Nat → Int → Hp → Prop) (fr : Fr) (h : Hp) : Prop := gSlice (fr 5) fun a5 l5 c5 => gSlice (fr 6) fun a6 l6 c6 => gInt .i64 (fr 7) fun x7 => N a5 l5 c5 a6 l6 c6 x7 h
def D5.t (R : Rt) (N4 : Option Addr → Nat → Nat → Option Addr → Nat → Nat → Int → Hp → Prop) (a5 : Option Addr) (l5 : Nat) (c5 : Nat) (a6 : Option Addr) (l6 : Nat) (c6 : Nat) (x7 : Int) (h : Hp) : Prop :=
  cond (decide (x7 ≥ 0)) (idxK a5 l5 x7 1 fun q8 =>
  ldK h q8 fun v9 =>
  gInt .u64 v9 fun x_10 =>
  idxK a6 l6 x7 1 fun q11 =>
  ldK h q11 fun v12 =>
  gInt .u64 v12 fun x_13 =>
  cond (x_10 != x_13) (idxK a5 l5 x7 1 fun q14 =>
  ldK h q14 fun v15 =>
  gInt .u64 v15 fun x_16 =>
  idxK a6 l6 x7 1 fun q17 =>
  ldK h q17 fun v18 =>
  gInt .u64 v18 fun x_19 =>
  cond (decide (x_16 < x_19)) (R (.int .i64 (-1)) h) (R (.int .i64 1) h)) (letK (IntKind.i64.wrap (x7 - 1)) fun n20 =>
  N4 a5 l5 c5 a6 l6 c6 n20 h)) (D2.t R h)
def D5.g (R : Rt) (N4 : Option Addr → Nat → Nat → Option Addr → Nat → Nat → Int → Hp → Prop) (fr : Fr) (h : Hp) : Prop := gSlice (fr 5) fun a5 l5 c5 => gSlice (fr 6) fun a6 l6 c6 => gInt .i64 (fr 7) fun x7 => D5.t R N4 a5 l5 c5 a6 l6 c6 x7 h
theorem D5.ok (R : Rt) (N4 : Option Addr → Nat → Nat → Option Addr → Nat → Nat → Int → Hp → Prop) (fr : Fr) (h : Hp) (g : D5.g R N4 fr h) : den prog E (cAt C [true, true, true, false, true, false, false]) (Ex.then (L4.g N4) (Ex.inBlock 0 (Ex.then (D2.g R) (retQ E [.tmp 4] R)))) fr h := by
  obtain ⟨a5, l5, c5, e5, g⟩ := gSlice_elim g
  obtain ⟨a6, l6, c6, e6, g⟩ := gSlice_elim g
  obtain ⟨x7, e7, g⟩ := gInt_elim g
  exact den_enter [(5, .slice a5 l5 c5), (6, .slice a6 l6 c6), (7, .int .i64 x7)] ⟨e5, e6, e7, trivial⟩ (by kernel_rfl) g
def L4.t (R : Rt) : Nat → Option Addr → Nat → Nat → Option Addr → Nat → Nat → Int → Hp → Prop
  | 0 => fun _ _ _ _ _ _ _ _ => False
  | n + 1 => fun a5 l5 c5 a6 l6 c6 x7 h => D5.t R (L4.t R n) a5 l5 c5 a6 l6 c6 x7 h
theorem L4.ok (R : Rt) (fr : Fr) (h : Hp) (g : L4.g (fun a5 l5 c5 a6 l6 c6 x7 h => ∃ n, L4.t R n a5 l5 c5 a6 l6 c6 x7 h) fr h) : den prog E (cAt C [true, true, true, false, true, false]) (Ex.inBlock 0 (Ex.then (D2.g R) (retQ E [.tmp 4] R))) fr h := by
  obtain ⟨a5, l5, c5, e5, g⟩ := gSlice_elim g
  obtain ⟨a6, l6, c6, e6, g⟩ := gSlice_elim g
  obtain ⟨x7, e7, g⟩ := gInt_elim g
  obtain ⟨n, g⟩ := g
  refine loop_ok (fun n => L4.g (L4.t R n)) (b := (cAt C [true, true, true, false, true, false, false])) (by kernel_rfl) (fun fr h g => ?_) (fun n => D5.ok R (L4.t R n)) n fr h (gSlice_intro e5 (gSlice_intro e6 (gInt_intro e7 (g))))
  obtain ⟨a5, l5, c5, e5, g⟩ := gSlice_elim g
  obtain ⟨a6, l6, c6, e6, g⟩ := gSlice_elim g
  obtain ⟨x7, e7, g⟩ := gInt_elim g
  exact g
theorem B6.ok (R : Rt) (fr : Fr) (h : Hp) (g : L4.g (fun a5 l5 c5 a6 l6 c6 x7 h => ∃ n, L4.t R n a5 l5 c5 a6 l6 c6 x7 h) fr h) : den prog E (cAt C [true, true, true, false, true]) (Ex.then (D2.g R) (retQ E [.tmp 4] R)) fr h :=
  den_block (by kernel_rfl) (L4.ok R fr h g)
def D3.t (R : Rt) (a5 : Option Addr) (l5 : Nat) (c5 : Nat) (a6 : Option Addr) (l6 : Nat) (c6 : Nat) (h : Hp) : Prop :=
  letK (IntKind.i64.wrap ((((l5 : Nat) : Int)) - 1)) fun n7 => (∃ n, L4.t R n a5 l5 c5 a6 l6 c6 n7 h)
def D3.g (R : Rt) (fr : Fr) (h : Hp) : Prop := gSlice (fr 5) fun a5 l5 c5 => gSlice (fr 6) fun a6 l6 c6 => D3.t R a5 l5 c5 a6 l6 c6 h
theorem D3.ok (R : Rt) (fr : Fr) (h : Hp) (g : D3.g R fr h) : den prog E (cAt C [true, true, true, false]) (Ex.then (D2.g R) (retQ E [.tmp 4] R)) fr h := by
  obtain ⟨a5, l5, c5, e5, g⟩ := gSlice_elim g
  obtain ⟨a6, l6, c6, e6, g⟩ := gSlice_elim g
  exact den_cut 1 (r := (cAt C [true, true, true, false, true])) (by kernel_rfl) (B6.ok R) (den_enter [(5, .slice a5 l5 c5), (6, .slice a6 l6 c6)] ⟨e5, e6, trivial⟩ (by kernel_rfl) g)
theorem W7.ok (R : Rt) (fr : Fr) (h : Hp) (g : D3.g R fr h) : den prog E (cAt C [true, true, true]) (retQ E [.tmp 4] R) fr h :=
  den_then (by kernel_rfl) (D2.ok R) (D3.ok R fr h g)
def D1.t (R : Rt) (a0 : Option Addr) (l0 : Nat) (c0 : Nat) (a1 : Option Addr) (l1 : Nat) (c1 : Nat) (h : Hp) : Prop :=
  HC nat_trim.id #[.slice a0 l0 c0] h fun v1 h2 =>
  gSlice v1 fun a_3 l_3 c_3 =>
  HC nat_trim.id #[.slice a1 l1 c1] h2 fun v4 h5 =>
  gSlice v4 fun a_6 l_6 c_6 =>
  cond ((((l_3 : Nat) : Int)) != (((l_6 : Nat) : Int))) (cond (decide ((((l_3 : Nat) : Int)) < (((l_6 : Nat) : Int)))) (R (.int .i64 (-1)) h5) (R (.int .i64 1) h5)) (D3.t R a_3 l_3 c_3 a_6 l_6 c_6 h5)
def D1.g (R : Rt) (fr : Fr) (h : Hp) : Prop := gSlice (fr 0) fun a0 l0 c0 => gSlice (fr 1) fun a1 l1 c1 => D1.t R a0 l0 c0 a1 l1 c1 h
theorem D1.ok (R : Rt) (fr : Fr) (h : Hp) (g : D1.g R fr h) : den prog E C (retQ E [.tmp 4] R) fr h := by
  obtain ⟨a0, l0, c0, e0, g⟩ := gSlice_elim g
  obtain ⟨a1, l1, c1, e1, g⟩ := gSlice_elim g
  exact den_cut 3 (r := (cAt C [true, true, true])) (by kernel_rfl) (W7.ok R) (den_enter [(0, .slice a0 l0 c0), (1, .slice a1 l1 c1)] ⟨e0, e1, trivial⟩ (by kernel_rfl) g)
def t (a0 : Option Addr) (l0 : Nat) (c0 : Nat) (a1 : Option Addr) (l1 : Nat) (c1 : Nat) (h : Hp) (R : Rt) : Prop := D1.t R a0 l0 c0 a1 l1 c1 h
theorem ok {a0 : Option Addr} {l0 : Nat} {c0 : Nat} {a1 : Option Addr} {l1 : Nat} {c1 : Nat} {h : Hp} {R : Rt} (g : t a0 l0 c0 a1 l1 c1 h R) : HC id #[.slice a0 l0 c0, .slice a1 l1 c1] h R :=
  calls_of_den' envOk (c := C) (rs := [.tmp 4]) Tryz.func34 (by kernel_rfl) (by kernel_rfl) (by kernel_rfl) (args := [.slice a0 l0 c0, .slice a1 l1 c1]) (by kernel_rfl) (D1.ok R _ h (gSlice_intro rfl (gSlice_intro rfl (g))))
end nat_Cmp

namespace nearpi_multiple
noncomputable def C : Code := bodyOf Tryz.f35
def D1.t (R : Rt) (a0 : Option Addr) (l0 : Nat) (c0 : Nat) (x1 : Int) (b2 : Bool) (h : Hp) : Prop :=
  HC nat_MulWord.id #[.slice a0 l0 c0, .int .u64 x1] h fun v1 h2 =>
  gTup v1 fun y3 =>
  uncons y3 fun v4 y4 =>
  gSlice v4 fun a_5 l_5 c_5 =>
  uncons y4 fun v6 y6 =>
  gInt .i64 v6 fun x_7 =>
  unnil y6 <| HC nat_Shr.id #[.slice a_5 l_5 c_5, .int .i64 320] h2 fun v8 h9 =>
  gTup v8 fun y10 =>
  uncons y10 fun v11 y11 =>
  gSlice v11 fun a_12 l_12 c_12 =>
  uncons y11 fun v13 y13 =>
  gInt .i64 v13 fun x_14 =>
  unnil y13 <| cond b2 (HC nat_Word.id #[.int .u64 1] h9 fun v15 h16 =>
  gSlice v15 fun a_17 l_17 c_17 =>
  HC nat_Add.id #[.slice a_12 l_12 c_12, .slice a_17 l_17 c_17] h16 fun v18 h19 =>
  gTup v18 fun y20 =>
  uncons y20 fun v21 y21 =>
  gSlice v21 fun a_22 l_22 c_22 =>
  uncons y21 fun v23 y23 =>
  gInt .i64 v23 fun x_24 =>
  unnil y23 <| R (.slice a_22 l_22 c_22) h19) (R (.slice a_12 l_12 c_12) h9)
def D1.g (R : Rt) (fr : Fr) (h : Hp) : Prop := gSlice (fr 0) fun a0 l0 c0 => gInt .u64 (fr 1) fun x1 => gBool (fr 2) fun b2 => D1.t R a0 l0 c0 x1 b2 h
theorem D1.ok (R : Rt) (fr : Fr) (h : Hp) (g : D1.g R fr h) : den prog E C (retQ E [.tmp 6] R) fr h := by
  obtain ⟨a0, l0, c0, e0, g⟩ := gSlice_elim g
  obtain ⟨x1, e1, g⟩ := gInt_elim g
  obtain ⟨b2, e2, g⟩ := gBool_elim g
  exact den_enter [(0, .slice a0 l0 c0), (1, .int .u64 x1), (2, .bool b2)] ⟨e0, e1, e2, trivial⟩ (by kernel_rfl) g
def t (a0 : Option Addr) (l0 : Nat) (c0 : Nat) (x1 : Int) (b2 : Bool) (h : Hp) (R : Rt) : Prop := D1.t R a0 l0 c0 x1 b2 h
theorem ok {a0 : Option Addr} {l0 : Nat} {c0 : Nat} {x1 : Int} {b2 : Bool} {h : Hp} {R : Rt} (g : t a0 l0 c0 x1 b2 h R) : HC id #[.slice a0 l0 c0, .int .u64 x1, .bool b2] h R :=
  calls_of_den' envOk (c := C) (rs := [.tmp 6]) Tryz.func35 (by kernel_rfl) (by kernel_rfl) (by kernel_rfl) (args := [.slice a0 l0 c0, .int .u64 x1, .bool b2]) (by kernel_rfl) (D1.ok R _ h (gSlice_intro rfl (gInt_intro rfl (gBool_intro rfl (g)))))
end nearpi_multiple

namespace nearpi_depth
noncomputable def C : Code := bodyOf Tryz.f36
def L2.g (N : Int → Int → Option Addr → Nat → Nat → Int → Hp → Prop) (fr : Fr) (h : Hp) : Prop := gInt .u64 (fr 0) fun x0 => gInt .i64 (fr 1) fun x1 => gSlice (fr 2) fun a2 l2 c2 => gInt .i64 (fr 7) fun x7 => N x0 x1 a2 l2 c2 x7 h
def D3.t (R : Rt) (N2 : Int → Int → Option Addr → Nat → Nat → Int → Hp → Prop) (x0 : Int) (x1 : Int) (a2 : Option Addr) (l2 : Nat) (c2 : Nat) (x7 : Int) (h : Hp) : Prop :=
  HC piconst_FloorPi.id #[.int .i64 x7] h fun v1 h2 =>
  gTup v1 fun y3 =>
  uncons y3 fun v4 y4 =>
  gSlice v4 fun a_5 l_5 c_5 =>
  uncons y4 fun v6 y6 =>
  gInt .i64 v6 fun x_7 =>
  unnil y6 <| HC natmul_Mul.id #[.slice a2 l2 c2, .slice a_5 l_5 c_5] h2 fun v8 h9 =>
  gTup v8 fun y10 =>
  uncons y10 fun v11 y11 =>
  gSlice v11 fun a_12 l_12 c_12 =>
  uncons y11 fun v13 y13 =>
  gInt .i64 v13 fun x_14 =>
  unnil y13 <| HC nat_Add.id #[.slice a_12 l_12 c_12, .slice a2 l2 c2] h9 fun v15 h16 =>
  gTup v15 fun y17 =>
  uncons y17 fun v18 y18 =>
  gSlice v18 fun a_19 l_19 c_19 =>
  uncons y18 fun v20 y20 =>
  gInt .i64 v20 fun x_21 =>
  unnil y20 <| HC nat_Word.id #[.int .u64 x0] h16 fun v22 h23 =>
  gSlice v22 fun a_24 l_24 c_24 =>
  letK (IntKind.i64.wrap (x1 + x7)) fun n25 =>
  letK (IntKind.i64.wrap (n25 + 1)) fun n26 =>
  HC nat_Shl.id #[.slice a_24 l_24 c_24, .int .i64 n26] h23 fun v27 h28 =>
  gTup v27 fun y29 =>
  uncons y29 fun v30 y30 =>
  gSlice v30 fun a_31 l_31 c_31 =>
  uncons y30 fun v32 y32 =>
  gInt .i64 v32 fun x_33 =>
  unnil y32 <| HC nearpi_apart.id #[.slice a_31 l_31 c_31, .slice a_12 l_12 c_12] h28 fun v34 h35 =>
  gSlice v34 fun a_36 l_36 c_36 =>
  HC nearpi_apart.id #[.slice a_31 l_31 c_31, .slice a_19 l_19 c_19] h35 fun v37 h38 =>
  gSlice v37 fun a_39 l_39 c_39 =>
  cond (decide ((((l_36 : Nat) : Int)) > 0)) (cond (decide ((((l_39 : Nat) : Int)) > 0)) (HC nat_Bits.id #[.slice a_36 l_36 c_36] h38 fun v40 h41 =>
  gInt .i64 v40 fun x_42 =>
  HC nat_Bits.id #[.slice a_39 l_39 c_39] h41 fun v43 h44 =>
  gInt .i64 v43 fun x_45 =>
  cond (x_42 == x_45) (HC nat_Cmp.id #[.slice a_31 l_31 c_31, .slice a_12 l_12 c_12] h44 fun v46 h47 =>
  gInt .i64 v46 fun x_48 =>
  HC nat_Cmp.id #[.slice a_31 l_31 c_31, .slice a_19 l_19 c_19] h47 fun v49 h50 =>
  gInt .i64 v49 fun x_51 =>
  cond (x_48 == x_51) (letK (IntKind.i64.wrap (x7 + 2)) fun n52 =>
  HC nat_Bits.id #[.slice a_36 l_36 c_36] h50 fun v53 h54 =>
  gInt .i64 v53 fun x_55 =>
  letK (IntKind.i64.wrap (n52 - x_55)) fun n56 =>
  R (.int .i64 n56) h54) (letK (IntKind.i64.wrap (x7 + 1400)) fun n57 =>
  N2 x0 x1 a2 l2 c2 n57 h50)) (letK (IntKind.i64.wrap (x7 + 1400)) fun n58 =>
  N2 x0 x1 a2 l2 c2 n58 h44)) (letK (IntKind.i64.wrap (x7 + 1400)) fun n59 =>
  N2 x0 x1 a2 l2 c2 n59 h38)) (letK (IntKind.i64.wrap (x7 + 1400)) fun n60 =>
  N2 x0 x1 a2 l2 c2 n60 h38)
def D3.g (R : Rt) (N2 : Int → Int → Option Addr → Nat → Nat → Int → Hp → Prop) (fr : Fr) (h : Hp) : Prop := gInt .u64 (fr 0) fun x0 => gInt .i64 (fr 1) fun x1 => gSlice (fr 2) fun a2 l2 c2 => gInt .i64 (fr 7) fun x7 => D3.t R N2 x0 x1 a2 l2 c2 x7 h
theorem D3.ok (R : Rt) (N2 : Int → Int → Option Addr → Nat → Nat → Int → Hp → Prop) (fr : Fr) (h : Hp) (g : D3.g R N2 fr h) : den prog E (cAt C [true, true, false, false]) (Ex.then (L2.g N2) (Ex.inBlock 0 (retQ E [.tmp 6] R))) fr h := by
  obtain ⟨x0, e0, g⟩ := gInt_elim g
  obtain ⟨x1, e1, g⟩ := gInt_elim g
  obtain ⟨a2, l2, c2, e2, g⟩ := gSlice_elim g
  obtain ⟨x7, e7, g⟩ := gInt_elim g
  exact den_enter [(0, .int .u64 x0), (1, .int .i64 x1), (2, .slice a2 l2 c2), (7, .int .i64 x7)] ⟨e0, e1, e2, e7, trivial⟩ (by kernel_rfl) g
def L2.t (R : Rt) : Nat → Int → Int → Option Addr → Nat → Nat → Int → Hp → Prop
  | 0 => fun _ _ _ _ _ _ _ => False
  | n + 1 => fun x0 x1 a2 l2 c2 x7 h => D3.t R (L2.t R n) x0 x1 a2 l2 c2 x7 h
theorem L2.ok (R : Rt) (fr : Fr) (h : Hp) (g : L2.g (fun x0 x1 a2 l2 c2 x7 h => ∃ n, L2.t R n x0 x1 a2 l2 c2 x7 h) fr h) : den prog E (cAt C [true, true, false]) (Ex.inBlock 0 (retQ E [.tmp 6] R)) fr h := by
  obtain ⟨x0, e0, g⟩ := gInt_elim g
  obtain ⟨x1, e1, g⟩ := gInt_elim g
  obtain ⟨a2, l2, c2, e2, g⟩ := gSlice_elim g
  obtain ⟨x7, e7, g⟩ := gInt_elim g
  obtain ⟨n, g⟩ := g
  refine loop_ok (fun n => L2.g (L2.t R n)) (b := (cAt C [true, true, false, false])) (by kernel_rfl) (fun fr h g => ?_) (fun n => D3.ok R (L2.t R n)) n fr h (gInt_intro e0 (gInt_intro e1 (gSlice_intro e2 (gInt_intro e7 (g)))))
  obtain ⟨x0, e0, g⟩ := gInt_elim g
  obtain ⟨x1, e1, g⟩ := gInt_elim g
  obtain ⟨a2, l2, c2, e2, g⟩ := gSlice_elim g
  obtain ⟨x7, e7, g⟩ := gInt_elim g
  exact g
theorem B4.ok (R : Rt) (fr : Fr) (h : Hp) (g : L2.g (fun x0 x1 a2 l2 c2 x7 h => ∃ n, L2.t R n x0 x1 a2 l2 c2 x7 h) fr h) : den prog E (cAt C [true, true]) (retQ E [.tmp 6] R) fr h :=
  den_block (by kernel_rfl) (L2.ok R fr h g)
def D1.t (R : Rt) (x0 : Int) (x1 : Int) (a2 : Option Addr) (l2 : Nat) (c2 : Nat) (h : Hp) : Prop :=
  (∃ n, L2.t R n x0 x1 a2 l2 c2 1400 h)
def D1.g (R : Rt) (fr : Fr) (h : Hp) : Prop := gInt .u64 (fr 0) fun x0 => gInt .i64 (fr 1) fun x1 => gSlice (fr 2) fun a2 l2 c2 => D1.t R x0 x1 a2 l2 c2 h
theorem D1.ok (R : Rt) (fr : Fr) (h : Hp) (g : D1.g R fr h) : den prog E C (retQ E [.tmp 6] R) fr h := by
  obtain ⟨x0, e0, g⟩ := gInt_elim g
  obtain ⟨x1, e1, g⟩ := gInt_elim g
  obtain ⟨a2, l2, c2, e2, g⟩ := gSlice_elim g
  exact den_cut 2 (r := (cAt C [true, true])) (by kernel_rfl) (B4.ok R) (den_enter [(0, .int .u64 x0), (1, .int .i64 x1), (2, .slice a2 l2 c2)] ⟨e0, e1, e2, trivial⟩ (by kernel_rfl) g)
def t (x0 : Int) (x1 : Int) (a2 : Option Addr) (l2 : Nat) (c2 : Nat) (h : Hp) (R : Rt) : Prop := D1.t R x0 x1 a2 l2 c2 h
theorem ok {x0 : Int} {x1 : Int} {a2 : Option Addr} {l2 : Nat} {c2 : Nat} {h : Hp} {R : Rt} (g : t x0 x1 a2 l2 c2 h R) : HC id #[.int .u64 x0, .int .i64 x1, .slice a2 l2 c2] h R :=
  calls_of_den' envOk (c := C) (rs := [.tmp 6]) Tryz.func36 (by kernel_rfl) (by kernel_rfl) (by kernel_rfl) (args := [.int .u64 x0, .int .i64 x1, .slice a2 l2 c2]) (by kernel_rfl) (D1.ok R _ h (gInt_intro rfl (gInt_intro rfl (gSlice_intro rfl (g)))))
end nearpi_depth

namespace gnomonref13_Quotients
noncomputable def C : Code := bodyOf Tryz.f37
def L2.g (N : Int → Int → Hp → Prop) (fr : Fr) (h : Hp) : Prop := gInt .i64 (fr 0) fun x0 => gInt .i64 (fr 3) fun x3 => N x0 x3 h
def D3.t (R : Rt) (N2 : Int → Int → Hp → Prop) (x0 : Int) (x3 : Int) (h : Hp) : Prop :=
  letK (IntKind.i64.wrap (x3 * 2)) fun n3 => N2 x0 n3 h
def D3.g (R : Rt) (N2 : Int → Int → Hp → Prop) (fr : Fr) (h : Hp) : Prop := gInt .i64 (fr 0) fun x0 => gInt .i64 (fr 3) fun x3 => D3.t R N2 x0 x3 h
theorem D3.ok (R : Rt) (N2 : Int → Int → Hp → Prop) (fr : Fr) (h : Hp) (g : D3.g R N2 fr h) : den prog E (cAt C [true, true, false, false, true]) (Ex.then (L2.g N2) (Ex.inBlock 0 (retQ E [.tmp 2] R))) fr h := by
  obtain ⟨x0, e0, g⟩ := gInt_elim g
  obtain ⟨x3, e3, g⟩ := gInt_elim g
  exact den_enter [(0, .int .i64 x0), (3, .int .i64 x3)] ⟨e0, e3, trivial⟩ (by kernel_rfl) g
def D5.t (R : Rt) (N2 : Int → Int → Hp → Prop) (x0 : Int) (x3 : Int) (a7 : Option Addr) (l7 : Nat) (c7 : Nat) (h : Hp) : Prop :=
  cond ((((l7 : Nat) : Int)) == x0) (R (.slice a7 l7 c7) h) (D3.t R N2 x0 x3 h)
def D5.g (R : Rt) (N2 : Int → Int → Hp → Prop) (fr : Fr) (h : Hp) : Prop := gInt .i64 (fr 0) fun x0 => gInt .i64 (fr 3) fun x3 => gSlice (fr 7) fun a7 l7 c7 => D5.t R N2 x0 x3 a7 l7 c7 h
theorem D5.ok (R : Rt) (N2 : Int → Int → Hp → Prop) (fr : Fr) (h : Hp) (g : D5.g R N2 fr h) : den prog E (cAt C [true, true, false, false, false, false, true, true, true, true, true]) (Ex.inBlock 1 (Ex.then (D3.g R N2) (Ex.then (L2.g N2) (Ex.inBlock 0 (retQ E [.tmp 2] R))))) fr h := by
  obtain ⟨x0, e0, g⟩ := gInt_elim g
  obtain ⟨x3, e3, g⟩ := gInt_elim g
  obtain ⟨a7, l7, c7, e7, g⟩ := gSlice_elim g
  exact den_enter [(0, .int .i64 x0), (3, .int .i64 x3), (7, .slice a7 l7 c7)] ⟨e0, e3, e7, trivial⟩ (by kernel_rfl) g
def L7.g (N : Int → Int → Option Addr → Nat → Nat → Option Addr → Nat → Nat → Option Addr → Nat → Nat → Int → Hp → Prop) (fr : Fr) (h : Hp) : Prop := gInt .i64 (fr 0) fun x0 => gInt .i64 (fr 3) fun x3 => gSlice (fr 5) fun a5 l5 c5 => gSlice (fr 6) fun a6 l6 c6 => gSlice (fr 7) fun a7 l7 c7 => gInt .i64 (fr 8) fun x8 => N x0 x3 a5 l5 c5 a6 l6 c6 a7 l7 c7 x8 h
def D9.t (R : Rt) (N2 : Int → Int → Hp → Prop) (N7 : Int → Int → Option Addr → Nat → Nat → Option Addr → Nat → Nat → Option Addr → Nat → Nat → Int → Hp → Prop) (x0 : Int) (x3 : Int) (a5 : Option Addr) (l5 : Nat) (c5 : Nat) (a6 : Option Addr) (l6 : Nat) (c6 : Nat) (a7 : Option Addr) (l7 : Nat) (c7 : Nat) (x8 : Int) (h : Hp) : Prop :=
  idxK a5 l5 x8 1 fun q40 =>
  ldK h q40 fun v41 =>
  gSlice v41 fun a_42 l_42 c_42 =>
  HC gnomonref01_Fits.id #[.slice a_42 l_42 c_42] h fun v43 h44 =>
  gTup v43 fun y45 =>
  uncons y45 fun v46 y46 =>
  gInt .u64 v46 fun x_47 =>
  uncons y46 fun v48 y48 =>
  gBool v48 fun b_49 =>
  unnil y48 <| boxK h44 35 [.int .u64 x_47] fun q50 h51 =>
  apK h51 35 T35 a7 l7 c7 (.slice (some q50) 1 1) fun a_52 l_52 c_52 h52 =>
  letK (IntKind.i64.wrap (x8 + 1)) fun n53 =>
  N7 x0 x3 a5 l5 c5 a6 l6 c6 a_52 l_52 c_52 n53 h52
def D9.g (R : Rt) (N2 : Int → Int → Hp → Prop) (N7 : Int → Int → Option Addr → Nat → Nat → Option Addr → Nat → Nat → Option Addr → Nat → Nat → Int → Hp → Prop) (fr : Fr) (h : Hp) : Prop := gInt .i64 (fr 0) fun x0 => gInt .i64 (fr 3) fun x3 => gSlice (fr 5) fun a5 l5 c5 => gSlice (fr 6) fun a6 l6 c6 => gSlice (fr 7) fun a7 l7 c7 => gInt .i64 (fr 8) fun x8 => D9.t R N2 N7 x0 x3 a5 l5 c5 a6 l6 c6 a7 l7 c7 x8 h
theorem D9.ok (R : Rt) (N2 : Int → Int → Hp → Prop) (N7 : Int → Int → Option Addr → Nat → Nat → Option Addr → Nat → Nat → Option Addr → Nat → Nat → Int → Hp → Prop) (fr : Fr) (h : Hp) (g : D9.g R N2 N7 fr h) : den prog E (cAt C [true, true, false, false, false, false, true, true, true, true, false, true, false, false, true]) (Ex.then (L7.g N7) (Ex.inBlock 2 (Ex.then (D5.g R N2) (Ex.inBlock 1 (Ex.then (D3.g R N2) (Ex.then (L2.g N2) (Ex.inBlock 0 (retQ E [.tmp 2] R)))))))) fr h := by
  obtain ⟨x0, e0, g⟩ := gInt_elim g
  obtain ⟨x3, e3, g⟩ := gInt_elim g
  obtain ⟨a5, l5, c5, e5, g⟩ := gSlice_elim g
  obtain ⟨a6, l6, c6, e6, g⟩ := gSlice_elim g
  obtain ⟨a7, l7, c7, e7, g⟩ := gSlice_elim g
  obtain ⟨x8, e8, g⟩ := gInt_elim g
  exact den_enter [(0, .int .i64 x0), (3, .int .i64 x3), (5, .slice a5 l5 c5), (6, .slice a6 l6 c6), (7, .slice a7 l7 c7), (8, .int .i64 x8)] ⟨e0, e3, e5, e6, e7, e8, trivial⟩ (by kernel_rfl) g
def D8.t (R : Rt) (N2 : Int → Int → Hp → Prop) (N7 : Int → Int → Option Addr → Nat → Nat → Option Addr → Nat → Nat → Option Addr → Nat → Nat → Int → Hp → Prop) (x0 : Int) (x3 : Int) (a5 : Option Addr) (l5 : Nat) (c5 : Nat) (a6 : Option Addr) (l6 : Nat) (c6 : Nat) (a7 : Option Addr) (l7 : Nat) (c7 : Nat) (x8 : Int) (h : Hp) : Prop :=
  letK (IntKind.i64.wrap (x8 + 1)) fun n29 =>
  cond (decide (n29 < (((l5 : Nat) : Int)))) (letK (IntKind.i64.wrap (x8 + 1)) fun n30 =>
  cond (decide (n30 < (((l6 : Nat) : Int)))) (cond (decide ((((l7 : Nat) : Int)) < x0)) (idxK a5 l5 x8 1 fun q31 =>
  ldK h q31 fun v32 =>
  gSlice v32 fun a_33 l_33 c_33 =>
  idxK a6 l6 x8 1 fun q34 =>
  ldK h q34 fun v35 =>
  gSlice v35 fun a_36 l_36 c_36 =>
  HC gnomonref01_Cmp.id #[.slice a_33 l_33 c_33, .slice a_36 l_36 c_36] h fun v37 h38 =>
  gInt .i64 v37 fun x_39 =>
  cond (x_39 == 0) (D9.t R N2 N7 x0 x3 a5 l5 c5 a6 l6 c6 a7 l7 c7 x8 h38) (D5.t R N2 x0 x3 a7 l7 c7 h38)) (D5.t R N2 x0 x3 a7 l7 c7 h)) (D5.t R N2 x0 x3 a7 l7 c7 h)) (D5.t R N2 x0 x3 a7 l7 c7 h)
def D8.g (R : Rt) (N2 : Int → Int → Hp → Prop) (N7 : Int → Int → Option Addr → Nat → Nat → Option Addr → Nat → Nat → Option Addr → Nat → Nat → Int → Hp → Prop) (fr : Fr) (h : Hp) : Prop := gInt .i64 (fr 0) fun x0 => gInt .i64 (fr 3) fun x3 => gSlice (fr 5) fun a5 l5 c5 => gSlice (fr 6) fun a6 l6 c6 => gSlice (fr 7) fun a7 l7 c7 => gInt .i64 (fr 8) fun x8 => D8.t R N2 N7 x0 x3 a5 l5 c5 a6 l6 c6 a7 l7 c7 x8 h
theorem D8.ok (R : Rt) (N2 : Int → Int → Hp → Prop) (N7 : Int → Int → Option Addr → Nat → Nat → Option Addr → Nat → Nat → Option Addr → Nat → Nat → Int → Hp → Prop) (fr : Fr) (h : Hp) (g : D8.g R N2 N7 fr h) : den prog E (cAt C [true, true, false, false, false, false, true, true, true, true, false, true, false, false]) (Ex.then (L7.g N7) (Ex.inBlock 2 (Ex.then (D5.g R N2) (Ex.inBlock 1 (Ex.then (D3.g R N2) (Ex.then (L2.g N2) (Ex.inBlock 0 (retQ E [.tmp 2] R)))))))) fr h := by
  obtain ⟨x0, e0, g⟩ := gInt_elim g
  obtain ⟨x3, e3, g⟩ := gInt_elim g
  obtain ⟨a5, l5, c5, e5, g⟩ := gSlice_elim g
  obtain ⟨a6, l6, c6, e6, g⟩ := gSlice_elim g
  obtain ⟨a7, l7, c7, e7, g⟩ := gSlice_elim g
  obtain ⟨x8, e8, g⟩ := gInt_elim g
  exact den_cut 1 (r := (cAt C [true, true, false, false, false, false, true, true, true, true, false, true, false, false, true])) (by kernel_rfl) (D9.ok R N2 N7) (den_enter [(0, .int .i64 x0), (3, .int .i64 x3), (5, .slice a5 l5 c5), (6, .slice a6 l6 c6), (7, .slice a7 l7 c7), (8, .int .i64 x8)] ⟨e0, e3, e5, e6, e7, e8, trivial⟩ (by kernel_rfl) g)
def L7.t (R : Rt) (N2 : Int → Int → Hp → Prop) : Nat → Int → Int → Option Addr → Nat → Nat → Option Addr → Nat → Nat → Option Addr → Nat → Nat → Int → Hp → Prop
  | 0 => fun _ _ _ _ _ _ _ _ _ _ _ _ _ => False
  | n + 1 => fun x0 x3 a5 l5 c5 a6 l6 c6 a7 l7 c7 x8 h => D8.t R N2 (L7.t R N2 n) x0 x3 a5 l5 c5 a6 l6 c6 a7 l7 c7 x8 h
theorem L7.ok (R : Rt) (N2 : Int → Int → Hp → Prop) (fr : Fr) (h : Hp) (g : L7.g (fun x0 x3 a5 l5 c5 a6 l6 c6 a7 l7 c7 x8 h => ∃ n, L7.t R N2 n x0 x3 a5 l5 c5 a6 l6 c6 a7 l7 c7 x8 h) fr h) : den prog E (cAt C [true, true, false, false, false, false, true, true, true, true, false, true, false]) (Ex.inBlock 2 (Ex.then (D5.g R N2) (Ex.inBlock 1 (Ex.then (D3.g R N2) (Ex.then (L2.g N2) (Ex.inBlock 0 (retQ E [.tmp 2] R))))))) fr h := by
  obtain ⟨x0, e0, g⟩ := gInt_elim g
  obtain ⟨x3, e3, g⟩ := gInt_elim g
  obtain ⟨a5, l5, c5, e5, g⟩ := gSlice_elim g
  obtain ⟨a6, l6, c6, e6, g⟩ := gSlice_elim g
  obtain ⟨a7, l7, c7, e7, g⟩ := gSlice_elim g
  obtain ⟨x8, e8, g⟩ := gInt_elim g
  obtain ⟨n, g⟩ := g
  refine loop_ok (fun n => L7.g (L7.t R N2 n)) (b := (cAt C [true, true, false, false, false, false, true, true, true, true, false, true, false, false])) (by kernel_rfl) (fun fr h g => ?_) (fun n => D8.ok R N2 (L7.t R N2 n)) n fr h (gInt_intro e0 (gInt_intro e3 (gSlice_intro e5 (gSlice_intro e6 (gSlice_intro e7 (gInt_intro e8 (g)))))))
  obtain ⟨x0, e0, g⟩ := gInt_elim g
  obtain ⟨x3, e3, g⟩ := gInt_elim g
  obtain ⟨a5, l5, c5, e5, g⟩ := gSlice_elim g
  obtain ⟨a6, l6, c6, e6, g⟩ := gSlice_elim g
  obtain ⟨a7, l7, c7, e7, g⟩ := gSlice_elim g
  obtain ⟨x8, e8, g⟩ := gInt_elim g
  exact g
theorem B10.ok (R : Rt) (N2 : Int → Int → Hp → Prop) (fr : Fr) (h : Hp) (g : L7.g (fun x0 x3 a5 l5 c5 a6 l6 c6 a7 l7 c7 x8 h => ∃ n, L7.t R N2 n x0 x3 a5 l5 c5 a6 l6 c6 a7 l7 c7 x8 h) fr h) : den prog E (cAt C [true, true, false, false, false, false, true, true, true, true, false, true]) (Ex.then (D5.g R N2) (Ex.inBlock 1 (Ex.then (D3.g R N2) (Ex.then (L2.g N2) (Ex.inBlock 0 (retQ E [.tmp 2] R)))))) fr h :=
  den_block (by kernel_rfl) (L7.ok R N2 fr h g)
def D6.t (R : Rt) (N2 : Int → Int → Hp → Prop) (x0 : Int) (x3 : Int) (a5 : Option Addr) (l5 : Nat) (c5 : Nat) (a6 : Option Addr) (l6 : Nat) (c6 : Nat) (a7 : Option Addr) (l7 : Nat) (c7 : Nat) (h : Hp) : Prop :=
  (∃ n, L7.t R N2 n x0 x3 a5 l5 c5 a6 l6 c6 a7 l7 c7 0 h)
def D6.g (R : Rt) (N2 : Int → Int → Hp → Prop) (fr : Fr) (h : Hp) : Prop := gInt .i64 (fr 0) fun x0 => gInt .i64 (fr 3) fun x3 => gSlice (fr 5) fun a5 l5 c5 => gSlice (fr 6) fun a6 l6 c6 => gSlice (fr 7) fun a7 l7 c7 => D6.t R N2 x0 x3 a5 l5 c5 a6 l6 c6 a7 l7 c7 h
theorem D6.ok (R : Rt) (N2 : Int → Int → Hp → Prop) (fr : Fr) (h : Hp) (g : D6.g R N2 fr h) : den prog E (cAt C [true, true, false, false, false, false, true, true, true, true, false]) (Ex.then (D5.g R N2) (Ex.inBlock 1 (Ex.then (D3.g R N2) (Ex.then (L2.g N2) (Ex.inBlock 0 (retQ E [.tmp 2] R)))))) fr h := by
  obtain ⟨x0, e0, g⟩ := gInt_elim g
  obtain ⟨x3, e3, g⟩ := gInt_elim g
  obtain ⟨a5, l5, c5, e5, g⟩ := gSlice_elim g
  obtain ⟨a6, l6, c6, e6, g⟩ := gSlice_elim g
  obtain ⟨a7, l7, c7, e7, g⟩ := gSlice_elim g
  exact den_cut 1 (r := (cAt C [true, true, false, false, false, false, true, true, true, true, false, true])) (by kernel_rfl) (B10.ok R N2) (den_enter [(0, .int .i64 x0), (3, .int .i64 x3), (5, .slice a5 l5 c5), (6, .slice a6 l6 c6), (7, .slice a7 l7 c7)] ⟨e0, e3, e5, e6, e7, trivial⟩ (by kernel_rfl) g)
theorem W11.ok (R : Rt) (N2 : Int → Int → Hp → Prop) (fr : Fr) (h : Hp) (g : D6.g R N2 fr h) : den prog E (cAt C [true, true, false, false, false, false, true, true, true, true]) (Ex.inBlock 1 (Ex.then (D3.g R N2) (Ex.then (L2.g N2) (Ex.inBlock 0 (retQ E [.tmp 2] R))))) fr h :=
  den_then (by kernel_rfl) (D5.ok R N2) (D6.ok R N2 fr h g)
def D4.t (R : Rt) (N2 : Int → Int → Hp → Prop) (x0 : Int) (x3 : Int) (h : Hp) : Prop :=
  HC gnomonref07_PiFloor.id #[.int .i64 x3] h fun v4 h5 =>
  gSlice v4 fun a_6 l_6 c_6 =>
  letK (IntKind.i64.wrap (x3 + 1)) fun n7 =>
  HC gnomonref01_Pow2.id #[.int .i64 n7] h5 fun v8 h9 =>
  gSlice v8 fun a_10 l_10 c_10 =>
  letK (IntKind.i64.wrap (x0 + 2)) fun n11 =>
  HC gnomonref13_euclid.id #[.slice a_6 l_6 c_6, .slice a_10 l_10 c_10, .int .i64 n11] h9 fun v12 h13 =>
  gSlice v12 fun a_14 l_14 c_14 =>
  HC gnomonref01_Word.id #[.int .u64 1] h13 fun v15 h16 =>
  gSlice v15 fun a_17 l_17 c_17 =>
  HC gnomonref01_Add.id #[.slice a_6 l_6 c_6, .slice a_17 l_17 c_17] h16 fun v18 h19 =>
  gSlice v18 fun a_20 l_20 c_20 =>
  letK (IntKind.i64.wrap (x3 + 1)) fun n21 =>
  HC gnomonref01_Pow2.id #[.int .i64 n21] h19 fun v22 h23 =>
  gSlice v22 fun a_24 l_24 c_24 =>
  letK (IntKind.i64.wrap (x0 + 2)) fun n25 =>
  HC gnomonref13_euclid.id #[.slice a_20 l_20 c_20, .slice a_24 l_24 c_24, .int .i64 n25] h23 fun v26 h27 =>
  gSlice v26 fun a_28 l_28 c_28 =>
  D6.t R N2 x0 x3 a_14 l_14 c_14 a_28 l_28 c_28 none 0 0 h27
def D4.g (R : Rt) (N2 : Int → Int → Hp → Prop) (fr : Fr) (h : Hp) : Prop := gInt .i64 (fr 0) fun x0 => gInt .i64 (fr 3) fun x3 => D4.t R N2 x0 x3 h
theorem D4.ok (R : Rt) (N2 : Int → Int → Hp → Prop) (fr : Fr) (h : Hp) (g : D4.g R N2 fr h) : den prog E (cAt C [true, true, false, false, false, false]) (Ex.inBlock 1 (Ex.then (D3.g R N2) (Ex.then (L2.g N2) (Ex.inBlock 0 (retQ E [.tmp 2] R))))) fr h := by
  obtain ⟨x0, e0, g⟩ := gInt_elim g
  obtain ⟨x3, e3, g⟩ := gInt_elim g
  exact den_cut 4 (r := (cAt C [true, true, false, false, false, false, true, true, true, true])) (by kernel_rfl) (W11.ok R N2) (den_enter [(0, .int .i64 x0), (3, .int .i64 x3)] ⟨e0, e3, trivial⟩ (by kernel_rfl) g)
theorem B12.ok (R : Rt) (N2 : Int → Int → Hp → Prop) (fr : Fr) (h : Hp) (g : D4.g R N2 fr h) : den prog E (cAt C [true, true, false, false, false]) (Ex.then (D3.g R N2) (Ex.then (L2.g N2) (Ex.inBlock 0 (retQ E [.tmp 2] R)))) fr h :=
  den_block (by kernel_rfl) (D4.ok R N2 fr h g)
theorem W13.ok (R : Rt) (N2 : Int → Int → Hp → Prop) (fr : Fr) (h : Hp) (g : D4.g R N2 fr h) : den prog E (cAt C [true, true, false, false]) (Ex.then (L2.g N2) (Ex.inBlock 0 (retQ E [.tmp 2] R))) fr h :=
  den_then (by kernel_rfl) (D3.ok R N2) (B12.ok R N2 fr h g)
def L2.t (R : Rt) : Nat → Int → Int → Hp → Prop
  | 0 => fun _ _ _ => False
  | n + 1 => fun x0 x3 h => D4.t R (L2.t R n) x0 x3 h
theorem L2.ok (R : Rt) (fr : Fr) (h : Hp) (g : L2.g (fun x0 x3 h => ∃ n, L2.t R n x0 x3 h) fr h) : den prog E (cAt C [true, true, false]) (Ex.inBlock 0 (retQ E [.tmp 2] R)) fr h := by
  obtain ⟨x0, e0, g⟩ := gInt_elim g
  obtain ⟨x3, e3, g⟩ := gInt_elim g
  obtain ⟨n, g⟩ := g
  refine loop_ok (fun n => L2.g (L2.t R n)) (b := (cAt C [true, true, false, false])) (by kernel_rfl) (fun fr h g => ?_) (fun n => W13.ok R (L2.t R n)) n fr h (gInt_intro e0 (gInt_intro e3 (g)))
  obtain ⟨x0, e0, g⟩ := gInt_elim g
  obtain ⟨x3, e3, g⟩ := gInt_elim g
  exact g
theorem B14.ok (R : Rt) (fr : Fr) (h : Hp) (g : L2.g (fun x0 x3 h => ∃ n, L2.t R n x0 x3 h) fr h) : den prog E (cAt C [true, true]) (retQ E [.tmp 2] R) fr h :=
  den_block (by kernel_rfl) (L2.ok R fr h g)
def D1.t (R : Rt) (x0 : Int) (h : Hp) : Prop :=
  letK (IntKind.i64.wrap (4 * x0)) fun n1 => letK (IntKind.i64.wrap (n1 + 64)) fun n2 => (∃ n, L2.t R n x0 n2 h)
def D1.g (R : Rt) (fr : Fr) (h : Hp) : Prop := gInt .i64 (fr 0) fun x0 => D1.t R x0 h
theorem D1.ok (R : Rt) (fr : Fr) (h : Hp) (g : D1.g R fr h) : den prog E C (retQ E [.tmp 2] R) fr h := by
  obtain ⟨x0, e0, g⟩ := gInt_elim g
  exact den_cut 2 (r := (cAt C [true, true])) (by kernel_rfl) (B14.ok R) (den_enter [(0, .int .i64 x0)] ⟨e0, trivial⟩ (by kernel_rfl) g)
def t (x0 : Int) (h : Hp) (R : Rt) : Prop := D1.t R x0 h
theorem ok {x0 : Int} {h : Hp} {R : Rt} (g : t x0 h R) : HC id #[.int .i64 x0] h R :=
  calls_of_den' envOk (c := C) (rs := [.tmp 2]) Tryz.func37 (by kernel_rfl) (by kernel_rfl) (by kernel_rfl) (args := [.int .i64 x0]) (by kernel_rfl) (D1.ok R _ h (gInt_intro rfl (g)))
end gnomonref13_Quotients

namespace gnomonref01_Word
noncomputable def C : Code := bodyOf Tryz.f38
def D1.t (R : Rt) (x0 : Int) (h : Hp) : Prop :=
  letK (andI .u64 x0 4294967295) fun n1 =>
  letK (IntKind.u32.wrap n1) fun n2 =>
  0 ≤ (32 : Int) ∧ letK (shrI .u64 x0 32) fun n3 =>
  letK (IntKind.u32.wrap n3) fun n4 =>
  boxK h 89 [.int .u32 n2, .int .u32 n4] fun q5 h6 =>
  HC gnomonref01_Norm.id #[.slice (some q5) 2 2] h6 fun v7 h8 =>
  gSlice v7 fun a_9 l_9 c_9 =>
  R (.slice a_9 l_9 c_9) h8
def D1.g (R : Rt) (fr : Fr) (h : Hp) : Prop := gInt .u64 (fr 0) fun x0 => D1.t R x0 h
theorem D1.ok (R : Rt) (fr : Fr) (h : Hp) (g : D1.g R fr h) : den prog E C (retQ E [.tmp 2] R) fr h := by
  obtain ⟨x0, e0, g⟩ := gInt_elim g
  exact den_enter [(0, .int .u64 x0)] ⟨e0, trivial⟩ (by kernel_rfl) g
def t (x0 : Int) (h : Hp) (R : Rt) : Prop := D1.t R x0 h
theorem ok {x0 : Int} {h : Hp} {R : Rt} (g : t x0 h R) : HC id #[.int .u64 x0] h R :=
  calls_of_den' envOk (c := C) (rs := [.tmp 2]) Tryz.func38 (by kernel_rfl) (by kernel_rfl) (by kernel_rfl) (args := [.int .u64 x0]) (by kernel_rfl) (D1.ok R _ h (gInt_intro rfl (g)))
end gnomonref01_Word

namespace gnomonref01_Add
noncomputable def C : Code := bodyOf Tryz.f39
def D2.t (R : Rt) (a5 : Option Addr) (l5 : Nat) (c5 : Nat) (h : Hp) : Prop :=
  HC gnomonref01_Norm.id #[.slice a5 l5 c5] h fun v4 h5 =>
  gSlice v4 fun a_6 l_6 c_6 =>
  R (.slice a_6 l_6 c_6) h5
def D2.g (R : Rt) (fr : Fr) (h : Hp) : Prop := gSlice (fr 5) fun a5 l5 c5 => D2.t R a5 l5 c5 h
theorem D2.ok (R : Rt) (fr : Fr) (h : Hp) (g : D2.g R fr h) : den prog E (cAt C [true, true, true, true]) (retQ E [.tmp 4] R) fr h := by
  obtain ⟨a5, l5, c5, e5, g⟩ := gSlice_elim g
  exact den_enter [(5, .slice a5 l5 c5)] ⟨e5, trivial⟩ (by kernel_rfl) g
def L4.g (N : Option Addr → Nat → Nat → Option Addr → Nat → Nat → Option Addr → Nat → Nat → Int → Int → Hp → Prop) (fr : Fr) (h : Hp) : Prop := gSlice (fr 0) fun a0 l0 c0 => gSlice (fr 1) fun a1 l1 c1 => gSlice (fr 5) fun a5 l5 c5 => gInt .u64 (fr 6) fun x6 => gInt .i64 (fr 7) fun x7 => N a0 l0 c0 a1 l1 c1 a5 l5 c5 x6 x7 h
def D6.t (R : Rt) (N4 : Option Addr → Nat → Nat → Option Addr → Nat → Nat → Option Addr → Nat → Nat → Int → Int → Hp → Prop) (a0 : Option Addr) (l0 : Nat) (c0 : Nat) (a1 : Option Addr) (l1 : Nat) (c1 : Nat) (a5 : Option Addr) (l5 : Nat) (c5 : Nat) (x6 : Int) (x7 : Int) (h : Hp) : Prop :=
  cond (decide (x7 < (((l0 : Nat) : Int)))) (idxK a0 l0 x7 1 fun q7 =>
  ldK h q7 fun v8 =>
  gInt .u32 v8 fun x_9 =>
  letK (IntKind.u64.wrap x_9) fun n10 =>
  letK (IntKind.u64.wrap (x6 + n10)) fun n11 =>
  cond (decide (x7 < (((l1 : Nat) : Int)))) (idxK a1 l1 x7 1 fun q12 =>
  ldK h q12 fun v13 =>
  gInt .u32 v13 fun x_14 =>
  letK (IntKind.u64.wrap x_14) fun n15 =>
  letK (IntKind.u64.wrap (n11 + n15)) fun n16 =>
  letK (andI .u64 n16 4294967295) fun n17 =>
  letK (IntKind.u32.wrap n17) fun n18 =>
  boxK h 89 [.int .u32 n18] fun q19 h20 =>
  apK h20 89 T89 a5 l5 c5 (.slice (some q19) 1 1) fun a_21 l_21 c_21 h21 =>
  0 ≤ (32 : Int) ∧ letK (shrI .u64 n16 32) fun n22 =>
  letK (IntKind.i64.wrap (x7 + 1)) fun n23 =>
  N4 a0 l0 c0 a1 l1 c1 a_21 l_21 c_21 n22 n23 h21) (letK (andI .u64 n11 4294967295) fun n24 =>
  letK (IntKind.u32.wrap n24) fun n25 =>
  boxK h 89 [.int .u32 n25] fun q26 h27 =>
  apK h27 89 T89 a5 l5 c5 (.slice (some q26) 1 1) fun a_28 l_28 c_28 h28 =>
  0 ≤ (32 : Int) ∧ letK (shrI .u64 n11 32) fun n29 =>
  letK (IntKind.i64.wrap (x7 + 1)) fun n30 =>
  N4 a0 l0 c0 a1 l1 c1 a_28 l_28 c_28 n29 n30 h28)) (cond (decide (x7 < (((l1 : Nat) : Int)))) (idxK a1 l1 x7 1 fun q31 =>
  ldK h q31 fun v32 =>
  gInt .u32 v32 fun x_33 =>
  letK (IntKind.u64.wrap x_33) fun n34 =>
  letK (IntKind.u64.wrap (x6 + n34)) fun n35 =>
  letK (andI .u64 n35 4294967295) fun n36 =>
  letK (IntKind.u32.wrap n36) fun n37 =>
  boxK h 89 [.int .u32 n37] fun q38 h39 =>
  apK h39 89 T89 a5 l5 c5 (.slice (some q38) 1 1) fun a_40 l_40 c_40 h40 =>
  0 ≤ (32 : Int) ∧ letK (shrI .u64 n35 32) fun n41 =>
  letK (IntKind.i64.wrap (x7 + 1)) fun n42 =>
  N4 a0 l0 c0 a1 l1 c1 a_40 l_40 c_40 n41 n42 h40) (letK (andI .u64 x6 4294967295) fun n43 =>
  letK (IntKind.u32.wrap n43) fun n44 =>
  boxK h 89 [.int .u32 n44] fun q45 h46 =>
  apK h46 89 T89 a5 l5 c5 (.slice (some q45) 1 1) fun a_47 l_47 c_47 h47 =>
  0 ≤ (32 : Int) ∧ letK (shrI .u64 x6 32) fun n48 =>
  letK (IntKind.i64.wrap (x7 + 1)) fun n49 =>
  N4 a0 l0 c0 a1 l1 c1 a_47 l_47 c_47 n48 n49 h47))
def D6.g (R : Rt) (N4 : Option Addr → Nat → Nat → Option Addr → Nat → Nat → Option Addr → Nat → Nat → Int → Int → Hp → Prop) (fr : Fr) (h : Hp) : Prop := gSlice (fr 0) fun a0 l0 c0 => gSlice (fr 1) fun a1 l1 c1 => gSlice (fr 5) fun a5 l5 c5 => gInt .u64 (fr 6) fun x6 => gInt .i64 (fr 7) fun x7 => D6.t R N4 a0 l0 c0 a1 l1 c1 a5 l5 c5 x6 x7 h
theorem D6.ok (R : Rt) (N4 : Option Addr → Nat → Nat → Option Addr → Nat → Nat → Option Addr → Nat → Nat → Int → Int → Hp → Prop) (fr : Fr) (h : Hp) (g : D6.g R N4 fr h) : den prog E (cAt C [true, true, true, false, true, false, false, true]) (Ex.then (L4.g N4) (Ex.inBlock 0 (Ex.then (D2.g R) (retQ E [.tmp 4] R)))) fr h := by
  obtain ⟨a0, l0, c0, e0, g⟩ := gSlice_elim g
  obtain ⟨a1, l1, c1, e1, g⟩ := gSlice_elim g
  obtain ⟨a5, l5, c5, e5, g⟩ := gSlice_elim g
  obtain ⟨x6, e6, g⟩ := gInt_elim g
  obtain ⟨x7, e7, g⟩ := gInt_elim g
  exact den_enter [(0, .slice a0 l0 c0), (1, .slice a1 l1 c1), (5, .slice a5 l5 c5), (6, .int .u64 x6), (7, .int .i64 x7)] ⟨e0, e1, e5, e6, e7, trivial⟩ (by kernel_rfl) g
def D5.t (R : Rt) (N4 : Option Addr → Nat → Nat → Option Addr → Nat → Nat → Option Addr → Nat → Nat → Int → Int → Hp → Prop) (a0 : Option Addr) (l0 : Nat) (c0 : Nat) (a1 : Option Addr) (l1 : Nat) (c1 : Nat) (a5 : Option Addr) (l5 : Nat) (c5 : Nat) (x6 : Int) (x7 : Int) (h : Hp) : Prop :=
  cond (decide (x7 < (((l0 : Nat) : Int)))) (D6.t R N4 a0 l0 c0 a1 l1 c1 a5 l5 c5 x6 x7 h) (cond (decide (x7 < (((l1 : Nat) : Int)))) (D6.t R N4 a0 l0 c0 a1 l1 c1 a5 l5 c5 x6 x7 h) (cond (decide (x6 > 0)) (D6.t R N4 a0 l0 c0 a1 l1 c1 a5 l5 c5 x6 x7 h) (D2.t R a5 l5 c5 h)))
def D5.g (R : Rt) (N4 : Option Addr → Nat → Nat → Option Addr → Nat → Nat → Option Addr → Nat → Nat → Int → Int → Hp → Prop) (fr : Fr) (h : Hp) : Prop := gSlice (fr 0) fun a0 l0 c0 => gSlice (fr 1) fun a1 l1 c1 => gSlice (fr 5) fun a5 l5 c5 => gInt .u64 (fr 6) fun x6 => gInt .i64 (fr 7) fun x7 => D5.t R N4 a0 l0 c0 a1 l1 c1 a5 l5 c5 x6 x7 h
theorem D5.ok (R : Rt) (N4 : Option Addr → Nat → Nat → Option Addr → Nat → Nat → Option Addr → Nat → Nat → Int → Int → Hp → Prop) (fr : Fr) (h : Hp) (g : D5.g R N4 fr h) : den prog E (cAt C [true, true, true, false, true, false, false]) (Ex.then (L4.g N4) (Ex.inBlock 0 (Ex.then (D2.g R) (retQ E [.tmp 4] R)))) fr h := by
  obtain ⟨a0, l0, c0, e0, g⟩ := gSlice_elim g
  obtain ⟨a1, l1, c1, e1, g⟩ := gSlice_elim g
  obtain ⟨a5, l5, c5, e5, g⟩ := gSlice_elim g
  obtain ⟨x6, e6, g⟩ := gInt_elim g
  obtain ⟨x7, e7, g⟩ := gInt_elim g
  exact den_cut 1 (r := (cAt C [true, true, true, false, true, false, false, true])) (by kernel_rfl) (D6.ok R N4) (den_enter [(0, .slice a0 l0 c0), (1, .slice a1 l1 c1), (5, .slice a5 l5 c5), (6, .int .u64 x6), (7, .int .i64 x7)] ⟨e0, e1, e5, e6, e7, trivial⟩ (by kernel_rfl) g)
def L4.t (R : Rt) : Nat → Option Addr → Nat → Nat → Option Addr → Nat → Nat → Option Addr → Nat → Nat → Int → Int → Hp → Prop
  | 0 => fun _ _ _ _ _ _ _ _ _ _ _ _ => False
  | n + 1 => fun a0 l0 c0 a1 l1 c1 a5 l5 c5 x6 x7 h => D5.t R (L4.t R n) a0 l0 c0 a1 l1 c1 a5 l5 c5 x6 x7 h
theorem L4.ok (R : Rt) (fr : Fr) (h : Hp) (g : L4.g (fun a0 l0 c0 a1 l1 c1 a5 l5 c5 x6 x7 h => ∃ n, L4.t R n a0 l0 c0 a1 l1 c1 a5 l5 c5 x6 x7 h) fr h) : den prog E (cAt C [true, true, true, false, true, false]) (Ex.inBlock 0 (Ex.then (D2.g R) (retQ E [.tmp 4] R))) fr h := by
  obtain ⟨a0, l0, c0, e0, g⟩ := gSlice_elim g
  obtain ⟨a1, l1, c1, e1, g⟩ := gSlice_elim g
  obtain ⟨a5, l5, c5, e5, g⟩ := gSlice_elim g
  obtain ⟨x6, e6, g⟩ := gInt_elim g
  obtain ⟨x7, e7, g⟩ := gInt_elim g
  obtain ⟨n, g⟩ := g
  refine loop_ok (fun n => L4.g (L4.t R n)) (b := (cAt C [true, true, true, false, true, false, false])) (by kernel_rfl) (fun fr h g => ?_) (fun n => D5.ok R (L4.t R n)) n fr h (gSlice_intro e0 (gSlice_intro e1 (gSlice_intro e5 (gInt_intro e6 (gInt_intro e7 (g))))))
  obtain ⟨a0, l0, c0, e0, g⟩ := gSlice_elim g
  obtain ⟨a1, l1, c1, e1, g⟩ := gSlice_elim g
  obtain ⟨a5, l5, c5, e5, g⟩ := gSlice_elim g
  obtain ⟨x6, e6, g⟩ := gInt_elim g
  obtain ⟨x7, e7, g⟩ := gInt_elim g
  exact g
theorem B7.ok (R : Rt) (fr : Fr) (h : Hp) (g : L4.g (fun a0 l0 c0 a1 l1 c1 a5 l5 c5 x6 x7 h => ∃ n, L4.t R n a0 l0 c0 a1 l1 c1 a5 l5 c5 x6 x7 h) fr h) : den prog E (cAt C [true, true, true, false, true]) (Ex.then (D2.g R) (retQ E [.tmp 4] R)) fr h :=
  den_block (by kernel_rfl) (L4.ok R fr h g)
def D3.t (R : Rt) (a0 : Option Addr) (l0 : Nat) (c0 : Nat) (a1 : Option Addr) (l1 : Nat) (c1 : Nat) (a5 : Option Addr) (l5 : Nat) (c5 : Nat) (x6 : Int) (h : Hp) : Prop :=
  (∃ n, L4.t R n a0 l0 c0 a1 l1 c1 a5 l5 c5 x6 0 h)
def D3.g (R : Rt) (fr : Fr) (h : Hp) : Prop := gSlice (fr 0) fun a0 l0 c0 => gSlice (fr 1) fun a1 l1 c1 => gSlice (fr 5) fun a5 l5 c5 => gInt .u64 (fr 6) fun x6 => D3.t R a0 l0 c0 a1 l1 c1 a5 l5 c5 x6 h
theorem D3.ok (R : Rt) (fr : Fr) (h : Hp) (g : D3.g R fr h) : den prog E (cAt C [true, true, true, false]) (Ex.then (D2.g R) (retQ E [.tmp 4] R)) fr h := by
  obtain ⟨a0, l0, c0, e0, g⟩ := gSlice_elim g
  obtain ⟨a1, l1, c1, e1, g⟩ := gSlice_elim g
  obtain ⟨a5, l5, c5, e5, g⟩ := gSlice_elim g
  obtain ⟨x6, e6, g⟩ := gInt_elim g
  exact den_cut 1 (r := (cAt C [true, true, true, false, true])) (by kernel_rfl) (B7.ok R) (den_enter [(0, .slice a0 l0 c0), (1, .slice a1 l1 c1), (5, .slice a5 l5 c5), (6, .int .u64 x6)] ⟨e0, e1, e5, e6, trivial⟩ (by kernel_rfl) g)
theorem W8.ok (R : Rt) (fr : Fr) (h : Hp) (g : D3.g R fr h) : den prog E (cAt C [true, true, true]) (retQ E [.tmp 4] R) fr h :=
  den_then (by kernel_rfl) (D2.ok R) (D3.ok R fr h g)
def D1.t (R : Rt) (a0 : Option Addr) (l0 : Nat) (c0 : Nat) (a1 : Option Addr) (l1 : Nat) (c1 : Nat) (h : Hp) : Prop :=
  letK (IntKind.i64.wrap ((if (((l1 : Nat) : Int)) > (((l0 : Nat) : Int)) then (((l1 : Nat) : Int)) else (((l0 : Nat) : Int))) + 1)) fun n1 =>
  mkK h 89 T89 0 n1 fun q2 h3 =>
  D3.t R a0 l0 c0 a1 l1 c1 (some q2) ((0 : Int).toNat) n1.toNat 0 h3
def D1.g (R : Rt) (fr : Fr) (h : Hp) : Prop := gSlice (fr 0) fun a0 l0 c0 => gSlice (fr 1) fun a1 l1 c1 => D1.t R a0 l0 c0 a1 l1 c1 h
theorem D1.ok (R : Rt) (fr : Fr) (h : Hp) (g : D1.g R fr h) : den prog E C (retQ E [.tmp 4] R) fr h := by
  obtain ⟨a0, l0, c0, e0, g⟩ := gSlice_elim g
  obtain ⟨a1, l1, c1, e1, g⟩ := gSlice_elim g
  exact den_cut 3 (r := (cAt C [true, true, true])) (by kernel_rfl) (W8.ok R) (den_enter [(0, .slice a0 l0 c0), (1, .slice a1 l1 c1)] ⟨e0, e1, trivial⟩ (by kernel_rfl) g)
def t (a0 : Option Addr) (l0 : Nat) (c0 : Nat) (a1 : Option Addr) (l1 : Nat) (c1 : Nat) (h : Hp) (R : Rt) : Prop := D1.t R a0 l0 c0 a1 l1 c1 h
theorem ok {a0 : Option Addr} {l0 : Nat} {c0 : Nat} {a1 : Option Addr} {l1 : Nat} {c1 : Nat} {h : Hp} {R : Rt} (g : t a0 l0 c0 a1 l1 c1 h R) : HC id #[.slice a0 l0 c0, .slice a1 l1 c1] h R :=
  calls_of_den' envOk (c := C) (rs := [.tmp 4]) Tryz.func39 (by kernel_rfl) (by kernel_rfl) (by kernel_rfl) (args := [.slice a0 l0 c0, .slice a1 l1 c1]) (by kernel_rfl) (D1.ok R _ h (gSlice_intro rfl (gSlice_intro rfl (g))))
end gnomonref01_Add

namespace gnomonref01_Mul
noncomputable def C : Code := bodyOf Tryz.f40
def D2.t (R : Rt) (a5 : Option Addr) (l5 : Nat) (c5 : Nat) (h : Hp) : Prop :=
  HC gnomonref01_Norm.id #[.slice a5 l5 c5] h fun v4 h5 =>
  gSlice v4 fun a_6 l_6 c_6 =>
  R (.slice a_6 l_6 c_6) h5
def D2.g (R : Rt) (fr : Fr) (h : Hp) : Prop := gSlice (fr 5) fun a5 l5 c5 => D2.t R a5 l5 c5 h
theorem D2.ok (R : Rt) (fr : Fr) (h : Hp) (g : D2.g R fr h) : den prog E (cAt C [true, true, true]) (retQ E [.tmp 4] R) fr h := by
  obtain ⟨a5, l5, c5, e5, g⟩ := gSlice_elim g
  exact den_enter [(5, .slice a5 l5 c5)] ⟨e5, trivial⟩ (by kernel_rfl) g
def L4.g (N : Option Addr → Nat → Nat → Option Addr → Nat → Nat → Option Addr → Nat → Nat → Int → Hp → Prop) (fr : Fr) (h : Hp) : Prop := gSlice (fr 0) fun a0 l0 c0 => gSlice (fr 1) fun a1 l1 c1 => gSlice (fr 5) fun a5 l5 c5 => gInt .i64 (fr 6) fun x6 => N a0 l0 c0 a1 l1 c1 a5 l5 c5 x6 h
def D6.t (R : Rt) (N4 : Option Addr → Nat → Nat → Option Addr → Nat → Nat → Option Addr → Nat → Nat → Int → Hp → Prop) (a0 : Option Addr) (l0 : Nat) (c0 : Nat) (a1 : Option Addr) (l1 : Nat) (c1 : Nat) (a5 : Option Addr) (l5 : Nat) (c5 : Nat) (x6 : Int) (h : Hp) : Prop :=
  letK (IntKind.i64.wrap (x6 + 1)) fun n7 => N4 a0 l0 c0 a1 l1 c1 a5 l5 c5 n7 h
def D6.g (R : Rt) (N4 : Option Addr → Nat → Nat → Option Addr → Nat → Nat → Option Addr → Nat → Nat → Int → Hp → Prop) (fr : Fr) (h : Hp) : Prop := gSlice (fr 0) fun a0 l0 c0 => gSlice (fr 1) fun a1 l1 c1 => gSlice (fr 5) fun a5 l5 c5 => gInt .i64 (fr 6) fun x6 => D6.t R N4 a0 l0 c0 a1 l1 c1 a5 l5 c5 x6 h
theorem D6.ok (R : Rt) (N4 : Option Addr → Nat → Nat → Option Addr → Nat → Nat → Option Addr → Nat → Nat → Int → Hp → Prop) (fr : Fr) (h : Hp) (g : D6.g R N4 fr h) : den prog E (cAt C [true, true, false, true, false, false, true, true]) (Ex.then (L4.g N4) (Ex.inBlock 0 (Ex.then (D2.g R) (retQ E [.tmp 4] R)))) fr h := by
  obtain ⟨a0, l0, c0, e0, g⟩ := gSlice_elim g
  obtain ⟨a1, l1, c1, e1, g⟩ := gSlice_elim g
  obtain ⟨a5, l5, c5, e5, g⟩ := gSlice_elim g
  obtain ⟨x6, e6, g⟩ := gInt_elim g
  exact den_enter [(0, .slice a0 l0 c0), (1, .slice a1 l1 c1), (5, .slice a5 l5 c5), (6, .int .i64 x6)] ⟨e0, e1, e5, e6, trivial⟩ (by kernel_rfl) g
def D8.t (R : Rt) (N4 : Option Addr → Nat → Nat → Option Addr → Nat → Nat → Option Addr → Nat → Nat → Int → Hp → Prop) (a0 : Option Addr) (l0 : Nat) (c0 : Nat) (a1 : Option Addr) (l1 : Nat) (c1 : Nat) (a5 : Option Addr) (l5 : Nat) (c5 : Nat) (x6 : Int) (x7 : Int) (h : Hp) : Prop :=
  letK (IntKind.i64.wrap (x6 + (((l1 : Nat) : Int)))) fun n12 =>
  letK (IntKind.u32.wrap x7) fun n13 =>
  idxK a5 l5 n12 1 fun q14 =>
  stK h q14 (.int .u32 n13) fun h15 =>
  D6.t R N4 a0 l0 c0 a1 l1 c1 a5 l5 c5 x6 h15
def D8.g (R : Rt) (N4 : Option Addr → Nat → Nat → Option Addr → Nat → Nat → Option Addr → Nat → Nat → Int → Hp → Prop) (fr : Fr) (h : Hp) : Prop := gSlice (fr 0) fun a0 l0 c0 => gSlice (fr 1) fun a1 l1 c1 => gSlice (fr 5) fun a5 l5 c5 => gInt .i64 (fr 6) fun x6 => gInt .u64 (fr 7) fun x7 => D8.t R N4 a0 l0 c0 a1 l1 c1 a5 l5 c5 x6 x7 h
theorem D8.ok (R : Rt) (N4 : Option Addr → Nat → Nat → Option Addr → Nat → Nat → Option Addr → Nat → Nat → Int → Hp → Prop) (fr : Fr) (h : Hp) (g : D8.g R N4 fr h) : den prog E (cAt C [true, true, false, true, false, false, true, false, false, true, true, true]) (Ex.inBlock 1 (Ex.then (D6.g R N4) (Ex.then (L4.g N4) (Ex.inBlock 0 (Ex.then (D2.g R) (retQ E [.tmp 4] R)))))) fr h := by
  obtain ⟨a0, l0, c0, e0, g⟩ := gSlice_elim g
  obtain ⟨a1, l1, c1, e1, g⟩ := gSlice_elim g
  obtain ⟨a5, l5, c5, e5, g⟩ := gSlice_elim g
  obtain ⟨x6, e6, g⟩ := gInt_elim g
  obtain ⟨x7, e7, g⟩ := gInt_elim g
  exact den_enter [(0, .slice a0 l0 c0), (1, .slice a1 l1 c1), (5, .slice a5 l5 c5), (6, .int .i64 x6), (7, .int .u64 x7)] ⟨e0, e1, e5, e6, e7, trivial⟩ (by kernel_rfl) g
def L10.g (N : Option Addr → Nat → Nat → Option Addr → Nat → Nat → Option Addr → Nat → Nat → Int → Int → Int → Int → Hp → Prop) (fr : Fr) (h : Hp) : Prop := gSlice (fr 0) fun a0 l0 c0 => gSlice (fr 1) fun a1 l1 c1 => gSlice (fr 5) fun a5 l5 c5 => gInt .i64 (fr 6) fun x6 => gInt .u64 (fr 7) fun x7 => gInt .u64 (fr 8) fun x8 => gInt .i64 (fr 9) fun x9 => N a0 l0 c0 a1 l1 c1 a5 l5 c5 x6 x7 x8 x9 h
def D11.t (R : Rt) (N4 : Option Addr → Nat → Nat → Option Addr → Nat → Nat → Option Addr → Nat → Nat → Int → Hp → Prop) (N10 : Option Addr → Nat → Nat → Option Addr → Nat → Nat → Option Addr → Nat → Nat → Int → Int → Int → Int → Hp → Prop) (a0 : Option Addr) (l0 : Nat) (c0 : Nat) (a1 : Option Addr) (l1 : Nat) (c1 : Nat) (a5 : Option Addr) (l5 : Nat) (c5 : Nat) (x6 : Int) (x7 : Int) (x8 : Int) (x9 : Int) (h : Hp) : Prop :=
  cond (decide (x9 < (((l1 : Nat) : Int)))) (letK (IntKind.i64.wrap (x6 + x9)) fun n16 =>
  idxK a5 l5 n16 1 fun q17 =>
  ldK h q17 fun v18 =>
  gInt .u32 v18 fun x_19 =>
  letK (IntKind.u64.wrap x_19) fun n20 =>
  idxK a1 l1 x9 1 fun q21 =>
  ldK h q21 fun v22 =>
  gInt .u32 v22 fun x_23 =>
  letK (IntKind.u64.wrap x_23) fun n24 =>
  letK (IntKind.u64.wrap (x8 * n24)) fun n25 =>
  letK (IntKind.u64.wrap (n20 + n25)) fun n26 =>
  letK (IntKind.u64.wrap (x7 + n26)) fun n27 =>
  letK (IntKind.i64.wrap (x6 + x9)) fun n28 =>
  letK (andI .u64 n27 4294967295) fun n29 =>
  letK (IntKind.u32.wrap n29) fun n30 =>
  idxK a5 l5 n28 1 fun q31 =>
  stK h q31 (.int .u32 n30) fun h32 =>
  0 ≤ (32 : Int) ∧ letK (shrI .u64 n27 32) fun n33 =>
  letK (IntKind.i64.wrap (x9 + 1)) fun n34 =>
  N10 a0 l0 c0 a1 l1 c1 a5 l5 c5 x6 n33 x8 n34 h32) (D8.t R N4 a0 l0 c0 a1 l1 c1 a5 l5 c5 x6 x7 h)
def D11.g (R : Rt) (N4 : Option Addr → Nat → Nat → Option Addr → Nat → Nat → Option Addr → Nat → Nat → Int → Hp → Prop) (N10 : Option Addr → Nat → Nat → Option Addr → Nat → Nat → Option Addr → Nat → Nat → Int → Int → Int → Int → Hp → Prop) (fr : Fr) (h : Hp) : Prop := gSlice (fr 0) fun a0 l0 c0 => gSlice (fr 1) fun a1 l1 c1 => gSlice (fr 5) fun a5 l5 c5 => gInt .i64 (fr 6) fun x6 => gInt .u64 (fr 7) fun x7 => gInt .u64 (fr 8) fun x8 => gInt .i64 (fr 9) fun x9 => D11.t R N4 N10 a0 l0 c0 a1 l1 c1 a5 l5 c5 x6 x7 x8 x9 h
theorem D11.ok (R : Rt) (N4 : Option Addr → Nat → Nat → Option Addr → Nat → Nat → Option Addr → Nat → Nat → Int → Hp → Prop) (N10 : Option Addr → Nat → Nat → Option Addr → Nat → Nat → Option Addr → Nat → Nat → Int → Int → Int → Int → Hp → Prop) (fr : Fr) (h : Hp) (g : D11.g R N4 N10 fr h) : den prog E (cAt C [true, true, false, true, false, false, true, false, false, true, true, false, true, false, false]) (Ex.then (L10.g N10) (Ex.inBlock 2 (Ex.then (D8.g R N4) (Ex.inBlock 1 (Ex.then (D6.g R N4) (Ex.then (L4.g N4) (Ex.inBlock 0 (Ex.then (D2.g R) (retQ E [.tmp 4] R))))))))) fr h := by
  obtain ⟨a0, l0, c0, e0, g⟩ := gSlice_elim g
  obtain ⟨a1, l1, c1, e1, g⟩ := gSlice_elim g
  obtain ⟨a5, l5, c5, e5, g⟩ := gSlice_elim g
  obtain ⟨x6, e6, g⟩ := gInt_elim g
  obtain ⟨x7, e7, g⟩ := gInt_elim g
  obtain ⟨x8, e8, g⟩ := gInt_elim g
  obtain ⟨x9, e9, g⟩ := gInt_elim g
  exact den_enter [(0, .slice a0 l0 c0), (1, .slice a1 l1 c1), (5, .slice a5 l5 c5), (6, .int .i64 x6), (7, .int .u64 x7), (8, .int .u64 x8), (9, .int .i64 x9)] ⟨e0, e1, e5, e6, e7, e8, e9, trivial⟩ (by kernel_rfl) g
def L10.t (R : Rt) (N4 : Option Addr → Nat → Nat → Option Addr → Nat → Nat → Option Addr → Nat → Nat → Int → Hp → Prop) : Nat → Option Addr → Nat → Nat → Option Addr → Nat → Nat → Option Addr → Nat → Nat → Int → Int → Int → Int → Hp → Prop
  | 0 => fun _ _ _ _ _ _ _ _ _ _ _ _ _ _ => False
  | n + 1 => fun a0 l0 c0 a1 l1 c1 a5 l5 c5 x6 x7 x8 x9 h => D11.t R N4 (L10.t R N4 n) a0 l0 c0 a1 l1 c1 a5 l5 c5 x6 x7 x8 x9 h
theorem L10.ok (R : Rt) (N4 : Option Addr → Nat → Nat → Option Addr → Nat → Nat → Option Addr → Nat → Nat → Int → Hp → Prop) (fr : Fr) (h : Hp) (g : L10.g (fun a0 l0 c0 a1 l1 c1 a5 l5 c5 x6 x7 x8 x9 h => ∃ n, L10.t R N4 n a0 l0 c0 a1 l1 c1 a5 l5 c5 x6 x7 x8 x9 h) fr h) : den prog E (cAt C [true, true, false, true, false, false, true, false, false, true, true, false, true, false]) (Ex.inBlock 2 (Ex.then (D8.g R N4) (Ex.inBlock 1 (Ex.then (D6.g R N4) (Ex.then (L4.g N4) (Ex.inBlock 0 (Ex.then (D2.g R) (retQ E [.tmp 4] R)))))))) fr h := by
  obtain ⟨a0, l0, c0, e0, g⟩ := gSlice_elim g
  obtain ⟨a1, l1, c1, e1, g⟩ := gSlice_elim g
  obtain ⟨a5, l5, c5, e5, g⟩ := gSlice_elim g
  obtain ⟨x6, e6, g⟩ := gInt_elim g
  obtain ⟨x7, e7, g⟩ := gInt_elim g
  obtain ⟨x8, e8, g⟩ := gInt_elim g
  obtain ⟨x9, e9, g⟩ := gInt_elim g
  obtain ⟨n, g⟩ := g
  refine loop_ok (fun n => L10.g (L10.t R N4 n)) (b := (cAt C [true, true, false, true, false, false, true, false, false, true, true, false, true, false, false])) (by kernel_rfl) (fun fr h g => ?_) (fun n => D11.ok R N4 (L10.t R N4 n)) n fr h (gSlice_intro e0 (gSlice_intro e1 (gSlice_intro e5 (gInt_intro e6 (gInt_intro e7 (gInt_intro e8 (gInt_intro e9 (g))))))))
  obtain ⟨a0, l0, c0, e0, g⟩ := gSlice_elim g
  obtain ⟨a1, l1, c1, e1, g⟩ := gSlice_elim g
  obtain ⟨a5, l5, c5, e5, g⟩ := gSlice_elim g
  obtain ⟨x6, e6, g⟩ := gInt_elim g
  obtain ⟨x7, e7, g⟩ := gInt_elim g
  obtain ⟨x8, e8, g⟩ := gInt_elim g
  obtain ⟨x9, e9, g⟩ := gInt_elim g
  exact g
theorem B12.ok (R : Rt) (N4 : Option Addr → Nat → Nat → Option Addr → Nat → Nat → Option Addr → Nat → Nat → Int → Hp → Prop) (fr : Fr) (h : Hp) (g : L10.g (fun a0 l0 c0 a1 l1 c1 a5 l5 c5 x6 x7 x8 x9 h => ∃ n, L10.t R N4 n a0 l0 c0 a1 l1 c1 a5 l5 c5 x6 x7 x8 x9 h) fr h) : den prog E (cAt C [true, true, false, true, false, false, true, false, false, true, true, false, true]) (Ex.then (D8.g R N4) (Ex.inBlock 1 (Ex.then (D6.g R N4) (Ex.then (L4.g N4) (Ex.inBlock 0 (Ex.then (D2.g R) (retQ E [.tmp 4] R))))))) fr h :=
  den_block (by kernel_rfl) (L10.ok R N4 fr h g)
def D9.t (R : Rt) (N4 : Option Addr → Nat → Nat → Option Addr → Nat → Nat → Option Addr → Nat → Nat → Int → Hp → Prop) (a0 : Option Addr) (l0 : Nat) (c0 : Nat) (a1 : Option Addr) (l1 : Nat) (c1 : Nat) (a5 : Option Addr) (l5 : Nat) (c5 : Nat) (x6 : Int) (x7 : Int) (x8 : Int) (h : Hp) : Prop :=
  (∃ n, L10.t R N4 n a0 l0 c0 a1 l1 c1 a5 l5 c5 x6 x7 x8 0 h)
def D9.g (R : Rt) (N4 : Option Addr → Nat → Nat → Option Addr → Nat → Nat → Option Addr → Nat → Nat → Int → Hp → Prop) (fr : Fr) (h : Hp) : Prop := gSlice (fr 0) fun a0 l0 c0 => gSlice (fr 1) fun a1 l1 c1 => gSlice (fr 5) fun a5 l5 c5 => gInt .i64 (fr 6) fun x6 => gInt .u64 (fr 7) fun x7 => gInt .u64 (fr 8) fun x8 => D9.t R N4 a0 l0 c0 a1 l1 c1 a5 l5 c5 x6 x7 x8 h
theorem D9.ok (R : Rt) (N4 : Option Addr → Nat → Nat → Option Addr → Nat → Nat → Option Addr → Nat → Nat → Int → Hp → Prop) (fr : Fr) (h : Hp) (g : D9.g R N4 fr h) : den prog E (cAt C [true, true, false, true, false, false, true, false, false, true, true, false]) (Ex.then (D8.g R N4) (Ex.inBlock 1 (Ex.then (D6.g R N4) (Ex.then (L4.g N4) (Ex.inBlock 0 (Ex.then (D2.g R) (retQ E [.tmp 4] R))))))) fr h := by
  obtain ⟨a0, l0, c0, e0, g⟩ := gSlice_elim g
  obtain ⟨a1, l1, c1, e1, g⟩ := gSlice_elim g
  obtain ⟨a5, l5, c5, e5, g⟩ := gSlice_elim g
  obtain ⟨x6, e6, g⟩ := gInt_elim g
  obtain ⟨x7, e7, g⟩ := gInt_elim g
  obtain ⟨x8, e8, g⟩ := gInt_elim g
  exact den_cut 1 (r := (cAt C [true, true, false, true, false, false, true, false, false, true, true, false, true])) (by kernel_rfl) (B12.ok R N4) (den_enter [(0, .slice a0 l0 c0), (1, .slice a1 l1 c1), (5, .slice a5 l5 c5), (6, .int .i64 x6), (7, .int .u64 x7), (8, .int .u64 x8)] ⟨e0, e1, e5, e6, e7, e8, trivial⟩ (by kernel_rfl) g)
theorem W13.ok (R : Rt) (N4 : Option Addr → Nat → Nat → Option Addr → Nat → Nat → Option Addr → Nat → Nat → Int → Hp → Prop) (fr : Fr) (h : Hp) (g : D9.g R N4 fr h) : den prog E (cAt C [true, true, false, true, false, false, true, false, false, true, true]) (Ex.inBlock 1 (Ex.then (D6.g R N4) (Ex.then (L4.g N4) (Ex.inBlock 0 (Ex.then (D2.g R) (retQ E [.tmp 4] R)))))) fr h :=
  den_then (by kernel_rfl) (D8.ok R N4) (D9.ok R N4 fr h g)
def D7.t (R : Rt) (N4 : Option Addr → Nat → Nat → Option Addr → Nat → Nat → Option Addr → Nat → Nat → Int → Hp → Prop) (a0 : Option Addr) (l0 : Nat) (c0 : Nat) (a1 : Option Addr) (l1 : Nat) (c1 : Nat) (a5 : Option Addr) (l5 : Nat) (c5 : Nat) (x6 : Int) (h : Hp) : Prop :=
  idxK a0 l0 x6 1 fun q8 =>
  ldK h q8 fun v9 =>
  gInt .u32 v9 fun x_10 =>
  letK (IntKind.u64.wrap x_10) fun n11 =>
  D9.t R N4 a0 l0 c0 a1 l1 c1 a5 l5 c5 x6 0 n11 h
def D7.g (R : Rt) (N4 : Option Addr → Nat → Nat → Option Addr → Nat → Nat → Option Addr → Nat → Nat → Int → Hp → Prop) (fr : Fr) (h : Hp) : Prop := gSlice (fr 0) fun a0 l0 c0 => gSlice (fr 1) fun a1 l1 c1 => gSlice (fr 5) fun a5 l5 c5 => gInt .i64 (fr 6) fun x6 => D7.t R N4 a0 l0 c0 a1 l1 c1 a5 l5 c5 x6 h
theorem D7.ok (R : Rt) (N4 : Option Addr → Nat → Nat → Option Addr → Nat → Nat → Option Addr → Nat → Nat → Int → Hp → Prop) (fr : Fr) (h : Hp) (g : D7.g R N4 fr h) : den prog E (cAt C [true, true, false, true, false, false, true, false, false]) (Ex.inBlock 1 (Ex.then (D6.g R N4) (Ex.then (L4.g N4) (Ex.inBlock 0 (Ex.then (D2.g R) (retQ E [.tmp 4] R)))))) fr h := by
  obtain ⟨a0, l0, c0, e0, g⟩ := gSlice_elim g
  obtain ⟨a1, l1, c1, e1, g⟩ := gSlice_elim g
  obtain ⟨a5, l5, c5, e5, g⟩ := gSlice_elim g
  obtain ⟨x6, e6, g⟩ := gInt_elim g
  exact den_cut 2 (r := (cAt C [true, true, false, true, false, false, true, false, false, true, true])) (by kernel_rfl) (W13.ok R N4) (den_enter [(0, .slice a0 l0 c0), (1, .slice a1 l1 c1), (5, .slice a5 l5 c5), (6, .int .i64 x6)] ⟨e0, e1, e5, e6, trivial⟩ (by kernel_rfl) g)
theorem B14.ok (R : Rt) (N4 : Option Addr → Nat → Nat → Option Addr → Nat → Nat → Option Addr → Nat → Nat → Int → Hp → Prop) (fr : Fr) (h : Hp) (g : D7.g R N4 fr h) : den prog E (cAt C [true, true, false, true, false, false, true, false]) (Ex.then (D6.g R N4) (Ex.then (L4.g N4) (Ex.inBlock 0 (Ex.then (D2.g R) (retQ E [.tmp 4] R))))) fr h :=
  den_block (by kernel_rfl) (D7.ok R N4 fr h g)
theorem W15.ok (R : Rt) (N4 : Option Addr → Nat → Nat → Option Addr → Nat → Nat → Option Addr → Nat → Nat → Int → Hp → Prop) (fr : Fr) (h : Hp) (g : D7.g R N4 fr h) : den prog E (cAt C [true, true, false, true, false, false, true]) (Ex.then (L4.g N4) (Ex.inBlock 0 (Ex.then (D2.g R) (retQ E [.tmp 4] R)))) fr h :=
  den_then (by kernel_rfl) (D6.ok R N4) (B14.ok R N4 fr h g)
def D5.t (R : Rt) (N4 : Option Addr → Nat → Nat → Option Addr → Nat → Nat → Option Addr → Nat → Nat → Int → Hp → Prop) (a0 : Option Addr) (l0 : Nat) (c0 : Nat) (a1 : Option Addr) (l1 : Nat) (c1 : Nat) (a5 : Option Addr) (l5 : Nat) (c5 : Nat) (x6 : Int) (h : Hp) : Prop :=
  cond (decide (x6 < (((l0 : Nat) : Int)))) (D7.t R N4 a0 l0 c0 a1 l1 c1 a5 l5 c5 x6 h) (D2.t R a5 l5 c5 h)
def D5.g (R : Rt) (N4 : Option Addr → Nat → Nat → Option Addr → Nat → Nat → Option Addr → Nat → Nat → Int → Hp → Prop) (fr : Fr) (h : Hp) : Prop := gSlice (fr 0) fun a0 l0 c0 => gSlice (fr 1) fun a1 l1 c1 => gSlice (fr 5) fun a5 l5 c5 => gInt .i64 (fr 6) fun x6 => D5.t R N4 a0 l0 c0 a1 l1 c1 a5 l5 c5 x6 h
theorem D5.ok (R : Rt) (N4 : Option Addr → Nat → Nat → Option Addr → Nat → Nat → Option Addr → Nat → Nat → Int → Hp → Prop) (fr : Fr) (h : Hp) (g : D5.g R N4 fr h) : den prog E (cAt C [true, true, false, true, false, false]) (Ex.then (L4.g N4) (Ex.inBlock 0 (Ex.then (D2.g R) (retQ E [.tmp 4] R)))) fr h := by
  obtain ⟨a0, l0, c0, e0, g⟩ := gSlice_elim g
  obtain ⟨a1, l1, c1, e1, g⟩ := gSlice_elim g
  obtain ⟨a5, l5, c5, e5, g⟩ := gSlice_elim g
  obtain ⟨x6, e6, g⟩ := gInt_elim g
  exact den_cut 1 (r := (cAt C [true, true, false, true, false, false, true])) (by kernel_rfl) (W15.ok R N4) (den_enter [(0, .slice a0 l0 c0), (1, .slice a1 l1 c1), (5, .slice a5 l5 c5), (6, .int .i64 x6)] ⟨e0, e1, e5, e6, trivial⟩ (by kernel_rfl) g)
def L4.t (R : Rt) : Nat → Option Addr → Nat → Nat → Option Addr → Nat → Nat → Option Addr → Nat → Nat → Int → Hp → Prop
  | 0 => fun _ _ _ _ _ _ _ _ _ _ _ => False
  | n + 1 => fun a0 l0 c0 a1 l1 c1 a5 l5 c5 x6 h => D5.t R (L4.t R n) a0 l0 c0 a1 l1 c1 a5 l5 c5 x6 h
theorem L4.ok (R : Rt) (fr : Fr) (h : Hp) (g : L4.g (fun a0 l0 c0 a1 l1 c1 a5 l5 c5 x6 h => ∃ n, L4.t R n a0 l0 c0 a1 l1 c1 a5 l5 c5 x6 h) fr h) : den prog E (cAt C [true, true, false, true, false]) (Ex.inBlock 0 (Ex.then (D2.g R) (retQ E [.tmp 4] R))) fr h := by
  obtain ⟨a0, l0, c0, e0, g⟩ := gSlice_elim g
  obtain ⟨a1, l1, c1, e1, g⟩ := gSlice_elim g
  obtain ⟨a5, l5, c5, e5, g⟩ := gSlice_elim g
  obtain ⟨x6, e6, g⟩ := gInt_elim g
  obtain ⟨n, g⟩ := g
  refine loop_ok (fun n => L4.g (L4.t R n)) (b := (cAt C [true, true, false, true, false, false])) (by kernel_rfl) (fun fr h g => ?_) (fun n => D5.ok R (L4.t R n)) n fr h (gSlice_intro e0 (gSlice_intro e1 (gSlice_intro e5 (gInt_intro e6 (g)))))
  obtain ⟨a0, l0, c0, e0, g⟩ := gSlice_elim g
  obtain ⟨a1, l1, c1, e1, g⟩ := gSlice_elim g
  obtain ⟨a5, l5, c5, e5, g⟩ := gSlice_elim g
  obtain ⟨x6, e6, g⟩ := gInt_elim g
  exact g
theorem B16.ok (R : Rt) (fr : Fr) (h : Hp) (g : L4.g (fun a0 l0 c0 a1 l1 c1 a5 l5 c5 x6 h => ∃ n, L4.t R n a0 l0 c0 a1 l1 c1 a5 l5 c5 x6 h) fr h) : den prog E (cAt C [true, true, false, true]) (Ex.then (D2.g R) (retQ E [.tmp 4] R)) fr h :=
  den_block (by kernel_rfl) (L4.ok R fr h g)
def D3.t (R : Rt) (a0 : Option Addr) (l0 : Nat) (c0 : Nat) (a1 : Option Addr) (l1 : Nat) (c1 : Nat) (a5 : Option Addr) (l5 : Nat) (c5 : Nat) (h : Hp) : Prop :=
  (∃ n, L4.t R n a0 l0 c0 a1 l1 c1 a5 l5 c5 0 h)
def D3.g (R : Rt) (fr : Fr) (h : Hp) : Prop := gSlice (fr 0) fun a0 l0 c0 => gSlice (fr 1) fun a1 l1 c1 => gSlice (fr 5) fun a5 l5 c5 => D3.t R a0 l0 c0 a1 l1 c1 a5 l5 c5 h
theorem D3.ok (R : Rt) (fr : Fr) (h : Hp) (g : D3.g R fr h) : den prog E (cAt C [true, true, false]) (Ex.then (D2.g R) (retQ E [.tmp 4] R)) fr h := by
  obtain ⟨a0, l0, c0, e0, g⟩ := gSlice_elim g
  obtain ⟨a1, l1, c1, e1, g⟩ := gSlice_elim g
  obtain ⟨a5, l5, c5, e5, g⟩ := gSlice_elim g
  exact den_cut 1 (r := (cAt C [true, true, false, true])) (by kernel_rfl) (B16.ok R) (den_enter [(0, .slice a0 l0 c0), (1, .slice a1 l1 c1), (5, .slice a5 l5 c5)] ⟨e0, e1, e5, trivial⟩ (by kernel_rfl) g)
theorem W17.ok (R : Rt) (fr : Fr) (h : Hp) (g : D3.g R fr h) : den prog E (cAt C [true, true]) (retQ E [.tmp 4] R) fr h :=
  den_then (by kernel_rfl) (D2.ok R) (D3.ok R fr h g)
def D1.t (R : Rt) (a0 : Option Addr) (l0 : Nat) (c0 : Nat) (a1 : Option Addr) (l1 : Nat) (c1 : Nat) (h : Hp) : Prop :=
  letK (IntKind.i64.wrap ((((l0 : Nat) : Int)) + (((l1 : Nat) : Int)))) fun n1 =>
  mkK h 89 T89 n1 n1 fun q2 h3 =>
  D3.t R a0 l0 c0 a1 l1 c1 (some q2) n1.toNat n1.toNat h3
def D1.g (R : Rt) (fr : Fr) (h : Hp) : Prop := gSlice (fr 0) fun a0 l0 c0 => gSlice (fr 1) fun a1 l1 c1 => D1.t R a0 l0 c0 a1 l1 c1 h
theorem D1.ok (R : Rt) (fr : Fr) (h : Hp) (g : D1.g R fr h) : den prog E C (retQ E [.tmp 4] R) fr h := by
  obtain ⟨a0, l0, c0, e0, g⟩ := gSlice_elim g
  obtain ⟨a1, l1, c1, e1, g⟩ := gSlice_elim g
  exact den_cut 2 (r := (cAt C [true, true])) (by kernel_rfl) (W17.ok R) (den_enter [(0, .slice a0 l0 c0), (1, .slice a1 l1 c1)] ⟨e0, e1, trivial⟩ (by kernel_rfl) g)
def t (a0 : Option Addr) (l0 : Nat) (c0 : Nat) (a1 : Option Addr) (l1 : Nat) (c1 : Nat) (h : Hp) (R : Rt) : Prop := D1.t R a0 l0 c0 a1 l1 c1 h
theorem ok {a0 : Option Addr} {l0 : Nat} {c0 : Nat} {a1 : Option Addr} {l1 : Nat} {c1 : Nat} {h : Hp} {R : Rt} (g : t a0 l0 c0 a1 l1 c1 h R) : HC id #[.slice a0 l0 c0, .slice a1 l1 c1] h R :=
  calls_of_den' envOk (c := C) (rs := [.tmp 4]) Tryz.func40 (by kernel_rfl) (by kernel_rfl) (by kernel_rfl) (args := [.slice a0 l0 c0, .slice a1 l1 c1]) (by kernel_rfl) (D1.ok R _ h (gSlice_intro rfl (gSlice_intro rfl (g))))
end gnomonref01_Mul


namespace gnomonref01_Bits
noncomputable def C : Code := bodyOf Tryz.f42
def D2.t (R : Rt) (x3 : Int) (h : Hp) : Prop :=
  R (.int .i64 x3) h
def D2.g (R : Rt) (fr : Fr) (h : Hp) : Prop := gInt .i64 (fr 3) fun x3 => D2.t R x3 h
theorem D2.ok (R : Rt) (fr : Fr) (h : Hp) (g : D2.g R fr h) : den prog E (cAt C [true, true, true, true]) (retQ E [.tmp 2] R) fr h := by
  obtain ⟨x3, e3, g⟩ := gInt_elim g
  exact den_enter [(3, .int .i64 x3)] ⟨e3, trivial⟩ (by kernel_rfl) g
def L4.g (N : Int → Int → Hp → Prop) (fr : Fr) (h : Hp) : Prop := gInt .i64 (fr 3) fun x3 => gInt .u32 (fr 4) fun x4 => N x3 x4 h
def D5.t (R : Rt) (N4 : Int → Int → Hp → Prop) (x3 : Int) (x4 : Int) (h : Hp) : Prop :=
  cond (decide (x4 > 0)) (letK (IntKind.i64.wrap (x3 + 1)) fun n7 =>
  (2 : Int) ≠ 0 ∧ letK (IntKind.u32.wrap (Int.tdiv x4 2)) fun n8 =>
  N4 n7 n8 h) (D2.t R x3 h)
def D5.g (R : Rt) (N4 : Int → Int → Hp → Prop) (fr : Fr) (h : Hp) : Prop := gInt .i64 (fr 3) fun x3 => gInt .u32 (fr 4) fun x4 => D5.t R N4 x3 x4 h
theorem D5.ok (R : Rt) (N4 : Int → Int → Hp → Prop) (fr : Fr) (h : Hp) (g : D5.g R N4 fr h) : den prog E (cAt C [true, true, true, false, true, false, false]) (Ex.then (L4.g N4) (Ex.inBlock 0 (Ex.then (D2.g R) (retQ E [.tmp 2] R)))) fr h := by
  obtain ⟨x3, e3, g⟩ := gInt_elim g
  obtain ⟨x4, e4, g⟩ := gInt_elim g
  exact den_enter [(3, .int .i64 x3), (4, .int .u32 x4)] ⟨e3, e4, trivial⟩ (by kernel_rfl) g
def L4.t (R : Rt) : Nat → Int → Int → Hp → Prop
  | 0 => fun _ _ _ => False
  | n + 1 => fun x3 x4 h => D5.t R (L4.t R n) x3 x4 h
theorem L4.ok (R : Rt) (fr : Fr) (h : Hp) (g : L4.g (fun x3 x4 h => ∃ n, L4.t R n x3 x4 h) fr h) : den prog E (cAt C [true, true, true, false, true, false]) (Ex.inBlock 0 (Ex.then (D2.g R) (retQ E [.tmp 2] R))) fr h := by
  obtain ⟨x3, e3, g⟩ := gInt_elim g
  obtain ⟨x4, e4, g⟩ := gInt_elim g
  obtain ⟨n, g⟩ := g
  refine loop_ok (fun n => L4.g (L4.t R n)) (b := (cAt C [true, true, true, false, true, false, false])) (by kernel_rfl) (fun fr h g => ?_) (fun n => D5.ok R (L4.t R n)) n fr h (gInt_intro e3 (gInt_intro e4 (g)))
  obtain ⟨x3, e3, g⟩ := gInt_elim g
  obtain ⟨x4, e4, g⟩ := gInt_elim g
  exact g
theorem B6.ok (R : Rt) (fr : Fr) (h : Hp) (g : L4.g (fun x3 x4 h => ∃ n, L4.t R n x3 x4 h) fr h) : den prog E (cAt C [true, true, true, false, true]) (Ex.then (D2.g R) (retQ E [.tmp 2] R)) fr h :=
  den_block (by kernel_rfl) (L4.ok R fr h g)
def D3.t (R : Rt) (a0 : Option Addr) (l0 : Nat) (c0 : Nat) (x3 : Int) (h : Hp) : Prop :=
  letK (IntKind.i64.wrap ((((l0 : Nat) : Int)) - 1)) fun n3 =>
  idxK a0 l0 n3 1 fun q4 =>
  ldK h q4 fun v5 =>
  gInt .u32 v5 fun x_6 =>
  (∃ n, L4.t R n x3 x_6 h)
def D3.g (R : Rt) (fr : Fr) (h : Hp) : Prop := gSlice (fr 0) fun a0 l0 c0 => gInt .i64 (fr 3) fun x3 => D3.t R a0 l0 c0 x3 h
theorem D3.ok (R : Rt) (fr : Fr) (h : Hp) (g : D3.g R fr h) : den prog E (cAt C [true, true, true, false]) (Ex.then (D2.g R) (retQ E [.tmp 2] R)) fr h := by
  obtain ⟨a0, l0, c0, e0, g⟩ := gSlice_elim g
  obtain ⟨x3, e3, g⟩ := gInt_elim g
  exact den_cut 1 (r := (cAt C [true, true, true, false, true])) (by kernel_rfl) (B6.ok R) (den_enter [(0, .slice a0 l0 c0), (3, .int .i64 x3)] ⟨e0, e3, trivial⟩ (by kernel_rfl) g)
theorem W7.ok (R : Rt) (fr : Fr) (h : Hp) (g : D3.g R fr h) : den prog E (cAt C [true, true, true]) (retQ E [.tmp 2] R) fr h :=
  den_then (by kernel_rfl) (D2.ok R) (D3.ok R fr h g)
def D1.t (R : Rt) (a0 : Option Addr) (l0 : Nat) (c0 : Nat) (h : Hp) : Prop :=
  cond ((((l0 : Nat) : Int)) == 0) (R (.int .i64 0) h) (letK (IntKind.i64.wrap ((((l0 : Nat) : Int)) - 1)) fun n1 =>
  letK (IntKind.i64.wrap (32 * n1)) fun n2 =>
  D3.t R a0 l0 c0 n2 h)
def D1.g (R : Rt) (fr : Fr) (h : Hp) : Prop := gSlice (fr 0) fun a0 l0 c0 => D1.t R a0 l0 c0 h
theorem D1.ok (R : Rt) (fr : Fr) (h : Hp) (g : D1.g R fr h) : den prog E C (retQ E [.tmp 2] R) fr h := by
  obtain ⟨a0, l0, c0, e0, g⟩ := gSlice_elim g
  exact den_cut 3 (r := (cAt C [true, true, true])) (by kernel_rfl) (W7.ok R) (den_enter [(0, .slice a0 l0 c0)] ⟨e0, trivial⟩ (by kernel_rfl) g)
def t (a0 : Option Addr) (l0 : Nat) (c0 : Nat) (h : Hp) (R : Rt) : Prop := D1.t R a0 l0 c0 h
theorem ok {a0 : Option Addr} {l0 : Nat} {c0 : Nat} {h : Hp} {R : Rt} (g : t a0 l0 c0 h R) : HC id #[.slice a0 l0 c0] h R :=
  calls_of_den' envOk (c := C) (rs := [.tmp 2]) Tryz.func42 (by kernel_rfl) (by kernel_rfl) (by kernel_rfl) (args := [.slice a0 l0 c0]) (by kernel_rfl) (D1.ok R _ h (gSlice_intro rfl (g)))
end gnomonref01_Bits


end Go.Proofs.YtjijdlkpmngolaaGreat.G
