/- Texts of this work, joined: Fp1. -/
import Derived.Test.YtanlcacaihdceaaGreatDoorKE
/- Functions of the translation as predicates over heaps, and that their calls do so. Written by a program of this work. -/
namespace Go.Proofs.YtanlcacaihdceaaGreatDoor.G
open Go.Gv
set_option linter.unusedVariables false
set_option maxRecDepth 100000

namespace num_CeilDiv
noncomputable def C : Code := bodyOf Tryz.f67
def D1.t (R : Rt) (b0_0 : Bool) (a0_1 : Option Addr) (l0_1 : Nat) (c0_1 : Nat) (b1_0 : Bool) (a1_1 : Option Addr) (l1_1 : Nat) (c1_1 : Nat) (h : Hp) : Prop :=
  boxK h 28 [.bool b0_0, .slice a0_1 l0_1 c0_1] fun q1 h2 =>
  boxK h2 28 [.bool b1_0, .slice a1_1 l1_1 c1_1] fun q3 h4 =>
  boxK h4 28 T28.zs fun q5 h6 =>
  ldK h6 (q1.add 0) fun v7 =>
  gBool v7 fun b_8 =>
  ldK h6 (q1.add 1) fun v9 =>
  gSlice v9 fun a_10 l_10 c_10 =>
  ldK h6 (q3.add 0) fun v11 =>
  gBool v11 fun b_12 =>
  ldK h6 (q3.add 1) fun v13 =>
  gSlice v13 fun a_14 l_14 c_14 =>
  HC num_way_div.id #[.int .i64 1, .agg #[.bool b_8, .slice a_10 l_10 c_10], .agg #[.bool b_12, .slice a_14 l_14 c_14]] h6 fun v15 h16 =>
  gTup v15 fun y17 =>
  uncons y17 fun v18 y18 =>
  gAgg v18 fun y19 =>
  uncons y19 fun v20 y20 =>
  gBool v20 fun b_21 =>
  uncons y20 fun v22 y22 =>
  gSlice v22 fun a_23 l_23 c_23 =>
  unnil y22 <| uncons y18 fun v24 y24 =>
  gInt .i64 v24 fun x_25 =>
  unnil y24 <| stK h16 (q5.add 0) (.bool b_21) fun h26 =>
  stK h26 (q5.add 1) (.slice a_23 l_23 c_23) fun h27 =>
  ldK h27 (q5.add 0) fun v28 =>
  gBool v28 fun b_29 =>
  ldK h27 (q5.add 1) fun v30 =>
  gSlice v30 fun a_31 l_31 c_31 =>
  R (.tuple #[.agg #[.bool b_29, .slice a_31 l_31 c_31], .int .i64 x_25]) h27
def D1.g (R : Rt) (fr : Fr) (h : Hp) : Prop := gAgg (fr 0) fun z0 => uncons z0 fun w0_0 z0_0 => gBool w0_0 fun b0_0 => uncons z0_0 fun w0_1 z0_1 => gSlice w0_1 fun a0_1 l0_1 c0_1 => unnil z0_1 <| gAgg (fr 1) fun z1 => uncons z1 fun w1_0 z1_0 => gBool w1_0 fun b1_0 => uncons z1_0 fun w1_1 z1_1 => gSlice w1_1 fun a1_1 l1_1 c1_1 => unnil z1_1 <| D1.t R b0_0 a0_1 l0_1 c0_1 b1_0 a1_1 l1_1 c1_1 h
theorem D1.ok (R : Rt) (fr : Fr) (h : Hp) (g : D1.g R fr h) : den prog E C (retQ E [.cell 4 28, .tmp 5] R) fr h := by
  obtain ⟨z0, e0, g0_0⟩ := gAgg_elim' g
  obtain ⟨w0_0, z0_0, rfl, g0_0x⟩ := uncons_elim g0_0
  obtain ⟨b0_0, rfl, g0_1⟩ := gBool_elim g0_0x
  obtain ⟨w0_1, z0_1, rfl, g0_1x⟩ := uncons_elim g0_1
  obtain ⟨a0_1, l0_1, c0_1, rfl, g0_2⟩ := gSlice_elim g0_1x
  obtain ⟨rfl, g⟩ := unnil_elim g0_2
  obtain ⟨z1, e1, g1_0⟩ := gAgg_elim' g
  obtain ⟨w1_0, z1_0, rfl, g1_0x⟩ := uncons_elim g1_0
  obtain ⟨b1_0, rfl, g1_1⟩ := gBool_elim g1_0x
  obtain ⟨w1_1, z1_1, rfl, g1_1x⟩ := uncons_elim g1_1
  obtain ⟨a1_1, l1_1, c1_1, rfl, g1_2⟩ := gSlice_elim g1_1x
  obtain ⟨rfl, g⟩ := unnil_elim g1_2
  exact den_enter [(0, .agg #[.bool b0_0, .slice a0_1 l0_1 c0_1]), (1, .agg #[.bool b1_0, .slice a1_1 l1_1 c1_1])] ⟨e0, e1, trivial⟩ (by kernel_rfl) g
def t (b0_0 : Bool) (a0_1 : Option Addr) (l0_1 : Nat) (c0_1 : Nat) (b1_0 : Bool) (a1_1 : Option Addr) (l1_1 : Nat) (c1_1 : Nat) (h : Hp) (R : Rt) : Prop := D1.t R b0_0 a0_1 l0_1 c0_1 b1_0 a1_1 l1_1 c1_1 h
theorem ok {b0_0 : Bool} {a0_1 : Option Addr} {l0_1 : Nat} {c0_1 : Nat} {b1_0 : Bool} {a1_1 : Option Addr} {l1_1 : Nat} {c1_1 : Nat} {h : Hp} {R : Rt} (g : t b0_0 a0_1 l0_1 c0_1 b1_0 a1_1 l1_1 c1_1 h R) : HC id #[.agg #[.bool b0_0, .slice a0_1 l0_1 c0_1], .agg #[.bool b1_0, .slice a1_1 l1_1 c1_1]] h R :=
  calls_of_den' envOk (c := C) (rs := [.cell 4 28, .tmp 5]) Tryz.func67 (by kernel_rfl) (by kernel_rfl) (by kernel_rfl) (args := [.agg #[.bool b0_0, .slice a0_1 l0_1 c0_1], .agg #[.bool b1_0, .slice a1_1 l1_1 c1_1]]) (by kernel_rfl) (D1.ok R _ h (gAgg_intro rfl (uncons_intro (gBool_intro rfl (uncons_intro (gSlice_intro rfl (unnil_intro (gAgg_intro rfl (uncons_intro (gBool_intro rfl (uncons_intro (gSlice_intro rfl (unnil_intro (g))))))))))))))
end num_CeilDiv

namespace num_NearDiv
noncomputable def C : Code := bodyOf Tryz.f68
def D1.t (R : Rt) (b0_0 : Bool) (a0_1 : Option Addr) (l0_1 : Nat) (c0_1 : Nat) (b1_0 : Bool) (a1_1 : Option Addr) (l1_1 : Nat) (c1_1 : Nat) (h : Hp) : Prop :=
  boxK h 28 [.bool b0_0, .slice a0_1 l0_1 c0_1] fun q1 h2 =>
  boxK h2 28 [.bool b1_0, .slice a1_1 l1_1 c1_1] fun q3 h4 =>
  boxK h4 28 T28.zs fun q5 h6 =>
  ldK h6 (q1.add 0) fun v7 =>
  gBool v7 fun b_8 =>
  ldK h6 (q1.add 1) fun v9 =>
  gSlice v9 fun a_10 l_10 c_10 =>
  ldK h6 (q3.add 0) fun v11 =>
  gBool v11 fun b_12 =>
  ldK h6 (q3.add 1) fun v13 =>
  gSlice v13 fun a_14 l_14 c_14 =>
  HC num_way_div.id #[.int .i64 2, .agg #[.bool b_8, .slice a_10 l_10 c_10], .agg #[.bool b_12, .slice a_14 l_14 c_14]] h6 fun v15 h16 =>
  gTup v15 fun y17 =>
  uncons y17 fun v18 y18 =>
  gAgg v18 fun y19 =>
  uncons y19 fun v20 y20 =>
  gBool v20 fun b_21 =>
  uncons y20 fun v22 y22 =>
  gSlice v22 fun a_23 l_23 c_23 =>
  unnil y22 <| uncons y18 fun v24 y24 =>
  gInt .i64 v24 fun x_25 =>
  unnil y24 <| stK h16 (q5.add 0) (.bool b_21) fun h26 =>
  stK h26 (q5.add 1) (.slice a_23 l_23 c_23) fun h27 =>
  ldK h27 (q5.add 0) fun v28 =>
  gBool v28 fun b_29 =>
  ldK h27 (q5.add 1) fun v30 =>
  gSlice v30 fun a_31 l_31 c_31 =>
  R (.tuple #[.agg #[.bool b_29, .slice a_31 l_31 c_31], .int .i64 x_25]) h27
def D1.g (R : Rt) (fr : Fr) (h : Hp) : Prop := gAgg (fr 0) fun z0 => uncons z0 fun w0_0 z0_0 => gBool w0_0 fun b0_0 => uncons z0_0 fun w0_1 z0_1 => gSlice w0_1 fun a0_1 l0_1 c0_1 => unnil z0_1 <| gAgg (fr 1) fun z1 => uncons z1 fun w1_0 z1_0 => gBool w1_0 fun b1_0 => uncons z1_0 fun w1_1 z1_1 => gSlice w1_1 fun a1_1 l1_1 c1_1 => unnil z1_1 <| D1.t R b0_0 a0_1 l0_1 c0_1 b1_0 a1_1 l1_1 c1_1 h
theorem D1.ok (R : Rt) (fr : Fr) (h : Hp) (g : D1.g R fr h) : den prog E C (retQ E [.cell 4 28, .tmp 5] R) fr h := by
  obtain ⟨z0, e0, g0_0⟩ := gAgg_elim' g
  obtain ⟨w0_0, z0_0, rfl, g0_0x⟩ := uncons_elim g0_0
  obtain ⟨b0_0, rfl, g0_1⟩ := gBool_elim g0_0x
  obtain ⟨w0_1, z0_1, rfl, g0_1x⟩ := uncons_elim g0_1
  obtain ⟨a0_1, l0_1, c0_1, rfl, g0_2⟩ := gSlice_elim g0_1x
  obtain ⟨rfl, g⟩ := unnil_elim g0_2
  obtain ⟨z1, e1, g1_0⟩ := gAgg_elim' g
  obtain ⟨w1_0, z1_0, rfl, g1_0x⟩ := uncons_elim g1_0
  obtain ⟨b1_0, rfl, g1_1⟩ := gBool_elim g1_0x
  obtain ⟨w1_1, z1_1, rfl, g1_1x⟩ := uncons_elim g1_1
  obtain ⟨a1_1, l1_1, c1_1, rfl, g1_2⟩ := gSlice_elim g1_1x
  obtain ⟨rfl, g⟩ := unnil_elim g1_2
  exact den_enter [(0, .agg #[.bool b0_0, .slice a0_1 l0_1 c0_1]), (1, .agg #[.bool b1_0, .slice a1_1 l1_1 c1_1])] ⟨e0, e1, trivial⟩ (by kernel_rfl) g
def t (b0_0 : Bool) (a0_1 : Option Addr) (l0_1 : Nat) (c0_1 : Nat) (b1_0 : Bool) (a1_1 : Option Addr) (l1_1 : Nat) (c1_1 : Nat) (h : Hp) (R : Rt) : Prop := D1.t R b0_0 a0_1 l0_1 c0_1 b1_0 a1_1 l1_1 c1_1 h
theorem ok {b0_0 : Bool} {a0_1 : Option Addr} {l0_1 : Nat} {c0_1 : Nat} {b1_0 : Bool} {a1_1 : Option Addr} {l1_1 : Nat} {c1_1 : Nat} {h : Hp} {R : Rt} (g : t b0_0 a0_1 l0_1 c0_1 b1_0 a1_1 l1_1 c1_1 h R) : HC id #[.agg #[.bool b0_0, .slice a0_1 l0_1 c0_1], .agg #[.bool b1_0, .slice a1_1 l1_1 c1_1]] h R :=
  calls_of_den' envOk (c := C) (rs := [.cell 4 28, .tmp 5]) Tryz.func68 (by kernel_rfl) (by kernel_rfl) (by kernel_rfl) (args := [.agg #[.bool b0_0, .slice a0_1 l0_1 c0_1], .agg #[.bool b1_0, .slice a1_1 l1_1 c1_1]]) (by kernel_rfl) (D1.ok R _ h (gAgg_intro rfl (uncons_intro (gBool_intro rfl (uncons_intro (gSlice_intro rfl (unnil_intro (gAgg_intro rfl (uncons_intro (gBool_intro rfl (uncons_intro (gSlice_intro rfl (unnil_intro (g))))))))))))))
end num_NearDiv

namespace num_way_made
noncomputable def C : Code := bodyOf Tryz.f69
def D1.t (R : Rt) (x0 : Int) (b1 : Bool) (a2 : Option Addr) (l2 : Nat) (c2 : Nat) (b3 : Bool) (x4 : Int) (h : Hp) : Prop :=
  boxK h 28 T28.zs fun q1 h2 =>
  HC nat_Bit.id #[.slice a2 l2 c2, .int .i64 0] h2 fun v3 h4 =>
  gBool v3 fun b_5 =>
  HC num_way_more.id #[.int .i64 x0, .bool b1, .bool b_5, .bool b3, .int .i64 x4] h4 fun v6 h7 =>
  gBool v6 fun b_8 =>
  cond (!b_8) (HC num_told.id #[.bool b1, .slice a2 l2 c2, .int .i64 0] h7 fun v9 h10 =>
  gTup v9 fun y11 =>
  uncons y11 fun v12 y12 =>
  gAgg v12 fun y13 =>
  uncons y13 fun v14 y14 =>
  gBool v14 fun b_15 =>
  uncons y14 fun v16 y16 =>
  gSlice v16 fun a_17 l_17 c_17 =>
  unnil y16 <| uncons y12 fun v18 y18 =>
  gInt .i64 v18 fun x_19 =>
  unnil y18 <| stK h10 (q1.add 0) (.bool b_15) fun h20 =>
  stK h20 (q1.add 1) (.slice a_17 l_17 c_17) fun h21 =>
  ldK h21 (q1.add 0) fun v22 =>
  gBool v22 fun b_23 =>
  ldK h21 (q1.add 1) fun v24 =>
  gSlice v24 fun a_25 l_25 c_25 =>
  R (.tuple #[.agg #[.bool b_23, .slice a_25 l_25 c_25], .int .i64 x_19]) h21) (HC nat_Word.id #[.int .u64 1] h7 fun v26 h27 =>
  gSlice v26 fun a_28 l_28 c_28 =>
  HC nat_Add.id #[.slice a2 l2 c2, .slice a_28 l_28 c_28] h27 fun v29 h30 =>
  gTup v29 fun y31 =>
  uncons y31 fun v32 y32 =>
  gSlice v32 fun a_33 l_33 c_33 =>
  uncons y32 fun v34 y34 =>
  gInt .i64 v34 fun x_35 =>
  unnil y34 <| HC num_told.id #[.bool b1, .slice a_33 l_33 c_33, .int .i64 x_35] h30 fun v36 h37 =>
  gTup v36 fun y38 =>
  uncons y38 fun v39 y39 =>
  gAgg v39 fun y40 =>
  uncons y40 fun v41 y41 =>
  gBool v41 fun b_42 =>
  uncons y41 fun v43 y43 =>
  gSlice v43 fun a_44 l_44 c_44 =>
  unnil y43 <| uncons y39 fun v45 y45 =>
  gInt .i64 v45 fun x_46 =>
  unnil y45 <| stK h37 (q1.add 0) (.bool b_42) fun h47 =>
  stK h47 (q1.add 1) (.slice a_44 l_44 c_44) fun h48 =>
  ldK h48 (q1.add 0) fun v49 =>
  gBool v49 fun b_50 =>
  ldK h48 (q1.add 1) fun v51 =>
  gSlice v51 fun a_52 l_52 c_52 =>
  R (.tuple #[.agg #[.bool b_50, .slice a_52 l_52 c_52], .int .i64 x_46]) h48)
def D1.g (R : Rt) (fr : Fr) (h : Hp) : Prop := gInt .i64 (fr 0) fun x0 => gBool (fr 1) fun b1 => gSlice (fr 2) fun a2 l2 c2 => gBool (fr 3) fun b3 => gInt .i64 (fr 4) fun x4 => D1.t R x0 b1 a2 l2 c2 b3 x4 h
theorem D1.ok (R : Rt) (fr : Fr) (h : Hp) (g : D1.g R fr h) : den prog E C (retQ E [.cell 10 28, .tmp 11] R) fr h := by
  obtain ⟨x0, e0, g⟩ := gInt_elim g
  obtain ⟨b1, e1, g⟩ := gBool_elim g
  obtain ⟨a2, l2, c2, e2, g⟩ := gSlice_elim g
  obtain ⟨b3, e3, g⟩ := gBool_elim g
  obtain ⟨x4, e4, g⟩ := gInt_elim g
  exact den_enter [(0, .int .i64 x0), (1, .bool b1), (2, .slice a2 l2 c2), (3, .bool b3), (4, .int .i64 x4)] ⟨e0, e1, e2, e3, e4, trivial⟩ (by kernel_rfl) g
def t (x0 : Int) (b1 : Bool) (a2 : Option Addr) (l2 : Nat) (c2 : Nat) (b3 : Bool) (x4 : Int) (h : Hp) (R : Rt) : Prop := D1.t R x0 b1 a2 l2 c2 b3 x4 h
theorem ok {x0 : Int} {b1 : Bool} {a2 : Option Addr} {l2 : Nat} {c2 : Nat} {b3 : Bool} {x4 : Int} {h : Hp} {R : Rt} (g : t x0 b1 a2 l2 c2 b3 x4 h R) : HC id #[.int .i64 x0, .bool b1, .slice a2 l2 c2, .bool b3, .int .i64 x4] h R :=
  calls_of_den' envOk (c := C) (rs := [.cell 10 28, .tmp 11]) Tryz.func69 (by kernel_rfl) (by kernel_rfl) (by kernel_rfl) (args := [.int .i64 x0, .bool b1, .slice a2 l2 c2, .bool b3, .int .i64 x4]) (by kernel_rfl) (D1.ok R _ h (gInt_intro rfl (gBool_intro rfl (gSlice_intro rfl (gBool_intro rfl (gInt_intro rfl (g)))))))
end num_way_made

namespace nat_Shr
noncomputable def C : Code := bodyOf Tryz.f70
def D2.t (R : Rt) (a8 : Option Addr) (l8 : Nat) (c8 : Nat) (h : Hp) : Prop :=
  HC nat_told.id #[.slice a8 l8 c8] h fun v9 h10 =>
  gTup v9 fun y11 =>
  uncons y11 fun v12 y12 =>
  gSlice v12 fun a_13 l_13 c_13 =>
  uncons y12 fun v14 y14 =>
  gInt .i64 v14 fun x_15 =>
  unnil y14 <| R (.tuple #[.slice a_13 l_13 c_13, .int .i64 x_15]) h10
def D2.g (R : Rt) (fr : Fr) (h : Hp) : Prop := gSlice (fr 8) fun a8 l8 c8 => D2.t R a8 l8 c8 h
theorem D2.ok (R : Rt) (fr : Fr) (h : Hp) (g : D2.g R fr h) : den prog E (cAt C [true, true, true, true, true, true, true]) (retQ E [.tmp 4, .tmp 5] R) fr h := by
  obtain ⟨a8, l8, c8, e8, g⟩ := gSlice_elim g
  exact den_enter [(8, .slice a8 l8 c8)] ⟨e8, trivial⟩ (by kernel_rfl) g
def L4.g (N : Option Addr → Nat → Nat → Int → Int → Option Addr → Nat → Nat → Int → Int → Hp → Prop) (fr : Fr) (h : Hp) : Prop := gSlice (fr 0) fun a0 l0 c0 => gInt .i64 (fr 6) fun x6 => gInt .i64 (fr 7) fun x7 => gSlice (fr 8) fun a8 l8 c8 => gInt .i64 (fr 29) fun x29 => gInt .i64 (fr 30) fun x30 => N a0 l0 c0 x6 x7 a8 l8 c8 x29 x30 h
def D5.t (R : Rt) (N4 : Option Addr → Nat → Nat → Int → Int → Option Addr → Nat → Nat → Int → Int → Hp → Prop) (a0 : Option Addr) (l0 : Nat) (c0 : Nat) (x6 : Int) (x7 : Int) (a8 : Option Addr) (l8 : Nat) (c8 : Nat) (x29 : Int) (x30 : Int) (h : Hp) : Prop :=
  cond (decide (x30 < x29)) (letK (IntKind.i64.wrap (x6 + x30)) fun n16 =>
  idxK a0 l0 n16 1 fun q17 =>
  ldK h q17 fun v18 =>
  gInt .u64 v18 fun x_19 =>
  0 ≤ x7 ∧ letK (shrI .u64 x_19 x7) fun n20 =>
  idxK a8 l8 x30 1 fun q21 =>
  stK h q21 (.int .u64 n20) fun h22 =>
  letK (IntKind.i64.wrap (x6 + x30)) fun n23 =>
  letK (IntKind.i64.wrap (n23 + 1)) fun n24 =>
  cond (decide (n24 < (((l0 : Nat) : Int)))) (idxK a8 l8 x30 1 fun q25 =>
  ldK h22 q25 fun v26 =>
  gInt .u64 v26 fun x_27 =>
  letK (IntKind.i64.wrap (x6 + x30)) fun n28 =>
  letK (IntKind.i64.wrap (n28 + 1)) fun n29 =>
  idxK a0 l0 n29 1 fun q30 =>
  ldK h22 q30 fun v31 =>
  gInt .u64 v31 fun x_32 =>
  0 ≤ (1 : Int) ∧ letK (shlI .u64 x_32 1) fun n33 =>
  letK (IntKind.i64.wrap (63 - x7)) fun n34 =>
  0 ≤ n34 ∧ letK (shlI .u64 n33 n34) fun n35 =>
  letK (orI .u64 x_27 n35) fun n36 =>
  idxK a8 l8 x30 1 fun q37 =>
  stK h22 q37 (.int .u64 n36) fun h38 =>
  letK (IntKind.i64.wrap (x30 + 1)) fun n39 =>
  N4 a0 l0 c0 x6 x7 a8 l8 c8 x29 n39 h38) (letK (IntKind.i64.wrap (x30 + 1)) fun n40 =>
  N4 a0 l0 c0 x6 x7 a8 l8 c8 x29 n40 h22)) (D2.t R a8 l8 c8 h)
def D5.g (R : Rt) (N4 : Option Addr → Nat → Nat → Int → Int → Option Addr → Nat → Nat → Int → Int → Hp → Prop) (fr : Fr) (h : Hp) : Prop := gSlice (fr 0) fun a0 l0 c0 => gInt .i64 (fr 6) fun x6 => gInt .i64 (fr 7) fun x7 => gSlice (fr 8) fun a8 l8 c8 => gInt .i64 (fr 29) fun x29 => gInt .i64 (fr 30) fun x30 => D5.t R N4 a0 l0 c0 x6 x7 a8 l8 c8 x29 x30 h
theorem D5.ok (R : Rt) (N4 : Option Addr → Nat → Nat → Int → Int → Option Addr → Nat → Nat → Int → Int → Hp → Prop) (fr : Fr) (h : Hp) (g : D5.g R N4 fr h) : den prog E (cAt C [true, true, true, true, true, true, false, true, false, false]) (Ex.then (L4.g N4) (Ex.inBlock 0 (Ex.then (D2.g R) (retQ E [.tmp 4, .tmp 5] R)))) fr h := by
  obtain ⟨a0, l0, c0, e0, g⟩ := gSlice_elim g
  obtain ⟨x6, e6, g⟩ := gInt_elim g
  obtain ⟨x7, e7, g⟩ := gInt_elim g
  obtain ⟨a8, l8, c8, e8, g⟩ := gSlice_elim g
  obtain ⟨x29, e29, g⟩ := gInt_elim g
  obtain ⟨x30, e30, g⟩ := gInt_elim g
  exact den_enter [(0, .slice a0 l0 c0), (6, .int .i64 x6), (7, .int .i64 x7), (8, .slice a8 l8 c8), (29, .int .i64 x29), (30, .int .i64 x30)] ⟨e0, e6, e7, e8, e29, e30, trivial⟩ (by kernel_rfl) g
def L4.t (R : Rt) : Nat → Option Addr → Nat → Nat → Int → Int → Option Addr → Nat → Nat → Int → Int → Hp → Prop
  | 0 => fun _ _ _ _ _ _ _ _ _ _ _ => False
  | n + 1 => fun a0 l0 c0 x6 x7 a8 l8 c8 x29 x30 h => D5.t R (L4.t R n) a0 l0 c0 x6 x7 a8 l8 c8 x29 x30 h
theorem L4.ok (R : Rt) (fr : Fr) (h : Hp) (g : L4.g (fun a0 l0 c0 x6 x7 a8 l8 c8 x29 x30 h => ∃ n, L4.t R n a0 l0 c0 x6 x7 a8 l8 c8 x29 x30 h) fr h) : den prog E (cAt C [true, true, true, true, true, true, false, true, false]) (Ex.inBlock 0 (Ex.then (D2.g R) (retQ E [.tmp 4, .tmp 5] R))) fr h := by
  obtain ⟨a0, l0, c0, e0, g⟩ := gSlice_elim g
  obtain ⟨x6, e6, g⟩ := gInt_elim g
  obtain ⟨x7, e7, g⟩ := gInt_elim g
  obtain ⟨a8, l8, c8, e8, g⟩ := gSlice_elim g
  obtain ⟨x29, e29, g⟩ := gInt_elim g
  obtain ⟨x30, e30, g⟩ := gInt_elim g
  obtain ⟨n, g⟩ := g
  refine loop_ok (fun n => L4.g (L4.t R n)) (b := (cAt C [true, true, true, true, true, true, false, true, false, false])) (by kernel_rfl) (fun fr h g => ?_) (fun n => D5.ok R (L4.t R n)) n fr h (gSlice_intro e0 (gInt_intro e6 (gInt_intro e7 (gSlice_intro e8 (gInt_intro e29 (gInt_intro e30 (g)))))))
  obtain ⟨a0, l0, c0, e0, g⟩ := gSlice_elim g
  obtain ⟨x6, e6, g⟩ := gInt_elim g
  obtain ⟨x7, e7, g⟩ := gInt_elim g
  obtain ⟨a8, l8, c8, e8, g⟩ := gSlice_elim g
  obtain ⟨x29, e29, g⟩ := gInt_elim g
  obtain ⟨x30, e30, g⟩ := gInt_elim g
  exact g
theorem B6.ok (R : Rt) (fr : Fr) (h : Hp) (g : L4.g (fun a0 l0 c0 x6 x7 a8 l8 c8 x29 x30 h => ∃ n, L4.t R n a0 l0 c0 x6 x7 a8 l8 c8 x29 x30 h) fr h) : den prog E (cAt C [true, true, true, true, true, true, false, true]) (Ex.then (D2.g R) (retQ E [.tmp 4, .tmp 5] R)) fr h :=
  den_block (by kernel_rfl) (L4.ok R fr h g)
def D3.t (R : Rt) (a0 : Option Addr) (l0 : Nat) (c0 : Nat) (x6 : Int) (x7 : Int) (a8 : Option Addr) (l8 : Nat) (c8 : Nat) (h : Hp) : Prop :=
  (∃ n, L4.t R n a0 l0 c0 x6 x7 a8 l8 c8 (((l8 : Nat) : Int)) 0 h)
def D3.g (R : Rt) (fr : Fr) (h : Hp) : Prop := gSlice (fr 0) fun a0 l0 c0 => gInt .i64 (fr 6) fun x6 => gInt .i64 (fr 7) fun x7 => gSlice (fr 8) fun a8 l8 c8 => D3.t R a0 l0 c0 x6 x7 a8 l8 c8 h
theorem D3.ok (R : Rt) (fr : Fr) (h : Hp) (g : D3.g R fr h) : den prog E (cAt C [true, true, true, true, true, true, false]) (Ex.then (D2.g R) (retQ E [.tmp 4, .tmp 5] R)) fr h := by
  obtain ⟨a0, l0, c0, e0, g⟩ := gSlice_elim g
  obtain ⟨x6, e6, g⟩ := gInt_elim g
  obtain ⟨x7, e7, g⟩ := gInt_elim g
  obtain ⟨a8, l8, c8, e8, g⟩ := gSlice_elim g
  exact den_cut 1 (r := (cAt C [true, true, true, true, true, true, false, true])) (by kernel_rfl) (B6.ok R) (den_enter [(0, .slice a0 l0 c0), (6, .int .i64 x6), (7, .int .i64 x7), (8, .slice a8 l8 c8)] ⟨e0, e6, e7, e8, trivial⟩ (by kernel_rfl) g)
theorem W7.ok (R : Rt) (fr : Fr) (h : Hp) (g : D3.g R fr h) : den prog E (cAt C [true, true, true, true, true, true]) (retQ E [.tmp 4, .tmp 5] R) fr h :=
  den_then (by kernel_rfl) (D2.ok R) (D3.ok R fr h g)
def D1.t (R : Rt) (a0 : Option Addr) (l0 : Nat) (c0 : Nat) (x1 : Int) (h : Hp) : Prop :=
  cond (decide (x1 < 0)) (R (.tuple #[.slice none 0 0, .int .i64 1]) h) (HC nat_Form.id #[.slice a0 l0 c0] h fun v1 h2 =>
  gBool v1 fun b_3 =>
  cond (!b_3) (R (.tuple #[.slice none 0 0, .int .i64 2]) h2) ((64 : Int) ≠ 0 ∧ letK (IntKind.i64.wrap (Int.tdiv x1 64)) fun n4 =>
  (64 : Int) ≠ 0 ∧ letK (Int.tmod x1 64) fun n5 =>
  cond (decide (n4 ≥ (((l0 : Nat) : Int)))) (R (.tuple #[.slice none 0 0, .int .i64 0]) h2) (letK (IntKind.i64.wrap ((((l0 : Nat) : Int)) - n4)) fun n6 =>
  mkK h2 48 T48 n6 n6 fun q7 h8 =>
  D3.t R a0 l0 c0 n4 n5 (some q7) n6.toNat n6.toNat h8)))
def D1.g (R : Rt) (fr : Fr) (h : Hp) : Prop := gSlice (fr 0) fun a0 l0 c0 => gInt .i64 (fr 1) fun x1 => D1.t R a0 l0 c0 x1 h
theorem D1.ok (R : Rt) (fr : Fr) (h : Hp) (g : D1.g R fr h) : den prog E C (retQ E [.tmp 4, .tmp 5] R) fr h := by
  obtain ⟨a0, l0, c0, e0, g⟩ := gSlice_elim g
  obtain ⟨x1, e1, g⟩ := gInt_elim g
  exact den_cut 6 (r := (cAt C [true, true, true, true, true, true])) (by kernel_rfl) (W7.ok R) (den_enter [(0, .slice a0 l0 c0), (1, .int .i64 x1)] ⟨e0, e1, trivial⟩ (by kernel_rfl) g)
def t (a0 : Option Addr) (l0 : Nat) (c0 : Nat) (x1 : Int) (h : Hp) (R : Rt) : Prop := D1.t R a0 l0 c0 x1 h
theorem ok {a0 : Option Addr} {l0 : Nat} {c0 : Nat} {x1 : Int} {h : Hp} {R : Rt} (g : t a0 l0 c0 x1 h R) : HC id #[.slice a0 l0 c0, .int .i64 x1] h R :=
  calls_of_den' envOk (c := C) (rs := [.tmp 4, .tmp 5]) Tryz.func70 (by kernel_rfl) (by kernel_rfl) (by kernel_rfl) (args := [.slice a0 l0 c0, .int .i64 x1]) (by kernel_rfl) (D1.ok R _ h (gSlice_intro rfl (gInt_intro rfl (g))))
end nat_Shr

namespace nat_Trail
noncomputable def C : Code := bodyOf Tryz.f71
def D2.t (R : Rt)  (h : Hp) : Prop :=
  R (.int .i64 0) h
def D2.g (R : Rt) (fr : Fr) (h : Hp) : Prop := D2.t R  h
theorem D2.ok (R : Rt) (fr : Fr) (h : Hp) (g : D2.g R fr h) : den prog E (cAt C [true, true]) (retQ E [.tmp 2] R) fr h := by
  exact den_enter [] trivial (by kernel_rfl) g
def L4.g (N : Option Addr → Nat → Nat → Int → Int → Hp → Prop) (fr : Fr) (h : Hp) : Prop := gSlice (fr 0) fun a0 l0 c0 => gInt .i64 (fr 5) fun x5 => gInt .i64 (fr 6) fun x6 => N a0 l0 c0 x5 x6 h
def D5.t (R : Rt) (N4 : Option Addr → Nat → Nat → Int → Int → Hp → Prop) (a0 : Option Addr) (l0 : Nat) (c0 : Nat) (x5 : Int) (x6 : Int) (h : Hp) : Prop :=
  cond (decide (x6 < x5)) (idxK a0 l0 x6 1 fun q1 =>
  ldK h q1 fun v2 =>
  gInt .u64 v2 fun x_3 =>
  cond (x_3 != 0) (letK (IntKind.i64.wrap (64 * x6)) fun n4 =>
  idxK a0 l0 x6 1 fun q5 =>
  ldK h q5 fun v6 =>
  gInt .u64 v6 fun x_7 =>
  HC bits_TrailingZeros64.id #[.int .u64 x_7] h fun v8 h9 =>
  gInt .i64 v8 fun x_10 =>
  letK (IntKind.i64.wrap (n4 + x_10)) fun n11 =>
  R (.int .i64 n11) h9) (letK (IntKind.i64.wrap (x6 + 1)) fun n12 =>
  N4 a0 l0 c0 x5 n12 h)) (D2.t R h)
def D5.g (R : Rt) (N4 : Option Addr → Nat → Nat → Int → Int → Hp → Prop) (fr : Fr) (h : Hp) : Prop := gSlice (fr 0) fun a0 l0 c0 => gInt .i64 (fr 5) fun x5 => gInt .i64 (fr 6) fun x6 => D5.t R N4 a0 l0 c0 x5 x6 h
theorem D5.ok (R : Rt) (N4 : Option Addr → Nat → Nat → Int → Int → Hp → Prop) (fr : Fr) (h : Hp) (g : D5.g R N4 fr h) : den prog E (cAt C [true, false, true, false, false]) (Ex.then (L4.g N4) (Ex.inBlock 0 (Ex.then (D2.g R) (retQ E [.tmp 2] R)))) fr h := by
  obtain ⟨a0, l0, c0, e0, g⟩ := gSlice_elim g
  obtain ⟨x5, e5, g⟩ := gInt_elim g
  obtain ⟨x6, e6, g⟩ := gInt_elim g
  exact den_enter [(0, .slice a0 l0 c0), (5, .int .i64 x5), (6, .int .i64 x6)] ⟨e0, e5, e6, trivial⟩ (by kernel_rfl) g
def L4.t (R : Rt) : Nat → Option Addr → Nat → Nat → Int → Int → Hp → Prop
  | 0 => fun _ _ _ _ _ _ => False
  | n + 1 => fun a0 l0 c0 x5 x6 h => D5.t R (L4.t R n) a0 l0 c0 x5 x6 h
theorem L4.ok (R : Rt) (fr : Fr) (h : Hp) (g : L4.g (fun a0 l0 c0 x5 x6 h => ∃ n, L4.t R n a0 l0 c0 x5 x6 h) fr h) : den prog E (cAt C [true, false, true, false]) (Ex.inBlock 0 (Ex.then (D2.g R) (retQ E [.tmp 2] R))) fr h := by
  obtain ⟨a0, l0, c0, e0, g⟩ := gSlice_elim g
  obtain ⟨x5, e5, g⟩ := gInt_elim g
  obtain ⟨x6, e6, g⟩ := gInt_elim g
  obtain ⟨n, g⟩ := g
  refine loop_ok (fun n => L4.g (L4.t R n)) (b := (cAt C [true, false, true, false, false])) (by kernel_rfl) (fun fr h g => ?_) (fun n => D5.ok R (L4.t R n)) n fr h (gSlice_intro e0 (gInt_intro e5 (gInt_intro e6 (g))))
  obtain ⟨a0, l0, c0, e0, g⟩ := gSlice_elim g
  obtain ⟨x5, e5, g⟩ := gInt_elim g
  obtain ⟨x6, e6, g⟩ := gInt_elim g
  exact g
theorem B6.ok (R : Rt) (fr : Fr) (h : Hp) (g : L4.g (fun a0 l0 c0 x5 x6 h => ∃ n, L4.t R n a0 l0 c0 x5 x6 h) fr h) : den prog E (cAt C [true, false, true]) (Ex.then (D2.g R) (retQ E [.tmp 2] R)) fr h :=
  den_block (by kernel_rfl) (L4.ok R fr h g)
def D3.t (R : Rt) (a0 : Option Addr) (l0 : Nat) (c0 : Nat) (h : Hp) : Prop :=
  (∃ n, L4.t R n a0 l0 c0 (((l0 : Nat) : Int)) 0 h)
def D3.g (R : Rt) (fr : Fr) (h : Hp) : Prop := gSlice (fr 0) fun a0 l0 c0 => D3.t R a0 l0 c0 h
theorem D3.ok (R : Rt) (fr : Fr) (h : Hp) (g : D3.g R fr h) : den prog E (cAt C [true, false]) (Ex.then (D2.g R) (retQ E [.tmp 2] R)) fr h := by
  obtain ⟨a0, l0, c0, e0, g⟩ := gSlice_elim g
  exact den_cut 1 (r := (cAt C [true, false, true])) (by kernel_rfl) (B6.ok R) (den_enter [(0, .slice a0 l0 c0)] ⟨e0, trivial⟩ (by kernel_rfl) g)
theorem W7.ok (R : Rt) (fr : Fr) (h : Hp) (g : D3.g R fr h) : den prog E (cAt C [true]) (retQ E [.tmp 2] R) fr h :=
  den_then (by kernel_rfl) (D2.ok R) (D3.ok R fr h g)
def D1.t (R : Rt) (a0 : Option Addr) (l0 : Nat) (c0 : Nat) (h : Hp) : Prop :=
  D3.t R a0 l0 c0 h
def D1.g (R : Rt) (fr : Fr) (h : Hp) : Prop := gSlice (fr 0) fun a0 l0 c0 => D1.t R a0 l0 c0 h
theorem D1.ok (R : Rt) (fr : Fr) (h : Hp) (g : D1.g R fr h) : den prog E C (retQ E [.tmp 2] R) fr h := by
  obtain ⟨a0, l0, c0, e0, g⟩ := gSlice_elim g
  exact den_cut 1 (r := (cAt C [true])) (by kernel_rfl) (W7.ok R) (den_enter [(0, .slice a0 l0 c0)] ⟨e0, trivial⟩ (by kernel_rfl) g)
def t (a0 : Option Addr) (l0 : Nat) (c0 : Nat) (h : Hp) (R : Rt) : Prop := D1.t R a0 l0 c0 h
theorem ok {a0 : Option Addr} {l0 : Nat} {c0 : Nat} {h : Hp} {R : Rt} (g : t a0 l0 c0 h R) : HC id #[.slice a0 l0 c0] h R :=
  calls_of_den' envOk (c := C) (rs := [.tmp 2]) Tryz.func71 (by kernel_rfl) (by kernel_rfl) (by kernel_rfl) (args := [.slice a0 l0 c0]) (by kernel_rfl) (D1.ok R _ h (gSlice_intro rfl (g)))
end nat_Trail

namespace nat_Bit
noncomputable def C : Code := bodyOf Tryz.f72
def D2.t (R : Rt) (a0 : Option Addr) (l0 : Nat) (c0 : Nat) (x1 : Int) (h : Hp) : Prop :=
  (64 : Int) ≠ 0 ∧ letK (IntKind.i64.wrap (Int.tdiv x1 64)) fun n2 =>
  idxK a0 l0 n2 1 fun q3 =>
  ldK h q3 fun v4 =>
  gInt .u64 v4 fun x_5 =>
  (64 : Int) ≠ 0 ∧ letK (Int.tmod x1 64) fun n6 =>
  0 ≤ n6 ∧ letK (shrI .u64 x_5 n6) fun n7 =>
  letK (andI .u64 n7 1) fun n8 =>
  R (.bool (n8 == 1)) h
def D2.g (R : Rt) (fr : Fr) (h : Hp) : Prop := gSlice (fr 0) fun a0 l0 c0 => gInt .i64 (fr 1) fun x1 => D2.t R a0 l0 c0 x1 h
theorem D2.ok (R : Rt) (fr : Fr) (h : Hp) (g : D2.g R fr h) : den prog E (cAt C [true, true]) (retQ E [.tmp 4] R) fr h := by
  obtain ⟨a0, l0, c0, e0, g⟩ := gSlice_elim g
  obtain ⟨x1, e1, g⟩ := gInt_elim g
  exact den_enter [(0, .slice a0 l0 c0), (1, .int .i64 x1)] ⟨e0, e1, trivial⟩ (by kernel_rfl) g
def D1.t (R : Rt) (a0 : Option Addr) (l0 : Nat) (c0 : Nat) (x1 : Int) (h : Hp) : Prop :=
  cond (decide (x1 < 0)) (R (.bool false) h) ((64 : Int) ≠ 0 ∧ letK (IntKind.i64.wrap (Int.tdiv x1 64)) fun n1 =>
  cond (decide (n1 ≥ (((l0 : Nat) : Int)))) (R (.bool false) h) (D2.t R a0 l0 c0 x1 h))
def D1.g (R : Rt) (fr : Fr) (h : Hp) : Prop := gSlice (fr 0) fun a0 l0 c0 => gInt .i64 (fr 1) fun x1 => D1.t R a0 l0 c0 x1 h
theorem D1.ok (R : Rt) (fr : Fr) (h : Hp) (g : D1.g R fr h) : den prog E C (retQ E [.tmp 4] R) fr h := by
  obtain ⟨a0, l0, c0, e0, g⟩ := gSlice_elim g
  obtain ⟨x1, e1, g⟩ := gInt_elim g
  exact den_cut 2 (r := (cAt C [true, true])) (by kernel_rfl) (D2.ok R) (den_enter [(0, .slice a0 l0 c0), (1, .int .i64 x1)] ⟨e0, e1, trivial⟩ (by kernel_rfl) g)
def t (a0 : Option Addr) (l0 : Nat) (c0 : Nat) (x1 : Int) (h : Hp) (R : Rt) : Prop := D1.t R a0 l0 c0 x1 h
theorem ok {a0 : Option Addr} {l0 : Nat} {c0 : Nat} {x1 : Int} {h : Hp} {R : Rt} (g : t a0 l0 c0 x1 h R) : HC id #[.slice a0 l0 c0, .int .i64 x1] h R :=
  calls_of_den' envOk (c := C) (rs := [.tmp 4]) Tryz.func72 (by kernel_rfl) (by kernel_rfl) (by kernel_rfl) (args := [.slice a0 l0 c0, .int .i64 x1]) (by kernel_rfl) (D1.ok R _ h (gSlice_intro rfl (gInt_intro rfl (g))))
end nat_Bit

namespace nat_Norm
noncomputable def C : Code := bodyOf Tryz.f73
def D1.t (R : Rt) (a0 : Option Addr) (l0 : Nat) (c0 : Nat) (h : Hp) : Prop :=
  HC nat_trim.id #[.slice a0 l0 c0] h fun v1 h2 =>
  gSlice v1 fun a_3 l_3 c_3 =>
  cond (decide ((((l_3 : Nat) : Int)) > 8192)) (R (.tuple #[.slice none 0 0, .int .i64 5]) h2) (mkK h2 48 T48 (((l_3 : Nat) : Int)) (((l_3 : Nat) : Int)) fun q4 h5 =>
  cpK h5 1 (some q4) ((((l_3 : Nat) : Int)).toNat) (.slice a_3 l_3 c_3) fun n6 h6 =>
  R (.tuple #[.slice (some q4) ((((l_3 : Nat) : Int)).toNat) ((((l_3 : Nat) : Int)).toNat), .int .i64 0]) h6)
def D1.g (R : Rt) (fr : Fr) (h : Hp) : Prop := gSlice (fr 0) fun a0 l0 c0 => D1.t R a0 l0 c0 h
theorem D1.ok (R : Rt) (fr : Fr) (h : Hp) (g : D1.g R fr h) : den prog E C (retQ E [.tmp 2, .tmp 3] R) fr h := by
  obtain ⟨a0, l0, c0, e0, g⟩ := gSlice_elim g
  exact den_enter [(0, .slice a0 l0 c0)] ⟨e0, trivial⟩ (by kernel_rfl) g
def t (a0 : Option Addr) (l0 : Nat) (c0 : Nat) (h : Hp) (R : Rt) : Prop := D1.t R a0 l0 c0 h
theorem ok {a0 : Option Addr} {l0 : Nat} {c0 : Nat} {h : Hp} {R : Rt} (g : t a0 l0 c0 h R) : HC id #[.slice a0 l0 c0] h R :=
  calls_of_den' envOk (c := C) (rs := [.tmp 2, .tmp 3]) Tryz.func73 (by kernel_rfl) (by kernel_rfl) (by kernel_rfl) (args := [.slice a0 l0 c0]) (by kernel_rfl) (D1.ok R _ h (gSlice_intro rfl (g)))
end nat_Norm

namespace nat_DivWord
noncomputable def C : Code := bodyOf Tryz.f74
def D2.t (R : Rt) (a7 : Option Addr) (l7 : Nat) (c7 : Nat) (x8 : Int) (h : Hp) : Prop :=
  HC nat_told.id #[.slice a7 l7 c7] h fun v6 h7 =>
  gTup v6 fun y8 =>
  uncons y8 fun v9 y9 =>
  gSlice v9 fun a_10 l_10 c_10 =>
  uncons y9 fun v11 y11 =>
  gInt .i64 v11 fun x_12 =>
  unnil y11 <| R (.tuple #[.slice a_10 l_10 c_10, .int .u64 x8, .int .i64 0]) h7
def D2.g (R : Rt) (fr : Fr) (h : Hp) : Prop := gSlice (fr 7) fun a7 l7 c7 => gInt .u64 (fr 8) fun x8 => D2.t R a7 l7 c7 x8 h
theorem D2.ok (R : Rt) (fr : Fr) (h : Hp) (g : D2.g R fr h) : den prog E (cAt C [true, true, true, true, true, true]) (retQ E [.tmp 4, .tmp 5, .tmp 6] R) fr h := by
  obtain ⟨a7, l7, c7, e7, g⟩ := gSlice_elim g
  obtain ⟨x8, e8, g⟩ := gInt_elim g
  exact den_enter [(7, .slice a7 l7 c7), (8, .int .u64 x8)] ⟨e7, e8, trivial⟩ (by kernel_rfl) g
def L4.g (N : Option Addr → Nat → Nat → Int → Option Addr → Nat → Nat → Int → Int → Hp → Prop) (fr : Fr) (h : Hp) : Prop := gSlice (fr 0) fun a0 l0 c0 => gInt .u64 (fr 1) fun x1 => gSlice (fr 7) fun a7 l7 c7 => gInt .u64 (fr 8) fun x8 => gInt .i64 (fr 9) fun x9 => N a0 l0 c0 x1 a7 l7 c7 x8 x9 h
def D5.t (R : Rt) (N4 : Option Addr → Nat → Nat → Int → Option Addr → Nat → Nat → Int → Int → Hp → Prop) (a0 : Option Addr) (l0 : Nat) (c0 : Nat) (x1 : Int) (a7 : Option Addr) (l7 : Nat) (c7 : Nat) (x8 : Int) (x9 : Int) (h : Hp) : Prop :=
  cond (decide (x9 ≥ 0)) (idxK a0 l0 x9 1 fun q14 =>
  ldK h q14 fun v15 =>
  gInt .u64 v15 fun x_16 =>
  HC bits_Div64.id #[.int .u64 x8, .int .u64 x_16, .int .u64 x1] h fun v17 h18 =>
  gTup v17 fun y19 =>
  uncons y19 fun v20 y20 =>
  gInt .u64 v20 fun x_21 =>
  uncons y20 fun v22 y22 =>
  gInt .u64 v22 fun x_23 =>
  unnil y22 <| idxK a7 l7 x9 1 fun q24 =>
  stK h18 q24 (.int .u64 x_21) fun h25 =>
  letK (IntKind.i64.wrap (x9 - 1)) fun n26 =>
  N4 a0 l0 c0 x1 a7 l7 c7 x_23 n26 h25) (D2.t R a7 l7 c7 x8 h)
def D5.g (R : Rt) (N4 : Option Addr → Nat → Nat → Int → Option Addr → Nat → Nat → Int → Int → Hp → Prop) (fr : Fr) (h : Hp) : Prop := gSlice (fr 0) fun a0 l0 c0 => gInt .u64 (fr 1) fun x1 => gSlice (fr 7) fun a7 l7 c7 => gInt .u64 (fr 8) fun x8 => gInt .i64 (fr 9) fun x9 => D5.t R N4 a0 l0 c0 x1 a7 l7 c7 x8 x9 h
theorem D5.ok (R : Rt) (N4 : Option Addr → Nat → Nat → Int → Option Addr → Nat → Nat → Int → Int → Hp → Prop) (fr : Fr) (h : Hp) (g : D5.g R N4 fr h) : den prog E (cAt C [true, true, true, true, true, false, true, false, false]) (Ex.then (L4.g N4) (Ex.inBlock 0 (Ex.then (D2.g R) (retQ E [.tmp 4, .tmp 5, .tmp 6] R)))) fr h := by
  obtain ⟨a0, l0, c0, e0, g⟩ := gSlice_elim g
  obtain ⟨x1, e1, g⟩ := gInt_elim g
  obtain ⟨a7, l7, c7, e7, g⟩ := gSlice_elim g
  obtain ⟨x8, e8, g⟩ := gInt_elim g
  obtain ⟨x9, e9, g⟩ := gInt_elim g
  exact den_enter [(0, .slice a0 l0 c0), (1, .int .u64 x1), (7, .slice a7 l7 c7), (8, .int .u64 x8), (9, .int .i64 x9)] ⟨e0, e1, e7, e8, e9, trivial⟩ (by kernel_rfl) g
def L4.t (R : Rt) : Nat → Option Addr → Nat → Nat → Int → Option Addr → Nat → Nat → Int → Int → Hp → Prop
  | 0 => fun _ _ _ _ _ _ _ _ _ _ => False
  | n + 1 => fun a0 l0 c0 x1 a7 l7 c7 x8 x9 h => D5.t R (L4.t R n) a0 l0 c0 x1 a7 l7 c7 x8 x9 h
theorem L4.ok (R : Rt) (fr : Fr) (h : Hp) (g : L4.g (fun a0 l0 c0 x1 a7 l7 c7 x8 x9 h => ∃ n, L4.t R n a0 l0 c0 x1 a7 l7 c7 x8 x9 h) fr h) : den prog E (cAt C [true, true, true, true, true, false, true, false]) (Ex.inBlock 0 (Ex.then (D2.g R) (retQ E [.tmp 4, .tmp 5, .tmp 6] R))) fr h := by
  obtain ⟨a0, l0, c0, e0, g⟩ := gSlice_elim g
  obtain ⟨x1, e1, g⟩ := gInt_elim g
  obtain ⟨a7, l7, c7, e7, g⟩ := gSlice_elim g
  obtain ⟨x8, e8, g⟩ := gInt_elim g
  obtain ⟨x9, e9, g⟩ := gInt_elim g
  obtain ⟨n, g⟩ := g
  refine loop_ok (fun n => L4.g (L4.t R n)) (b := (cAt C [true, true, true, true, true, false, true, false, false])) (by kernel_rfl) (fun fr h g => ?_) (fun n => D5.ok R (L4.t R n)) n fr h (gSlice_intro e0 (gInt_intro e1 (gSlice_intro e7 (gInt_intro e8 (gInt_intro e9 (g))))))
  obtain ⟨a0, l0, c0, e0, g⟩ := gSlice_elim g
  obtain ⟨x1, e1, g⟩ := gInt_elim g
  obtain ⟨a7, l7, c7, e7, g⟩ := gSlice_elim g
  obtain ⟨x8, e8, g⟩ := gInt_elim g
  obtain ⟨x9, e9, g⟩ := gInt_elim g
  exact g
theorem B6.ok (R : Rt) (fr : Fr) (h : Hp) (g : L4.g (fun a0 l0 c0 x1 a7 l7 c7 x8 x9 h => ∃ n, L4.t R n a0 l0 c0 x1 a7 l7 c7 x8 x9 h) fr h) : den prog E (cAt C [true, true, true, true, true, false, true]) (Ex.then (D2.g R) (retQ E [.tmp 4, .tmp 5, .tmp 6] R)) fr h :=
  den_block (by kernel_rfl) (L4.ok R fr h g)
def D3.t (R : Rt) (a0 : Option Addr) (l0 : Nat) (c0 : Nat) (x1 : Int) (a7 : Option Addr) (l7 : Nat) (c7 : Nat) (x8 : Int) (h : Hp) : Prop :=
  letK (IntKind.i64.wrap ((((l0 : Nat) : Int)) - 1)) fun n13 => (∃ n, L4.t R n a0 l0 c0 x1 a7 l7 c7 x8 n13 h)
def D3.g (R : Rt) (fr : Fr) (h : Hp) : Prop := gSlice (fr 0) fun a0 l0 c0 => gInt .u64 (fr 1) fun x1 => gSlice (fr 7) fun a7 l7 c7 => gInt .u64 (fr 8) fun x8 => D3.t R a0 l0 c0 x1 a7 l7 c7 x8 h
theorem D3.ok (R : Rt) (fr : Fr) (h : Hp) (g : D3.g R fr h) : den prog E (cAt C [true, true, true, true, true, false]) (Ex.then (D2.g R) (retQ E [.tmp 4, .tmp 5, .tmp 6] R)) fr h := by
  obtain ⟨a0, l0, c0, e0, g⟩ := gSlice_elim g
  obtain ⟨x1, e1, g⟩ := gInt_elim g
  obtain ⟨a7, l7, c7, e7, g⟩ := gSlice_elim g
  obtain ⟨x8, e8, g⟩ := gInt_elim g
  exact den_cut 1 (r := (cAt C [true, true, true, true, true, false, true])) (by kernel_rfl) (B6.ok R) (den_enter [(0, .slice a0 l0 c0), (1, .int .u64 x1), (7, .slice a7 l7 c7), (8, .int .u64 x8)] ⟨e0, e1, e7, e8, trivial⟩ (by kernel_rfl) g)
theorem W7.ok (R : Rt) (fr : Fr) (h : Hp) (g : D3.g R fr h) : den prog E (cAt C [true, true, true, true, true]) (retQ E [.tmp 4, .tmp 5, .tmp 6] R) fr h :=
  den_then (by kernel_rfl) (D2.ok R) (D3.ok R fr h g)
def D1.t (R : Rt) (a0 : Option Addr) (l0 : Nat) (c0 : Nat) (x1 : Int) (h : Hp) : Prop :=
  HC nat_Form.id #[.slice a0 l0 c0] h fun v1 h2 =>
  gBool v1 fun b_3 =>
  cond (!b_3) (R (.tuple #[.slice none 0 0, .int .u64 0, .int .i64 2]) h2) (cond (x1 == 0) (R (.tuple #[.slice none 0 0, .int .u64 0, .int .i64 4]) h2) (mkK h2 48 T48 (((l0 : Nat) : Int)) (((l0 : Nat) : Int)) fun q4 h5 =>
  D3.t R a0 l0 c0 x1 (some q4) ((((l0 : Nat) : Int)).toNat) ((((l0 : Nat) : Int)).toNat) 0 h5))
def D1.g (R : Rt) (fr : Fr) (h : Hp) : Prop := gSlice (fr 0) fun a0 l0 c0 => gInt .u64 (fr 1) fun x1 => D1.t R a0 l0 c0 x1 h
theorem D1.ok (R : Rt) (fr : Fr) (h : Hp) (g : D1.g R fr h) : den prog E C (retQ E [.tmp 4, .tmp 5, .tmp 6] R) fr h := by
  obtain ⟨a0, l0, c0, e0, g⟩ := gSlice_elim g
  obtain ⟨x1, e1, g⟩ := gInt_elim g
  exact den_cut 5 (r := (cAt C [true, true, true, true, true])) (by kernel_rfl) (W7.ok R) (den_enter [(0, .slice a0 l0 c0), (1, .int .u64 x1)] ⟨e0, e1, trivial⟩ (by kernel_rfl) g)
def t (a0 : Option Addr) (l0 : Nat) (c0 : Nat) (x1 : Int) (h : Hp) (R : Rt) : Prop := D1.t R a0 l0 c0 x1 h
theorem ok {a0 : Option Addr} {l0 : Nat} {c0 : Nat} {x1 : Int} {h : Hp} {R : Rt} (g : t a0 l0 c0 x1 h R) : HC id #[.slice a0 l0 c0, .int .u64 x1] h R :=
  calls_of_den' envOk (c := C) (rs := [.tmp 4, .tmp 5, .tmp 6]) Tryz.func74 (by kernel_rfl) (by kernel_rfl) (by kernel_rfl) (args := [.slice a0 l0 c0, .int .u64 x1]) (by kernel_rfl) (D1.ok R _ h (gSlice_intro rfl (gInt_intro rfl (g))))
end nat_DivWord

namespace bits_LeadingZeros64
noncomputable def C : Code := bodyOf Tryz.f75
def D1.t (R : Rt) (x0 : Int) (h : Hp) : Prop :=
  HC bits_Len64.id #[.int .u64 x0] h fun v1 h2 =>
  gInt .i64 v1 fun x_3 =>
  letK (IntKind.i64.wrap (64 - x_3)) fun n4 =>
  R (.int .i64 n4) h2
def D1.g (R : Rt) (fr : Fr) (h : Hp) : Prop := gInt .u64 (fr 0) fun x0 => D1.t R x0 h
theorem D1.ok (R : Rt) (fr : Fr) (h : Hp) (g : D1.g R fr h) : den prog E C (retQ E [.tmp 2] R) fr h := by
  obtain ⟨x0, e0, g⟩ := gInt_elim g
  exact den_enter [(0, .int .u64 x0)] ⟨e0, trivial⟩ (by kernel_rfl) g
def t (x0 : Int) (h : Hp) (R : Rt) : Prop := D1.t R x0 h
theorem ok {x0 : Int} {h : Hp} {R : Rt} (g : t x0 h R) : HC id #[.int .u64 x0] h R :=
  calls_of_den' envOk (c := C) (rs := [.tmp 2]) Tryz.func75 (by kernel_rfl) (by kernel_rfl) (by kernel_rfl) (args := [.int .u64 x0]) (by kernel_rfl) (D1.ok R _ h (gInt_intro rfl (g)))
end bits_LeadingZeros64

namespace natdiv_shifted
noncomputable def C : Code := bodyOf Tryz.f76
def D2.t (R : Rt) (a7 : Option Addr) (l7 : Nat) (c7 : Nat) (h : Hp) : Prop :=
  R (.slice a7 l7 c7) h
def D2.g (R : Rt) (fr : Fr) (h : Hp) : Prop := gSlice (fr 7) fun a7 l7 c7 => D2.t R a7 l7 c7 h
theorem D2.ok (R : Rt) (fr : Fr) (h : Hp) (g : D2.g R fr h) : den prog E (cAt C [true, true, true, true, true, true]) (retQ E [.tmp 6] R) fr h := by
  obtain ⟨a7, l7, c7, e7, g⟩ := gSlice_elim g
  exact den_enter [(7, .slice a7 l7 c7)] ⟨e7, trivial⟩ (by kernel_rfl) g
def L4.g (N : Int → Option Addr → Nat → Nat → Int → Int → Int → Hp → Prop) (fr : Fr) (h : Hp) : Prop := gInt .i64 (fr 1) fun x1 => gSlice (fr 7) fun a7 l7 c7 => gInt .u64 (fr 8) fun x8 => gInt .i64 (fr 19) fun x19 => gInt .i64 (fr 20) fun x20 => N x1 a7 l7 c7 x8 x19 x20 h
def D5.t (R : Rt) (N4 : Int → Option Addr → Nat → Nat → Int → Int → Int → Hp → Prop) (x1 : Int) (a7 : Option Addr) (l7 : Nat) (c7 : Nat) (x8 : Int) (x19 : Int) (x20 : Int) (h : Hp) : Prop :=
  cond (decide (x20 < x19)) (idxK a7 l7 x20 1 fun q4 =>
  ldK h q4 fun v5 =>
  gInt .u64 v5 fun x_6 =>
  0 ≤ x1 ∧ letK (shlI .u64 x_6 x1) fun n7 =>
  letK (orI .u64 n7 x8) fun n8 =>
  idxK a7 l7 x20 1 fun q9 =>
  ldK h q9 fun v10 =>
  gInt .u64 v10 fun x_11 =>
  letK (IntKind.i64.wrap (64 - x1)) fun n12 =>
  0 ≤ n12 ∧ letK (shrI .u64 x_11 n12) fun n13 =>
  idxK a7 l7 x20 1 fun q14 =>
  stK h q14 (.int .u64 n8) fun h15 =>
  letK (IntKind.i64.wrap (x20 + 1)) fun n16 =>
  N4 x1 a7 l7 c7 n13 x19 n16 h15) (D2.t R a7 l7 c7 h)
def D5.g (R : Rt) (N4 : Int → Option Addr → Nat → Nat → Int → Int → Int → Hp → Prop) (fr : Fr) (h : Hp) : Prop := gInt .i64 (fr 1) fun x1 => gSlice (fr 7) fun a7 l7 c7 => gInt .u64 (fr 8) fun x8 => gInt .i64 (fr 19) fun x19 => gInt .i64 (fr 20) fun x20 => D5.t R N4 x1 a7 l7 c7 x8 x19 x20 h
theorem D5.ok (R : Rt) (N4 : Int → Option Addr → Nat → Nat → Int → Int → Int → Hp → Prop) (fr : Fr) (h : Hp) (g : D5.g R N4 fr h) : den prog E (cAt C [true, true, true, true, true, false, true, false, false]) (Ex.then (L4.g N4) (Ex.inBlock 0 (Ex.then (D2.g R) (retQ E [.tmp 6] R)))) fr h := by
  obtain ⟨x1, e1, g⟩ := gInt_elim g
  obtain ⟨a7, l7, c7, e7, g⟩ := gSlice_elim g
  obtain ⟨x8, e8, g⟩ := gInt_elim g
  obtain ⟨x19, e19, g⟩ := gInt_elim g
  obtain ⟨x20, e20, g⟩ := gInt_elim g
  exact den_enter [(1, .int .i64 x1), (7, .slice a7 l7 c7), (8, .int .u64 x8), (19, .int .i64 x19), (20, .int .i64 x20)] ⟨e1, e7, e8, e19, e20, trivial⟩ (by kernel_rfl) g
def L4.t (R : Rt) : Nat → Int → Option Addr → Nat → Nat → Int → Int → Int → Hp → Prop
  | 0 => fun _ _ _ _ _ _ _ _ => False
  | n + 1 => fun x1 a7 l7 c7 x8 x19 x20 h => D5.t R (L4.t R n) x1 a7 l7 c7 x8 x19 x20 h
theorem L4.ok (R : Rt) (fr : Fr) (h : Hp) (g : L4.g (fun x1 a7 l7 c7 x8 x19 x20 h => ∃ n, L4.t R n x1 a7 l7 c7 x8 x19 x20 h) fr h) : den prog E (cAt C [true, true, true, true, true, false, true, false]) (Ex.inBlock 0 (Ex.then (D2.g R) (retQ E [.tmp 6] R))) fr h := by
  obtain ⟨x1, e1, g⟩ := gInt_elim g
  obtain ⟨a7, l7, c7, e7, g⟩ := gSlice_elim g
  obtain ⟨x8, e8, g⟩ := gInt_elim g
  obtain ⟨x19, e19, g⟩ := gInt_elim g
  obtain ⟨x20, e20, g⟩ := gInt_elim g
  obtain ⟨n, g⟩ := g
  refine loop_ok (fun n => L4.g (L4.t R n)) (b := (cAt C [true, true, true, true, true, false, true, false, false])) (by kernel_rfl) (fun fr h g => ?_) (fun n => D5.ok R (L4.t R n)) n fr h (gInt_intro e1 (gSlice_intro e7 (gInt_intro e8 (gInt_intro e19 (gInt_intro e20 (g))))))
  obtain ⟨x1, e1, g⟩ := gInt_elim g
  obtain ⟨a7, l7, c7, e7, g⟩ := gSlice_elim g
  obtain ⟨x8, e8, g⟩ := gInt_elim g
  obtain ⟨x19, e19, g⟩ := gInt_elim g
  obtain ⟨x20, e20, g⟩ := gInt_elim g
  exact g
theorem B6.ok (R : Rt) (fr : Fr) (h : Hp) (g : L4.g (fun x1 a7 l7 c7 x8 x19 x20 h => ∃ n, L4.t R n x1 a7 l7 c7 x8 x19 x20 h) fr h) : den prog E (cAt C [true, true, true, true, true, false, true]) (Ex.then (D2.g R) (retQ E [.tmp 6] R)) fr h :=
  den_block (by kernel_rfl) (L4.ok R fr h g)
def D3.t (R : Rt) (x1 : Int) (a7 : Option Addr) (l7 : Nat) (c7 : Nat) (x8 : Int) (h : Hp) : Prop :=
  (∃ n, L4.t R n x1 a7 l7 c7 x8 (((l7 : Nat) : Int)) 0 h)
def D3.g (R : Rt) (fr : Fr) (h : Hp) : Prop := gInt .i64 (fr 1) fun x1 => gSlice (fr 7) fun a7 l7 c7 => gInt .u64 (fr 8) fun x8 => D3.t R x1 a7 l7 c7 x8 h
theorem D3.ok (R : Rt) (fr : Fr) (h : Hp) (g : D3.g R fr h) : den prog E (cAt C [true, true, true, true, true, false]) (Ex.then (D2.g R) (retQ E [.tmp 6] R)) fr h := by
  obtain ⟨x1, e1, g⟩ := gInt_elim g
  obtain ⟨a7, l7, c7, e7, g⟩ := gSlice_elim g
  obtain ⟨x8, e8, g⟩ := gInt_elim g
  exact den_cut 1 (r := (cAt C [true, true, true, true, true, false, true])) (by kernel_rfl) (B6.ok R) (den_enter [(1, .int .i64 x1), (7, .slice a7 l7 c7), (8, .int .u64 x8)] ⟨e1, e7, e8, trivial⟩ (by kernel_rfl) g)
theorem W7.ok (R : Rt) (fr : Fr) (h : Hp) (g : D3.g R fr h) : den prog E (cAt C [true, true, true, true, true]) (retQ E [.tmp 6] R) fr h :=
  den_then (by kernel_rfl) (D2.ok R) (D3.ok R fr h g)
def D1.t (R : Rt) (a0 : Option Addr) (l0 : Nat) (c0 : Nat) (x1 : Int) (x2 : Int) (h : Hp) : Prop :=
  mkK h 48 T48 x2 x2 fun q1 h2 =>
  cpK h2 1 (some q1) x2.toNat (.slice a0 l0 c0) fun n3 h3 =>
  cond (x1 == 0) (R (.slice (some q1) x2.toNat x2.toNat) h3) (D3.t R x1 (some q1) x2.toNat x2.toNat 0 h3)
def D1.g (R : Rt) (fr : Fr) (h : Hp) : Prop := gSlice (fr 0) fun a0 l0 c0 => gInt .i64 (fr 1) fun x1 => gInt .i64 (fr 2) fun x2 => D1.t R a0 l0 c0 x1 x2 h
theorem D1.ok (R : Rt) (fr : Fr) (h : Hp) (g : D1.g R fr h) : den prog E C (retQ E [.tmp 6] R) fr h := by
  obtain ⟨a0, l0, c0, e0, g⟩ := gSlice_elim g
  obtain ⟨x1, e1, g⟩ := gInt_elim g
  obtain ⟨x2, e2, g⟩ := gInt_elim g
  exact den_cut 5 (r := (cAt C [true, true, true, true, true])) (by kernel_rfl) (W7.ok R) (den_enter [(0, .slice a0 l0 c0), (1, .int .i64 x1), (2, .int .i64 x2)] ⟨e0, e1, e2, trivial⟩ (by kernel_rfl) g)
def t (a0 : Option Addr) (l0 : Nat) (c0 : Nat) (x1 : Int) (x2 : Int) (h : Hp) (R : Rt) : Prop := D1.t R a0 l0 c0 x1 x2 h
theorem ok {a0 : Option Addr} {l0 : Nat} {c0 : Nat} {x1 : Int} {x2 : Int} {h : Hp} {R : Rt} (g : t a0 l0 c0 x1 x2 h R) : HC id #[.slice a0 l0 c0, .int .i64 x1, .int .i64 x2] h R :=
  calls_of_den' envOk (c := C) (rs := [.tmp 6]) Tryz.func76 (by kernel_rfl) (by kernel_rfl) (by kernel_rfl) (args := [.slice a0 l0 c0, .int .i64 x1, .int .i64 x2]) (by kernel_rfl) (D1.ok R _ h (gSlice_intro rfl (gInt_intro rfl (gInt_intro rfl (g)))))
end natdiv_shifted

namespace natdiv_long
noncomputable def C : Code := bodyOf Tryz.f77
def D3.t (R : Rt) (a6 : Option Addr) (l6 : Nat) (c6 : Nat) (h : Hp) : Prop :=
  R (.slice a6 l6 c6) h
def D3.g (R : Rt) (fr : Fr) (h : Hp) : Prop := gSlice (fr 6) fun a6 l6 c6 => D3.t R a6 l6 c6 h
theorem D3.ok (R : Rt) (fr : Fr) (h : Hp) (g : D3.g R fr h) : den prog E (cAt C [true, false, true, true, true, true]) (retQ E [.tmp 4] R) fr h := by
  obtain ⟨a6, l6, c6, e6, g⟩ := gSlice_elim g
  exact den_enter [(6, .slice a6 l6 c6)] ⟨e6, trivial⟩ (by kernel_rfl) g
def L5.g (N : Option Addr → Nat → Nat → Option Addr → Nat → Nat → Int → Option Addr → Nat → Nat → Int → Hp → Prop) (fr : Fr) (h : Hp) : Prop := gSlice (fr 0) fun a0 l0 c0 => gSlice (fr 1) fun a1 l1 c1 => gInt .i64 (fr 5) fun x5 => gSlice (fr 6) fun a6 l6 c6 => gInt .i64 (fr 7) fun x7 => N a0 l0 c0 a1 l1 c1 x5 a6 l6 c6 x7 h
def D7.t (R : Rt) (N5 : Option Addr → Nat → Nat → Option Addr → Nat → Nat → Int → Option Addr → Nat → Nat → Int → Hp → Prop) (a0 : Option Addr) (l0 : Nat) (c0 : Nat) (a1 : Option Addr) (l1 : Nat) (c1 : Nat) (x5 : Int) (a6 : Option Addr) (l6 : Nat) (c6 : Nat) (x7 : Int) (h : Hp) : Prop :=
  letK (IntKind.i64.wrap (x7 - 1)) fun n6 => N5 a0 l0 c0 a1 l1 c1 x5 a6 l6 c6 n6 h
def D7.g (R : Rt) (N5 : Option Addr → Nat → Nat → Option Addr → Nat → Nat → Int → Option Addr → Nat → Nat → Int → Hp → Prop) (fr : Fr) (h : Hp) : Prop := gSlice (fr 0) fun a0 l0 c0 => gSlice (fr 1) fun a1 l1 c1 => gInt .i64 (fr 5) fun x5 => gSlice (fr 6) fun a6 l6 c6 => gInt .i64 (fr 7) fun x7 => D7.t R N5 a0 l0 c0 a1 l1 c1 x5 a6 l6 c6 x7 h
theorem D7.ok (R : Rt) (N5 : Option Addr → Nat → Nat → Option Addr → Nat → Nat → Int → Option Addr → Nat → Nat → Int → Hp → Prop) (fr : Fr) (h : Hp) (g : D7.g R N5 fr h) : den prog E (cAt C [true, false, true, true, true, false, true, false, false, true, true]) (Ex.then (L5.g N5) (Ex.inBlock 0 (Ex.then (D3.g R) (retQ E [.tmp 4] R)))) fr h := by
  obtain ⟨a0, l0, c0, e0, g⟩ := gSlice_elim g
  obtain ⟨a1, l1, c1, e1, g⟩ := gSlice_elim g
  obtain ⟨x5, e5, g⟩ := gInt_elim g
  obtain ⟨a6, l6, c6, e6, g⟩ := gSlice_elim g
  obtain ⟨x7, e7, g⟩ := gInt_elim g
  exact den_enter [(0, .slice a0 l0 c0), (1, .slice a1 l1 c1), (5, .int .i64 x5), (6, .slice a6 l6 c6), (7, .int .i64 x7)] ⟨e0, e1, e5, e6, e7, trivial⟩ (by kernel_rfl) g
def L9.g (N : Option Addr → Nat → Nat → Option Addr → Nat → Nat → Int → Option Addr → Nat → Nat → Int → Int → Option Addr → Nat → Nat → Hp → Prop) (fr : Fr) (h : Hp) : Prop := gSlice (fr 0) fun a0 l0 c0 => gSlice (fr 1) fun a1 l1 c1 => gInt .i64 (fr 5) fun x5 => gSlice (fr 6) fun a6 l6 c6 => gInt .i64 (fr 7) fun x7 => gInt .u64 (fr 8) fun x8 => gSlice (fr 9) fun a9 l9 c9 => N a0 l0 c0 a1 l1 c1 x5 a6 l6 c6 x7 x8 a9 l9 c9 h
def D10.t (R : Rt) (N5 : Option Addr → Nat → Nat → Option Addr → Nat → Nat → Int → Option Addr → Nat → Nat → Int → Hp → Prop) (N9 : Option Addr → Nat → Nat → Option Addr → Nat → Nat → Int → Option Addr → Nat → Nat → Int → Int → Option Addr → Nat → Nat → Hp → Prop) (a0 : Option Addr) (l0 : Nat) (c0 : Nat) (a1 : Option Addr) (l1 : Nat) (c1 : Nat) (x5 : Int) (a6 : Option Addr) (l6 : Nat) (c6 : Nat) (x7 : Int) (x8 : Int) (a9 : Option Addr) (l9 : Nat) (c9 : Nat) (h : Hp) : Prop :=
  letK (IntKind.u64.wrap (x8 - 1)) fun n31 =>
  HC natdiv_giveBack.id #[.slice a9 l9 c9, .slice a1 l1 c1] h fun v32 h33 =>
  gInt .u64 v32 fun x_34 =>
  cond (x_34 == 1) (idxK a6 l6 x7 1 fun q35 =>
  stK h33 q35 (.int .u64 n31) fun h36 =>
  D7.t R N5 a0 l0 c0 a1 l1 c1 x5 a6 l6 c6 x7 h36) (N9 a0 l0 c0 a1 l1 c1 x5 a6 l6 c6 x7 n31 a9 l9 c9 h33)
def D10.g (R : Rt) (N5 : Option Addr → Nat → Nat → Option Addr → Nat → Nat → Int → Option Addr → Nat → Nat → Int → Hp → Prop) (N9 : Option Addr → Nat → Nat → Option Addr → Nat → Nat → Int → Option Addr → Nat → Nat → Int → Int → Option Addr → Nat → Nat → Hp → Prop) (fr : Fr) (h : Hp) : Prop := gSlice (fr 0) fun a0 l0 c0 => gSlice (fr 1) fun a1 l1 c1 => gInt .i64 (fr 5) fun x5 => gSlice (fr 6) fun a6 l6 c6 => gInt .i64 (fr 7) fun x7 => gInt .u64 (fr 8) fun x8 => gSlice (fr 9) fun a9 l9 c9 => D10.t R N5 N9 a0 l0 c0 a1 l1 c1 x5 a6 l6 c6 x7 x8 a9 l9 c9 h
theorem D10.ok (R : Rt) (N5 : Option Addr → Nat → Nat → Option Addr → Nat → Nat → Int → Option Addr → Nat → Nat → Int → Hp → Prop) (N9 : Option Addr → Nat → Nat → Option Addr → Nat → Nat → Int → Option Addr → Nat → Nat → Int → Int → Option Addr → Nat → Nat → Hp → Prop) (fr : Fr) (h : Hp) (g : D10.g R N5 N9 fr h) : den prog E (cAt C [true, false, true, true, true, false, true, false, false, true, false, false, true, true, true, false, false]) (Ex.then (L9.g N9) (Ex.inBlock 2 (Ex.inBlock 1 (Ex.then (D7.g R N5) (Ex.then (L5.g N5) (Ex.inBlock 0 (Ex.then (D3.g R) (retQ E [.tmp 4] R)))))))) fr h := by
  obtain ⟨a0, l0, c0, e0, g⟩ := gSlice_elim g
  obtain ⟨a1, l1, c1, e1, g⟩ := gSlice_elim g
  obtain ⟨x5, e5, g⟩ := gInt_elim g
  obtain ⟨a6, l6, c6, e6, g⟩ := gSlice_elim g
  obtain ⟨x7, e7, g⟩ := gInt_elim g
  obtain ⟨x8, e8, g⟩ := gInt_elim g
  obtain ⟨a9, l9, c9, e9, g⟩ := gSlice_elim g
  exact den_enter [(0, .slice a0 l0 c0), (1, .slice a1 l1 c1), (5, .int .i64 x5), (6, .slice a6 l6 c6), (7, .int .i64 x7), (8, .int .u64 x8), (9, .slice a9 l9 c9)] ⟨e0, e1, e5, e6, e7, e8, e9, trivial⟩ (by kernel_rfl) g
def L9.t (R : Rt) (N5 : Option Addr → Nat → Nat → Option Addr → Nat → Nat → Int → Option Addr → Nat → Nat → Int → Hp → Prop) : Nat → Option Addr → Nat → Nat → Option Addr → Nat → Nat → Int → Option Addr → Nat → Nat → Int → Int → Option Addr → Nat → Nat → Hp → Prop
  | 0 => fun _ _ _ _ _ _ _ _ _ _ _ _ _ _ _ _ => False
  | n + 1 => fun a0 l0 c0 a1 l1 c1 x5 a6 l6 c6 x7 x8 a9 l9 c9 h => D10.t R N5 (L9.t R N5 n) a0 l0 c0 a1 l1 c1 x5 a6 l6 c6 x7 x8 a9 l9 c9 h
theorem L9.ok (R : Rt) (N5 : Option Addr → Nat → Nat → Option Addr → Nat → Nat → Int → Option Addr → Nat → Nat → Int → Hp → Prop) (fr : Fr) (h : Hp) (g : L9.g (fun a0 l0 c0 a1 l1 c1 x5 a6 l6 c6 x7 x8 a9 l9 c9 h => ∃ n, L9.t R N5 n a0 l0 c0 a1 l1 c1 x5 a6 l6 c6 x7 x8 a9 l9 c9 h) fr h) : den prog E (cAt C [true, false, true, true, true, false, true, false, false, true, false, false, true, true, true, false]) (Ex.inBlock 2 (Ex.inBlock 1 (Ex.then (D7.g R N5) (Ex.then (L5.g N5) (Ex.inBlock 0 (Ex.then (D3.g R) (retQ E [.tmp 4] R))))))) fr h := by
  obtain ⟨a0, l0, c0, e0, g⟩ := gSlice_elim g
  obtain ⟨a1, l1, c1, e1, g⟩ := gSlice_elim g
  obtain ⟨x5, e5, g⟩ := gInt_elim g
  obtain ⟨a6, l6, c6, e6, g⟩ := gSlice_elim g
  obtain ⟨x7, e7, g⟩ := gInt_elim g
  obtain ⟨x8, e8, g⟩ := gInt_elim g
  obtain ⟨a9, l9, c9, e9, g⟩ := gSlice_elim g
  obtain ⟨n, g⟩ := g
  refine loop_ok (fun n => L9.g (L9.t R N5 n)) (b := (cAt C [true, false, true, true, true, false, true, false, false, true, false, false, true, true, true, false, false])) (by kernel_rfl) (fun fr h g => ?_) (fun n => D10.ok R N5 (L9.t R N5 n)) n fr h (gSlice_intro e0 (gSlice_intro e1 (gInt_intro e5 (gSlice_intro e6 (gInt_intro e7 (gInt_intro e8 (gSlice_intro e9 (g))))))))
  obtain ⟨a0, l0, c0, e0, g⟩ := gSlice_elim g
  obtain ⟨a1, l1, c1, e1, g⟩ := gSlice_elim g
  obtain ⟨x5, e5, g⟩ := gInt_elim g
  obtain ⟨a6, l6, c6, e6, g⟩ := gSlice_elim g
  obtain ⟨x7, e7, g⟩ := gInt_elim g
  obtain ⟨x8, e8, g⟩ := gInt_elim g
  obtain ⟨a9, l9, c9, e9, g⟩ := gSlice_elim g
  exact g
theorem B11.ok (R : Rt) (N5 : Option Addr → Nat → Nat → Option Addr → Nat → Nat → Int → Option Addr → Nat → Nat → Int → Hp → Prop) (fr : Fr) (h : Hp) (g : L9.g (fun a0 l0 c0 a1 l1 c1 x5 a6 l6 c6 x7 x8 a9 l9 c9 h => ∃ n, L9.t R N5 n a0 l0 c0 a1 l1 c1 x5 a6 l6 c6 x7 x8 a9 l9 c9 h) fr h) : den prog E (cAt C [true, false, true, true, true, false, true, false, false, true, false, false, true, true, true]) (Ex.inBlock 1 (Ex.then (D7.g R N5) (Ex.then (L5.g N5) (Ex.inBlock 0 (Ex.then (D3.g R) (retQ E [.tmp 4] R)))))) fr h :=
  den_block (by kernel_rfl) (L9.ok R N5 fr h g)
def D8.t (R : Rt) (N5 : Option Addr → Nat → Nat → Option Addr → Nat → Nat → Int → Option Addr → Nat → Nat → Int → Hp → Prop) (a0 : Option Addr) (l0 : Nat) (c0 : Nat) (a1 : Option Addr) (l1 : Nat) (c1 : Nat) (x5 : Int) (a6 : Option Addr) (l6 : Nat) (c6 : Nat) (x7 : Int) (h : Hp) : Prop :=
  letK (IntKind.i64.wrap (x7 + x5)) fun n7 =>
  idxK a0 l0 n7 1 fun q8 =>
  ldK h q8 fun v9 =>
  gInt .u64 v9 fun x_10 =>
  letK (IntKind.i64.wrap (x7 + x5)) fun n11 =>
  letK (IntKind.i64.wrap (n11 - 1)) fun n12 =>
  idxK a0 l0 n12 1 fun q13 =>
  ldK h q13 fun v14 =>
  gInt .u64 v14 fun x_15 =>
  letK (IntKind.i64.wrap (x5 - 1)) fun n16 =>
  idxK a1 l1 n16 1 fun q17 =>
  ldK h q17 fun v18 =>
  gInt .u64 v18 fun x_19 =>
  HC natdiv_trial.id #[.int .u64 x_10, .int .u64 x_15, .int .u64 x_19] h fun v20 h21 =>
  gInt .u64 v20 fun x_22 =>
  letK (IntKind.i64.wrap (x7 + x5)) fun n23 =>
  letK (IntKind.i64.wrap (n23 + 1)) fun n24 =>
  slK 1 a0 l0 c0 (some (.int .i64 x7)) (some (.int .i64 n24)) none fun a_25 l_25 c_25 =>
  HC natdiv_takeMul.id #[.slice a_25 l_25 c_25, .slice a1 l1 c1, .int .u64 x_22] h21 fun v26 h27 =>
  gInt .u64 v26 fun x_28 =>
  cond (x_28 == 0) (idxK a6 l6 x7 1 fun q29 =>
  stK h27 q29 (.int .u64 x_22) fun h30 =>
  D7.t R N5 a0 l0 c0 a1 l1 c1 x5 a6 l6 c6 x7 h30) ((∃ n, L9.t R N5 n a0 l0 c0 a1 l1 c1 x5 a6 l6 c6 x7 x_22 a_25 l_25 c_25 h27))
def D8.g (R : Rt) (N5 : Option Addr → Nat → Nat → Option Addr → Nat → Nat → Int → Option Addr → Nat → Nat → Int → Hp → Prop) (fr : Fr) (h : Hp) : Prop := gSlice (fr 0) fun a0 l0 c0 => gSlice (fr 1) fun a1 l1 c1 => gInt .i64 (fr 5) fun x5 => gSlice (fr 6) fun a6 l6 c6 => gInt .i64 (fr 7) fun x7 => D8.t R N5 a0 l0 c0 a1 l1 c1 x5 a6 l6 c6 x7 h
theorem D8.ok (R : Rt) (N5 : Option Addr → Nat → Nat → Option Addr → Nat → Nat → Int → Option Addr → Nat → Nat → Int → Hp → Prop) (fr : Fr) (h : Hp) (g : D8.g R N5 fr h) : den prog E (cAt C [true, false, true, true, true, false, true, false, false, true, false, false]) (Ex.inBlock 1 (Ex.then (D7.g R N5) (Ex.then (L5.g N5) (Ex.inBlock 0 (Ex.then (D3.g R) (retQ E [.tmp 4] R)))))) fr h := by
  obtain ⟨a0, l0, c0, e0, g⟩ := gSlice_elim g
  obtain ⟨a1, l1, c1, e1, g⟩ := gSlice_elim g
  obtain ⟨x5, e5, g⟩ := gInt_elim g
  obtain ⟨a6, l6, c6, e6, g⟩ := gSlice_elim g
  obtain ⟨x7, e7, g⟩ := gInt_elim g
  exact den_cut 3 (r := (cAt C [true, false, true, true, true, false, true, false, false, true, false, false, true, true, true])) (by kernel_rfl) (B11.ok R N5) (den_enter [(0, .slice a0 l0 c0), (1, .slice a1 l1 c1), (5, .int .i64 x5), (6, .slice a6 l6 c6), (7, .int .i64 x7)] ⟨e0, e1, e5, e6, e7, trivial⟩ (by kernel_rfl) g)
theorem B12.ok (R : Rt) (N5 : Option Addr → Nat → Nat → Option Addr → Nat → Nat → Int → Option Addr → Nat → Nat → Int → Hp → Prop) (fr : Fr) (h : Hp) (g : D8.g R N5 fr h) : den prog E (cAt C [true, false, true, true, true, false, true, false, false, true, false]) (Ex.then (D7.g R N5) (Ex.then (L5.g N5) (Ex.inBlock 0 (Ex.then (D3.g R) (retQ E [.tmp 4] R))))) fr h :=
  den_block (by kernel_rfl) (D8.ok R N5 fr h g)
theorem W13.ok (R : Rt) (N5 : Option Addr → Nat → Nat → Option Addr → Nat → Nat → Int → Option Addr → Nat → Nat → Int → Hp → Prop) (fr : Fr) (h : Hp) (g : D8.g R N5 fr h) : den prog E (cAt C [true, false, true, true, true, false, true, false, false, true]) (Ex.then (L5.g N5) (Ex.inBlock 0 (Ex.then (D3.g R) (retQ E [.tmp 4] R)))) fr h :=
  den_then (by kernel_rfl) (D7.ok R N5) (B12.ok R N5 fr h g)
def D6.t (R : Rt) (N5 : Option Addr → Nat → Nat → Option Addr → Nat → Nat → Int → Option Addr → Nat → Nat → Int → Hp → Prop) (a0 : Option Addr) (l0 : Nat) (c0 : Nat) (a1 : Option Addr) (l1 : Nat) (c1 : Nat) (x5 : Int) (a6 : Option Addr) (l6 : Nat) (c6 : Nat) (x7 : Int) (h : Hp) : Prop :=
  cond (decide (x7 ≥ 0)) (D8.t R N5 a0 l0 c0 a1 l1 c1 x5 a6 l6 c6 x7 h) (D3.t R a6 l6 c6 h)
def D6.g (R : Rt) (N5 : Option Addr → Nat → Nat → Option Addr → Nat → Nat → Int → Option Addr → Nat → Nat → Int → Hp → Prop) (fr : Fr) (h : Hp) : Prop := gSlice (fr 0) fun a0 l0 c0 => gSlice (fr 1) fun a1 l1 c1 => gInt .i64 (fr 5) fun x5 => gSlice (fr 6) fun a6 l6 c6 => gInt .i64 (fr 7) fun x7 => D6.t R N5 a0 l0 c0 a1 l1 c1 x5 a6 l6 c6 x7 h
theorem D6.ok (R : Rt) (N5 : Option Addr → Nat → Nat → Option Addr → Nat → Nat → Int → Option Addr → Nat → Nat → Int → Hp → Prop) (fr : Fr) (h : Hp) (g : D6.g R N5 fr h) : den prog E (cAt C [true, false, true, true, true, false, true, false, false]) (Ex.then (L5.g N5) (Ex.inBlock 0 (Ex.then (D3.g R) (retQ E [.tmp 4] R)))) fr h := by
  obtain ⟨a0, l0, c0, e0, g⟩ := gSlice_elim g
  obtain ⟨a1, l1, c1, e1, g⟩ := gSlice_elim g
  obtain ⟨x5, e5, g⟩ := gInt_elim g
  obtain ⟨a6, l6, c6, e6, g⟩ := gSlice_elim g
  obtain ⟨x7, e7, g⟩ := gInt_elim g
  exact den_cut 1 (r := (cAt C [true, false, true, true, true, false, true, false, false, true])) (by kernel_rfl) (W13.ok R N5) (den_enter [(0, .slice a0 l0 c0), (1, .slice a1 l1 c1), (5, .int .i64 x5), (6, .slice a6 l6 c6), (7, .int .i64 x7)] ⟨e0, e1, e5, e6, e7, trivial⟩ (by kernel_rfl) g)
def L5.t (R : Rt) : Nat → Option Addr → Nat → Nat → Option Addr → Nat → Nat → Int → Option Addr → Nat → Nat → Int → Hp → Prop
  | 0 => fun _ _ _ _ _ _ _ _ _ _ _ _ => False
  | n + 1 => fun a0 l0 c0 a1 l1 c1 x5 a6 l6 c6 x7 h => D6.t R (L5.t R n) a0 l0 c0 a1 l1 c1 x5 a6 l6 c6 x7 h
theorem L5.ok (R : Rt) (fr : Fr) (h : Hp) (g : L5.g (fun a0 l0 c0 a1 l1 c1 x5 a6 l6 c6 x7 h => ∃ n, L5.t R n a0 l0 c0 a1 l1 c1 x5 a6 l6 c6 x7 h) fr h) : den prog E (cAt C [true, false, true, true, true, false, true, false]) (Ex.inBlock 0 (Ex.then (D3.g R) (retQ E [.tmp 4] R))) fr h := by
  obtain ⟨a0, l0, c0, e0, g⟩ := gSlice_elim g
  obtain ⟨a1, l1, c1, e1, g⟩ := gSlice_elim g
  obtain ⟨x5, e5, g⟩ := gInt_elim g
  obtain ⟨a6, l6, c6, e6, g⟩ := gSlice_elim g
  obtain ⟨x7, e7, g⟩ := gInt_elim g
  obtain ⟨n, g⟩ := g
  refine loop_ok (fun n => L5.g (L5.t R n)) (b := (cAt C [true, false, true, true, true, false, true, false, false])) (by kernel_rfl) (fun fr h g => ?_) (fun n => D6.ok R (L5.t R n)) n fr h (gSlice_intro e0 (gSlice_intro e1 (gInt_intro e5 (gSlice_intro e6 (gInt_intro e7 (g))))))
  obtain ⟨a0, l0, c0, e0, g⟩ := gSlice_elim g
  obtain ⟨a1, l1, c1, e1, g⟩ := gSlice_elim g
  obtain ⟨x5, e5, g⟩ := gInt_elim g
  obtain ⟨a6, l6, c6, e6, g⟩ := gSlice_elim g
  obtain ⟨x7, e7, g⟩ := gInt_elim g
  exact g
theorem B14.ok (R : Rt) (fr : Fr) (h : Hp) (g : L5.g (fun a0 l0 c0 a1 l1 c1 x5 a6 l6 c6 x7 h => ∃ n, L5.t R n a0 l0 c0 a1 l1 c1 x5 a6 l6 c6 x7 h) fr h) : den prog E (cAt C [true, false, true, true, true, false, true]) (Ex.then (D3.g R) (retQ E [.tmp 4] R)) fr h :=
  den_block (by kernel_rfl) (L5.ok R fr h g)
def D4.t (R : Rt) (a0 : Option Addr) (l0 : Nat) (c0 : Nat) (a1 : Option Addr) (l1 : Nat) (c1 : Nat) (x5 : Int) (a6 : Option Addr) (l6 : Nat) (c6 : Nat) (h : Hp) : Prop :=
  letK (IntKind.i64.wrap ((((l0 : Nat) : Int)) - x5)) fun n4 =>
  letK (IntKind.i64.wrap (n4 - 1)) fun n5 =>
  (∃ n, L5.t R n a0 l0 c0 a1 l1 c1 x5 a6 l6 c6 n5 h)
def D4.g (R : Rt) (fr : Fr) (h : Hp) : Prop := gSlice (fr 0) fun a0 l0 c0 => gSlice (fr 1) fun a1 l1 c1 => gInt .i64 (fr 5) fun x5 => gSlice (fr 6) fun a6 l6 c6 => D4.t R a0 l0 c0 a1 l1 c1 x5 a6 l6 c6 h
theorem D4.ok (R : Rt) (fr : Fr) (h : Hp) (g : D4.g R fr h) : den prog E (cAt C [true, false, true, true, true, false]) (Ex.then (D3.g R) (retQ E [.tmp 4] R)) fr h := by
  obtain ⟨a0, l0, c0, e0, g⟩ := gSlice_elim g
  obtain ⟨a1, l1, c1, e1, g⟩ := gSlice_elim g
  obtain ⟨x5, e5, g⟩ := gInt_elim g
  obtain ⟨a6, l6, c6, e6, g⟩ := gSlice_elim g
  exact den_cut 1 (r := (cAt C [true, false, true, true, true, false, true])) (by kernel_rfl) (B14.ok R) (den_enter [(0, .slice a0 l0 c0), (1, .slice a1 l1 c1), (5, .int .i64 x5), (6, .slice a6 l6 c6)] ⟨e0, e1, e5, e6, trivial⟩ (by kernel_rfl) g)
theorem W15.ok (R : Rt) (fr : Fr) (h : Hp) (g : D4.g R fr h) : den prog E (cAt C [true, false, true, true, true]) (retQ E [.tmp 4] R) fr h :=
  den_then (by kernel_rfl) (D3.ok R) (D4.ok R fr h g)
def D2.t (R : Rt) (a0 : Option Addr) (l0 : Nat) (c0 : Nat) (a1 : Option Addr) (l1 : Nat) (c1 : Nat) (h : Hp) : Prop :=
  letK (IntKind.i64.wrap ((((l0 : Nat) : Int)) - (((l1 : Nat) : Int)))) fun n1 =>
  mkK h 48 T48 n1 n1 fun q2 h3 =>
  D4.t R a0 l0 c0 a1 l1 c1 (((l1 : Nat) : Int)) (some q2) n1.toNat n1.toNat h3
def D2.g (R : Rt) (fr : Fr) (h : Hp) : Prop := gSlice (fr 0) fun a0 l0 c0 => gSlice (fr 1) fun a1 l1 c1 => D2.t R a0 l0 c0 a1 l1 c1 h
theorem D2.ok (R : Rt) (fr : Fr) (h : Hp) (g : D2.g R fr h) : den prog E (cAt C [true, false]) (retQ E [.tmp 4] R) fr h := by
  obtain ⟨a0, l0, c0, e0, g⟩ := gSlice_elim g
  obtain ⟨a1, l1, c1, e1, g⟩ := gSlice_elim g
  exact den_cut 3 (r := (cAt C [true, false, true, true, true])) (by kernel_rfl) (W15.ok R) (den_enter [(0, .slice a0 l0 c0), (1, .slice a1 l1 c1)] ⟨e0, e1, trivial⟩ (by kernel_rfl) g)
theorem B16.ok (R : Rt) (fr : Fr) (h : Hp) (g : D2.g R fr h) : den prog E (cAt C [true]) (retQ E [.tmp 4] R) fr h :=
  den_scope (by kernel_rfl) (D2.ok R fr h g)
def D1.t (R : Rt) (a0 : Option Addr) (l0 : Nat) (c0 : Nat) (a1 : Option Addr) (l1 : Nat) (c1 : Nat) (h : Hp) : Prop :=
  D2.t R a0 l0 c0 a1 l1 c1 h
def D1.g (R : Rt) (fr : Fr) (h : Hp) : Prop := gSlice (fr 0) fun a0 l0 c0 => gSlice (fr 1) fun a1 l1 c1 => D1.t R a0 l0 c0 a1 l1 c1 h
theorem D1.ok (R : Rt) (fr : Fr) (h : Hp) (g : D1.g R fr h) : den prog E C (retQ E [.tmp 4] R) fr h := by
  obtain ⟨a0, l0, c0, e0, g⟩ := gSlice_elim g
  obtain ⟨a1, l1, c1, e1, g⟩ := gSlice_elim g
  exact den_cut 1 (r := (cAt C [true])) (by kernel_rfl) (B16.ok R) (den_enter [(0, .slice a0 l0 c0), (1, .slice a1 l1 c1)] ⟨e0, e1, trivial⟩ (by kernel_rfl) g)
def t (a0 : Option Addr) (l0 : Nat) (c0 : Nat) (a1 : Option Addr) (l1 : Nat) (c1 : Nat) (h : Hp) (R : Rt) : Prop := D1.t R a0 l0 c0 a1 l1 c1 h
theorem ok {a0 : Option Addr} {l0 : Nat} {c0 : Nat} {a1 : Option Addr} {l1 : Nat} {c1 : Nat} {h : Hp} {R : Rt} (g : t a0 l0 c0 a1 l1 c1 h R) : HC id #[.slice a0 l0 c0, .slice a1 l1 c1] h R :=
  calls_of_den' envOk (c := C) (rs := [.tmp 4]) Tryz.func77 (by kernel_rfl) (by kernel_rfl) (by kernel_rfl) (args := [.slice a0 l0 c0, .slice a1 l1 c1]) (by kernel_rfl) (D1.ok R _ h (gSlice_intro rfl (gSlice_intro rfl (g))))
end natdiv_long

namespace gnomonref01_To
noncomputable def C : Code := bodyOf Tryz.f78
def D2.t (R : Rt) (a4 : Option Addr) (l4 : Nat) (c4 : Nat) (h : Hp) : Prop :=
  R (.slice a4 l4 c4) h
def D2.g (R : Rt) (fr : Fr) (h : Hp) : Prop := gSlice (fr 4) fun a4 l4 c4 => D2.t R a4 l4 c4 h
theorem D2.ok (R : Rt) (fr : Fr) (h : Hp) (g : D2.g R fr h) : den prog E (cAt C [true, true, true, true]) (retQ E [.tmp 2] R) fr h := by
  obtain ⟨a4, l4, c4, e4, g⟩ := gSlice_elim g
  exact den_enter [(4, .slice a4 l4 c4)] ⟨e4, trivial⟩ (by kernel_rfl) g
def L4.g (N : Option Addr → Nat → Nat → Option Addr → Nat → Nat → Int → Hp → Prop) (fr : Fr) (h : Hp) : Prop := gSlice (fr 3) fun a3 l3 c3 => gSlice (fr 4) fun a4 l4 c4 => gInt .i64 (fr 5) fun x5 => N a3 l3 c3 a4 l4 c4 x5 h
def D5.t (R : Rt) (N4 : Option Addr → Nat → Nat → Option Addr → Nat → Nat → Int → Hp → Prop) (a3 : Option Addr) (l3 : Nat) (c3 : Nat) (a4 : Option Addr) (l4 : Nat) (c4 : Nat) (x5 : Int) (h : Hp) : Prop :=
  cond (decide (x5 < (((l3 : Nat) : Int)))) (idxK a3 l3 x5 1 fun q8 =>
  ldK h q8 fun v9 =>
  gInt .u32 v9 fun x_10 =>
  letK (IntKind.u64.wrap x_10) fun n11 =>
  letK (IntKind.i64.wrap (x5 + 1)) fun n12 =>
  cond (decide (n12 < (((l3 : Nat) : Int)))) (letK (IntKind.i64.wrap (x5 + 1)) fun n13 =>
  idxK a3 l3 n13 1 fun q14 =>
  ldK h q14 fun v15 =>
  gInt .u32 v15 fun x_16 =>
  letK (IntKind.u64.wrap x_16) fun n17 =>
  0 ≤ (32 : Int) ∧ letK (shlI .u64 n17 32) fun n18 =>
  letK (IntKind.u64.wrap (n11 + n18)) fun n19 =>
  boxK h 48 [.int .u64 n19] fun q20 h21 =>
  apK h21 48 T48 a4 l4 c4 (.slice (some q20) 1 1) fun a_22 l_22 c_22 h22 =>
  letK (IntKind.i64.wrap (x5 + 2)) fun n23 =>
  N4 a3 l3 c3 a_22 l_22 c_22 n23 h22) (boxK h 48 [.int .u64 n11] fun q24 h25 =>
  apK h25 48 T48 a4 l4 c4 (.slice (some q24) 1 1) fun a_26 l_26 c_26 h26 =>
  letK (IntKind.i64.wrap (x5 + 2)) fun n27 =>
  N4 a3 l3 c3 a_26 l_26 c_26 n27 h26)) (D2.t R a4 l4 c4 h)
def D5.g (R : Rt) (N4 : Option Addr → Nat → Nat → Option Addr → Nat → Nat → Int → Hp → Prop) (fr : Fr) (h : Hp) : Prop := gSlice (fr 3) fun a3 l3 c3 => gSlice (fr 4) fun a4 l4 c4 => gInt .i64 (fr 5) fun x5 => D5.t R N4 a3 l3 c3 a4 l4 c4 x5 h
theorem D5.ok (R : Rt) (N4 : Option Addr → Nat → Nat → Option Addr → Nat → Nat → Int → Hp → Prop) (fr : Fr) (h : Hp) (g : D5.g R N4 fr h) : den prog E (cAt C [true, true, true, false, true, false, false]) (Ex.then (L4.g N4) (Ex.inBlock 0 (Ex.then (D2.g R) (retQ E [.tmp 2] R)))) fr h := by
  obtain ⟨a3, l3, c3, e3, g⟩ := gSlice_elim g
  obtain ⟨a4, l4, c4, e4, g⟩ := gSlice_elim g
  obtain ⟨x5, e5, g⟩ := gInt_elim g
  exact den_enter [(3, .slice a3 l3 c3), (4, .slice a4 l4 c4), (5, .int .i64 x5)] ⟨e3, e4, e5, trivial⟩ (by kernel_rfl) g
def L4.t (R : Rt) : Nat → Option Addr → Nat → Nat → Option Addr → Nat → Nat → Int → Hp → Prop
  | 0 => fun _ _ _ _ _ _ _ _ => False
  | n + 1 => fun a3 l3 c3 a4 l4 c4 x5 h => D5.t R (L4.t R n) a3 l3 c3 a4 l4 c4 x5 h
theorem L4.ok (R : Rt) (fr : Fr) (h : Hp) (g : L4.g (fun a3 l3 c3 a4 l4 c4 x5 h => ∃ n, L4.t R n a3 l3 c3 a4 l4 c4 x5 h) fr h) : den prog E (cAt C [true, true, true, false, true, false]) (Ex.inBlock 0 (Ex.then (D2.g R) (retQ E [.tmp 2] R))) fr h := by
  obtain ⟨a3, l3, c3, e3, g⟩ := gSlice_elim g
  obtain ⟨a4, l4, c4, e4, g⟩ := gSlice_elim g
  obtain ⟨x5, e5, g⟩ := gInt_elim g
  obtain ⟨n, g⟩ := g
  refine loop_ok (fun n => L4.g (L4.t R n)) (b := (cAt C [true, true, true, false, true, false, false])) (by kernel_rfl) (fun fr h g => ?_) (fun n => D5.ok R (L4.t R n)) n fr h (gSlice_intro e3 (gSlice_intro e4 (gInt_intro e5 (g))))
  obtain ⟨a3, l3, c3, e3, g⟩ := gSlice_elim g
  obtain ⟨a4, l4, c4, e4, g⟩ := gSlice_elim g
  obtain ⟨x5, e5, g⟩ := gInt_elim g
  exact g
theorem B6.ok (R : Rt) (fr : Fr) (h : Hp) (g : L4.g (fun a3 l3 c3 a4 l4 c4 x5 h => ∃ n, L4.t R n a3 l3 c3 a4 l4 c4 x5 h) fr h) : den prog E (cAt C [true, true, true, false, true]) (Ex.then (D2.g R) (retQ E [.tmp 2] R)) fr h :=
  den_block (by kernel_rfl) (L4.ok R fr h g)
def D3.t (R : Rt) (a3 : Option Addr) (l3 : Nat) (c3 : Nat) (a4 : Option Addr) (l4 : Nat) (c4 : Nat) (h : Hp) : Prop :=
  (∃ n, L4.t R n a3 l3 c3 a4 l4 c4 0 h)
def D3.g (R : Rt) (fr : Fr) (h : Hp) : Prop := gSlice (fr 3) fun a3 l3 c3 => gSlice (fr 4) fun a4 l4 c4 => D3.t R a3 l3 c3 a4 l4 c4 h
theorem D3.ok (R : Rt) (fr : Fr) (h : Hp) (g : D3.g R fr h) : den prog E (cAt C [true, true, true, false]) (Ex.then (D2.g R) (retQ E [.tmp 2] R)) fr h := by
  obtain ⟨a3, l3, c3, e3, g⟩ := gSlice_elim g
  obtain ⟨a4, l4, c4, e4, g⟩ := gSlice_elim g
  exact den_cut 1 (r := (cAt C [true, true, true, false, true])) (by kernel_rfl) (B6.ok R) (den_enter [(3, .slice a3 l3 c3), (4, .slice a4 l4 c4)] ⟨e3, e4, trivial⟩ (by kernel_rfl) g)
theorem W7.ok (R : Rt) (fr : Fr) (h : Hp) (g : D3.g R fr h) : den prog E (cAt C [true, true, true]) (retQ E [.tmp 2] R) fr h :=
  den_then (by kernel_rfl) (D2.ok R) (D3.ok R fr h g)
def D1.t (R : Rt) (a0 : Option Addr) (l0 : Nat) (c0 : Nat) (h : Hp) : Prop :=
  HC gnomonref01_Norm.id #[.slice a0 l0 c0] h fun v1 h2 =>
  gSlice v1 fun a_3 l_3 c_3 =>
  (2 : Int) ≠ 0 ∧ letK (IntKind.i64.wrap (Int.tdiv (((l_3 : Nat) : Int)) 2)) fun n4 =>
  letK (IntKind.i64.wrap (n4 + 1)) fun n5 =>
  mkK h2 48 T48 0 n5 fun q6 h7 =>
  D3.t R a_3 l_3 c_3 (some q6) ((0 : Int).toNat) n5.toNat h7
def D1.g (R : Rt) (fr : Fr) (h : Hp) : Prop := gSlice (fr 0) fun a0 l0 c0 => D1.t R a0 l0 c0 h
theorem D1.ok (R : Rt) (fr : Fr) (h : Hp) (g : D1.g R fr h) : den prog E C (retQ E [.tmp 2] R) fr h := by
  obtain ⟨a0, l0, c0, e0, g⟩ := gSlice_elim g
  exact den_cut 3 (r := (cAt C [true, true, true])) (by kernel_rfl) (W7.ok R) (den_enter [(0, .slice a0 l0 c0)] ⟨e0, trivial⟩ (by kernel_rfl) g)
def t (a0 : Option Addr) (l0 : Nat) (c0 : Nat) (h : Hp) (R : Rt) : Prop := D1.t R a0 l0 c0 h
theorem ok {a0 : Option Addr} {l0 : Nat} {c0 : Nat} {h : Hp} {R : Rt} (g : t a0 l0 c0 h R) : HC id #[.slice a0 l0 c0] h R :=
  calls_of_den' envOk (c := C) (rs := [.tmp 2]) Tryz.func78 (by kernel_rfl) (by kernel_rfl) (by kernel_rfl) (args := [.slice a0 l0 c0]) (by kernel_rfl) (D1.ok R _ h (gSlice_intro rfl (g)))
end gnomonref01_To

namespace gnomonref04_Mk
noncomputable def C : Code := bodyOf Tryz.f79
def D1.t (R : Rt) (b0 : Bool) (a1 : Option Addr) (l1 : Nat) (c1 : Nat) (h : Hp) : Prop :=
  boxK h 67 T67.zs fun q1 h2 =>
  HC gnomonref01_Norm.id #[.slice a1 l1 c1] h2 fun v3 h4 =>
  gSlice v3 fun a_5 l_5 c_5 =>
  cond b0 (stK h4 (q1.add 0) (.bool (decide ((((l_5 : Nat) : Int)) > 0))) fun h6 =>
  stK h6 (q1.add 1) (.slice a_5 l_5 c_5) fun h7 =>
  ldK h7 (q1.add 0) fun v8 =>
  gBool v8 fun b_9 =>
  ldK h7 (q1.add 1) fun v10 =>
  gSlice v10 fun a_11 l_11 c_11 =>
  R (.agg #[.bool b_9, .slice a_11 l_11 c_11]) h7) (stK h4 (q1.add 0) (.bool false) fun h12 =>
  stK h12 (q1.add 1) (.slice a_5 l_5 c_5) fun h13 =>
  ldK h13 (q1.add 0) fun v14 =>
  gBool v14 fun b_15 =>
  ldK h13 (q1.add 1) fun v16 =>
  gSlice v16 fun a_17 l_17 c_17 =>
  R (.agg #[.bool b_15, .slice a_17 l_17 c_17]) h13)
def D1.g (R : Rt) (fr : Fr) (h : Hp) : Prop := gBool (fr 0) fun b0 => gSlice (fr 1) fun a1 l1 c1 => D1.t R b0 a1 l1 c1 h
theorem D1.ok (R : Rt) (fr : Fr) (h : Hp) (g : D1.g R fr h) : den prog E C (retQ E [.cell 4 67] R) fr h := by
  obtain ⟨b0, e0, g⟩ := gBool_elim g
  obtain ⟨a1, l1, c1, e1, g⟩ := gSlice_elim g
  exact den_enter [(0, .bool b0), (1, .slice a1 l1 c1)] ⟨e0, e1, trivial⟩ (by kernel_rfl) g
def t (b0 : Bool) (a1 : Option Addr) (l1 : Nat) (c1 : Nat) (h : Hp) (R : Rt) : Prop := D1.t R b0 a1 l1 c1 h
theorem ok {b0 : Bool} {a1 : Option Addr} {l1 : Nat} {c1 : Nat} {h : Hp} {R : Rt} (g : t b0 a1 l1 c1 h R) : HC id #[.bool b0, .slice a1 l1 c1] h R :=
  calls_of_den' envOk (c := C) (rs := [.cell 4 67]) Tryz.func79 (by kernel_rfl) (by kernel_rfl) (by kernel_rfl) (args := [.bool b0, .slice a1 l1 c1]) (by kernel_rfl) (D1.ok R _ h (gBool_intro rfl (gSlice_intro rfl (g))))
end gnomonref04_Mk

namespace gnomonref01_Add
noncomputable def C : Code := bodyOf Tryz.f80
def D2.t (R : Rt) (a5 : Option Addr) (l5 : Nat) (c5 : Nat) (h : Hp) : Prop :=
  HC gnomonref01_Norm.id #[.slice a5 l5 c5] h fun v4 h5 =>
  gSlice v4 fun a_6 l_6 c_6 =>
  R (.slice a_6 l_6 c_6) h5
def D2.g (R : Rt) (fr : Fr) (h : Hp) : Prop := gSlice (fr 5) fun a5 l5 c5 => D2.t R a5 l5 c5 h
theorem D2.ok (R : Rt) (fr : Fr) (h : Hp) (g : D2.g R fr h) : den prog E (cAt C [true, true, true, true]) (retQ E [.tmp 4] R) fr h := by
  obtain ⟨a5, l5, c5, e5, g⟩ := gSlice_elim g
  exact den_enter [(5, .slice a5 l5 c5)] ⟨e5, trivial⟩ (by kernel_rfl) g
def L4.g (N : Option Addr → Nat → Nat → Option Addr → Nat → Nat → Option Addr → Nat → Nat → Int → Int → Hp → Prop) (fr : Fr) (h : Hp) : Prop := gSlice (fr 0) fun a0 l0 c0 => gSlice (fr 1) fun a1 l1 c1 => gSlice (fr 5) fun a5 l5 c5 => gInt .u64 (fr 6) fun x6 => gInt .i64 (fr 7) fun x7 => N a0 l0 c0 a1 l1 c1 a5 l5 c5 x6 x7 h
def D6.t (R : Rt) (N4 : Option Addr → Nat → Nat → Option Addr → Nat → Nat → Option Addr → Nat → Nat → Int → Int → Hp → Prop) (a0 : Option Addr) (l0 : Nat) (c0 : Nat) (a1 : Option Addr) (l1 : Nat) (c1 : Nat) (a5 : Option Addr) (l5 : Nat) (c5 : Nat) (x6 : Int) (x7 : Int) (h : Hp) : Prop :=
  cond (decide (x7 < (((l0 : Nat) : Int)))) (idxK a0 l0 x7 1 fun q7 =>
  ldK h q7 fun v8 =>
  gInt .u32 v8 fun x_9 =>
  letK (IntKind.u64.wrap x_9) fun n10 =>
  letK (IntKind.u64.wrap (x6 + n10)) fun n11 =>
  cond (decide (x7 < (((l1 : Nat) : Int)))) (idxK a1 l1 x7 1 fun q12 =>
  ldK h q12 fun v13 =>
  gInt .u32 v13 fun x_14 =>
  letK (IntKind.u64.wrap x_14) fun n15 =>
  letK (IntKind.u64.wrap (n11 + n15)) fun n16 =>
  letK (andI .u64 n16 4294967295) fun n17 =>
  letK (IntKind.u32.wrap n17) fun n18 =>
  boxK h 108 [.int .u32 n18] fun q19 h20 =>
  apK h20 108 T108 a5 l5 c5 (.slice (some q19) 1 1) fun a_21 l_21 c_21 h21 =>
  0 ≤ (32 : Int) ∧ letK (shrI .u64 n16 32) fun n22 =>
  letK (IntKind.i64.wrap (x7 + 1)) fun n23 =>
  N4 a0 l0 c0 a1 l1 c1 a_21 l_21 c_21 n22 n23 h21) (letK (andI .u64 n11 4294967295) fun n24 =>
  letK (IntKind.u32.wrap n24) fun n25 =>
  boxK h 108 [.int .u32 n25] fun q26 h27 =>
  apK h27 108 T108 a5 l5 c5 (.slice (some q26) 1 1) fun a_28 l_28 c_28 h28 =>
  0 ≤ (32 : Int) ∧ letK (shrI .u64 n11 32) fun n29 =>
  letK (IntKind.i64.wrap (x7 + 1)) fun n30 =>
  N4 a0 l0 c0 a1 l1 c1 a_28 l_28 c_28 n29 n30 h28)) (cond (decide (x7 < (((l1 : Nat) : Int)))) (idxK a1 l1 x7 1 fun q31 =>
  ldK h q31 fun v32 =>
  gInt .u32 v32 fun x_33 =>
  letK (IntKind.u64.wrap x_33) fun n34 =>
  letK (IntKind.u64.wrap (x6 + n34)) fun n35 =>
  letK (andI .u64 n35 4294967295) fun n36 =>
  letK (IntKind.u32.wrap n36) fun n37 =>
  boxK h 108 [.int .u32 n37] fun q38 h39 =>
  apK h39 108 T108 a5 l5 c5 (.slice (some q38) 1 1) fun a_40 l_40 c_40 h40 =>
  0 ≤ (32 : Int) ∧ letK (shrI .u64 n35 32) fun n41 =>
  letK (IntKind.i64.wrap (x7 + 1)) fun n42 =>
  N4 a0 l0 c0 a1 l1 c1 a_40 l_40 c_40 n41 n42 h40) (letK (andI .u64 x6 4294967295) fun n43 =>
  letK (IntKind.u32.wrap n43) fun n44 =>
  boxK h 108 [.int .u32 n44] fun q45 h46 =>
  apK h46 108 T108 a5 l5 c5 (.slice (some q45) 1 1) fun a_47 l_47 c_47 h47 =>
  0 ≤ (32 : Int) ∧ letK (shrI .u64 x6 32) fun n48 =>
  letK (IntKind.i64.wrap (x7 + 1)) fun n49 =>
  N4 a0 l0 c0 a1 l1 c1 a_47 l_47 c_47 n48 n49 h47))
def D6.g (R : Rt) (N4 : Option Addr → Nat → Nat → Option Addr → Nat → Nat → Option Addr → Nat → Nat → Int → Int → Hp → Prop) (fr : Fr) (h : Hp) : Prop := gSlice (fr 0) fun a0 l0 c0 => gSlice (fr 1) fun a1 l1 c1 => gSlice (fr 5) fun a5 l5 c5 => gInt .u64 (fr 6) fun x6 => gInt .i64 (fr 7) fun x7 => D6.t R N4 a0 l0 c0 a1 l1 c1 a5 l5 c5 x6 x7 h
theorem D6.ok (R : Rt) (N4 : Option Addr → Nat → Nat → Option Addr → Nat → Nat → Option Addr → Nat → Nat → Int → Int → Hp → Prop) (fr : Fr) (h : Hp) (g : D6.g R N4 fr h) : den prog E (cAt C [true, true, true, false, true, false, false, true]) (Ex.then (L4.g N4) (Ex.inBlock 0 (Ex.then (D2.g R) (retQ E [.tmp 4] R)))) fr h := by
  obtain ⟨a0, l0, c0, e0, g⟩ := gSlice_elim g
  obtain ⟨a1, l1, c1, e1, g⟩ := gSlice_elim g
  obtain ⟨a5, l5, c5, e5, g⟩ := gSlice_elim g
  obtain ⟨x6, e6, g⟩ := gInt_elim g
  obtain ⟨x7, e7, g⟩ := gInt_elim g
  exact den_enter [(0, .slice a0 l0 c0), (1, .slice a1 l1 c1), (5, .slice a5 l5 c5), (6, .int .u64 x6), (7, .int .i64 x7)] ⟨e0, e1, e5, e6, e7, trivial⟩ (by kernel_rfl) g
def D5.t (R : Rt) (N4 : Option Addr → Nat → Nat → Option Addr → Nat → Nat → Option Addr → Nat → Nat → Int → Int → Hp → Prop) (a0 : Option Addr) (l0 : Nat) (c0 : Nat) (a1 : Option Addr) (l1 : Nat) (c1 : Nat) (a5 : Option Addr) (l5 : Nat) (c5 : Nat) (x6 : Int) (x7 : Int) (h : Hp) : Prop :=
  cond (decide (x7 < (((l0 : Nat) : Int)))) (D6.t R N4 a0 l0 c0 a1 l1 c1 a5 l5 c5 x6 x7 h) (cond (decide (x7 < (((l1 : Nat) : Int)))) (D6.t R N4 a0 l0 c0 a1 l1 c1 a5 l5 c5 x6 x7 h) (cond (decide (x6 > 0)) (D6.t R N4 a0 l0 c0 a1 l1 c1 a5 l5 c5 x6 x7 h) (D2.t R a5 l5 c5 h)))
def D5.g (R : Rt) (N4 : Option Addr → Nat → Nat → Option Addr → Nat → Nat → Option Addr → Nat → Nat → Int → Int → Hp → Prop) (fr : Fr) (h : Hp) : Prop := gSlice (fr 0) fun a0 l0 c0 => gSlice (fr 1) fun a1 l1 c1 => gSlice (fr 5) fun a5 l5 c5 => gInt .u64 (fr 6) fun x6 => gInt .i64 (fr 7) fun x7 => D5.t R N4 a0 l0 c0 a1 l1 c1 a5 l5 c5 x6 x7 h
theorem D5.ok (R : Rt) (N4 : Option Addr → Nat → Nat → Option Addr → Nat → Nat → Option Addr → Nat → Nat → Int → Int → Hp → Prop) (fr : Fr) (h : Hp) (g : D5.g R N4 fr h) : den prog E (cAt C [true, true, true, false, true, false, false]) (Ex.then (L4.g N4) (Ex.inBlock 0 (Ex.then (D2.g R) (retQ E [.tmp 4] R)))) fr h := by
  obtain ⟨a0, l0, c0, e0, g⟩ := gSlice_elim g
  obtain ⟨a1, l1, c1, e1, g⟩ := gSlice_elim g
  obtain ⟨a5, l5, c5, e5, g⟩ := gSlice_elim g
  obtain ⟨x6, e6, g⟩ := gInt_elim g
  obtain ⟨x7, e7, g⟩ := gInt_elim g
  exact den_cut 1 (r := (cAt C [true, true, true, false, true, false, false, true])) (by kernel_rfl) (D6.ok R N4) (den_enter [(0, .slice a0 l0 c0), (1, .slice a1 l1 c1), (5, .slice a5 l5 c5), (6, .int .u64 x6), (7, .int .i64 x7)] ⟨e0, e1, e5, e6, e7, trivial⟩ (by kernel_rfl) g)
def L4.t (R : Rt) : Nat → Option Addr → Nat → Nat → Option Addr → Nat → Nat → Option Addr → Nat → Nat → Int → Int → Hp → Prop
  | 0 => fun _ _ _ _ _ _ _ _ _ _ _ _ => False
  | n + 1 => fun a0 l0 c0 a1 l1 c1 a5 l5 c5 x6 x7 h => D5.t R (L4.t R n) a0 l0 c0 a1 l1 c1 a5 l5 c5 x6 x7 h
theorem L4.ok (R : Rt) (fr : Fr) (h : Hp) (g : L4.g (fun a0 l0 c0 a1 l1 c1 a5 l5 c5 x6 x7 h => ∃ n, L4.t R n a0 l0 c0 a1 l1 c1 a5 l5 c5 x6 x7 h) fr h) : den prog E (cAt C [true, true, true, false, true, false]) (Ex.inBlock 0 (Ex.then (D2.g R) (retQ E [.tmp 4] R))) fr h := by
  obtain ⟨a0, l0, c0, e0, g⟩ := gSlice_elim g
  obtain ⟨a1, l1, c1, e1, g⟩ := gSlice_elim g
  obtain ⟨a5, l5, c5, e5, g⟩ := gSlice_elim g
  obtain ⟨x6, e6, g⟩ := gInt_elim g
  obtain ⟨x7, e7, g⟩ := gInt_elim g
  obtain ⟨n, g⟩ := g
  refine loop_ok (fun n => L4.g (L4.t R n)) (b := (cAt C [true, true, true, false, true, false, false])) (by kernel_rfl) (fun fr h g => ?_) (fun n => D5.ok R (L4.t R n)) n fr h (gSlice_intro e0 (gSlice_intro e1 (gSlice_intro e5 (gInt_intro e6 (gInt_intro e7 (g))))))
  obtain ⟨a0, l0, c0, e0, g⟩ := gSlice_elim g
  obtain ⟨a1, l1, c1, e1, g⟩ := gSlice_elim g
  obtain ⟨a5, l5, c5, e5, g⟩ := gSlice_elim g
  obtain ⟨x6, e6, g⟩ := gInt_elim g
  obtain ⟨x7, e7, g⟩ := gInt_elim g
  exact g
theorem B7.ok (R : Rt) (fr : Fr) (h : Hp) (g : L4.g (fun a0 l0 c0 a1 l1 c1 a5 l5 c5 x6 x7 h => ∃ n, L4.t R n a0 l0 c0 a1 l1 c1 a5 l5 c5 x6 x7 h) fr h) : den prog E (cAt C [true, true, true, false, true]) (Ex.then (D2.g R) (retQ E [.tmp 4] R)) fr h :=
  den_block (by kernel_rfl) (L4.ok R fr h g)
def D3.t (R : Rt) (a0 : Option Addr) (l0 : Nat) (c0 : Nat) (a1 : Option Addr) (l1 : Nat) (c1 : Nat) (a5 : Option Addr) (l5 : Nat) (c5 : Nat) (x6 : Int) (h : Hp) : Prop :=
  (∃ n, L4.t R n a0 l0 c0 a1 l1 c1 a5 l5 c5 x6 0 h)
def D3.g (R : Rt) (fr : Fr) (h : Hp) : Prop := gSlice (fr 0) fun a0 l0 c0 => gSlice (fr 1) fun a1 l1 c1 => gSlice (fr 5) fun a5 l5 c5 => gInt .u64 (fr 6) fun x6 => D3.t R a0 l0 c0 a1 l1 c1 a5 l5 c5 x6 h
theorem D3.ok (R : Rt) (fr : Fr) (h : Hp) (g : D3.g R fr h) : den prog E (cAt C [true, true, true, false]) (Ex.then (D2.g R) (retQ E [.tmp 4] R)) fr h := by
  obtain ⟨a0, l0, c0, e0, g⟩ := gSlice_elim g
  obtain ⟨a1, l1, c1, e1, g⟩ := gSlice_elim g
  obtain ⟨a5, l5, c5, e5, g⟩ := gSlice_elim g
  obtain ⟨x6, e6, g⟩ := gInt_elim g
  exact den_cut 1 (r := (cAt C [true, true, true, false, true])) (by kernel_rfl) (B7.ok R) (den_enter [(0, .slice a0 l0 c0), (1, .slice a1 l1 c1), (5, .slice a5 l5 c5), (6, .int .u64 x6)] ⟨e0, e1, e5, e6, trivial⟩ (by kernel_rfl) g)
theorem W8.ok (R : Rt) (fr : Fr) (h : Hp) (g : D3.g R fr h) : den prog E (cAt C [true, true, true]) (retQ E [.tmp 4] R) fr h :=
  den_then (by kernel_rfl) (D2.ok R) (D3.ok R fr h g)
def D1.t (R : Rt) (a0 : Option Addr) (l0 : Nat) (c0 : Nat) (a1 : Option Addr) (l1 : Nat) (c1 : Nat) (h : Hp) : Prop :=
  letK (IntKind.i64.wrap ((if (((l1 : Nat) : Int)) > (((l0 : Nat) : Int)) then (((l1 : Nat) : Int)) else (((l0 : Nat) : Int))) + 1)) fun n1 =>
  mkK h 108 T108 0 n1 fun q2 h3 =>
  D3.t R a0 l0 c0 a1 l1 c1 (some q2) ((0 : Int).toNat) n1.toNat 0 h3
def D1.g (R : Rt) (fr : Fr) (h : Hp) : Prop := gSlice (fr 0) fun a0 l0 c0 => gSlice (fr 1) fun a1 l1 c1 => D1.t R a0 l0 c0 a1 l1 c1 h
theorem D1.ok (R : Rt) (fr : Fr) (h : Hp) (g : D1.g R fr h) : den prog E C (retQ E [.tmp 4] R) fr h := by
  obtain ⟨a0, l0, c0, e0, g⟩ := gSlice_elim g
  obtain ⟨a1, l1, c1, e1, g⟩ := gSlice_elim g
  exact den_cut 3 (r := (cAt C [true, true, true])) (by kernel_rfl) (W8.ok R) (den_enter [(0, .slice a0 l0 c0), (1, .slice a1 l1 c1)] ⟨e0, e1, trivial⟩ (by kernel_rfl) g)
def t (a0 : Option Addr) (l0 : Nat) (c0 : Nat) (a1 : Option Addr) (l1 : Nat) (c1 : Nat) (h : Hp) (R : Rt) : Prop := D1.t R a0 l0 c0 a1 l1 c1 h
theorem ok {a0 : Option Addr} {l0 : Nat} {c0 : Nat} {a1 : Option Addr} {l1 : Nat} {c1 : Nat} {h : Hp} {R : Rt} (g : t a0 l0 c0 a1 l1 c1 h R) : HC id #[.slice a0 l0 c0, .slice a1 l1 c1] h R :=
  calls_of_den' envOk (c := C) (rs := [.tmp 4]) Tryz.func80 (by kernel_rfl) (by kernel_rfl) (by kernel_rfl) (args := [.slice a0 l0 c0, .slice a1 l1 c1]) (by kernel_rfl) (D1.ok R _ h (gSlice_intro rfl (gSlice_intro rfl (g))))
end gnomonref01_Add

namespace gnomonref01_Word
noncomputable def C : Code := bodyOf Tryz.f81
def D1.t (R : Rt) (x0 : Int) (h : Hp) : Prop :=
  letK (andI .u64 x0 4294967295) fun n1 =>
  letK (IntKind.u32.wrap n1) fun n2 =>
  0 ≤ (32 : Int) ∧ letK (shrI .u64 x0 32) fun n3 =>
  letK (IntKind.u32.wrap n3) fun n4 =>
  boxK h 108 [.int .u32 n2, .int .u32 n4] fun q5 h6 =>
  HC gnomonref01_Norm.id #[.slice (some q5) 2 2] h6 fun v7 h8 =>
  gSlice v7 fun a_9 l_9 c_9 =>
  R (.slice a_9 l_9 c_9) h8
def D1.g (R : Rt) (fr : Fr) (h : Hp) : Prop := gInt .u64 (fr 0) fun x0 => D1.t R x0 h
theorem D1.ok (R : Rt) (fr : Fr) (h : Hp) (g : D1.g R fr h) : den prog E C (retQ E [.tmp 2] R) fr h := by
  obtain ⟨x0, e0, g⟩ := gInt_elim g
  exact den_enter [(0, .int .u64 x0)] ⟨e0, trivial⟩ (by kernel_rfl) g
def t (x0 : Int) (h : Hp) (R : Rt) : Prop := D1.t R x0 h
theorem ok {x0 : Int} {h : Hp} {R : Rt} (g : t x0 h R) : HC id #[.int .u64 x0] h R :=
  calls_of_den' envOk (c := C) (rs := [.tmp 2]) Tryz.func81 (by kernel_rfl) (by kernel_rfl) (by kernel_rfl) (args := [.int .u64 x0]) (by kernel_rfl) (D1.ok R _ h (gInt_intro rfl (g)))
end gnomonref01_Word



namespace gnomonref01_From
noncomputable def C : Code := bodyOf Tryz.f84
def D2.t (R : Rt) (a3 : Option Addr) (l3 : Nat) (c3 : Nat) (h : Hp) : Prop :=
  HC gnomonref01_Norm.id #[.slice a3 l3 c3] h fun v4 h5 =>
  gSlice v4 fun a_6 l_6 c_6 =>
  R (.slice a_6 l_6 c_6) h5
def D2.g (R : Rt) (fr : Fr) (h : Hp) : Prop := gSlice (fr 3) fun a3 l3 c3 => D2.t R a3 l3 c3 h
theorem D2.ok (R : Rt) (fr : Fr) (h : Hp) (g : D2.g R fr h) : den prog E (cAt C [true, true, true]) (retQ E [.tmp 2] R) fr h := by
  obtain ⟨a3, l3, c3, e3, g⟩ := gSlice_elim g
  exact den_enter [(3, .slice a3 l3 c3)] ⟨e3, trivial⟩ (by kernel_rfl) g
def L4.g (N : Option Addr → Nat → Nat → Option Addr → Nat → Nat → Int → Hp → Prop) (fr : Fr) (h : Hp) : Prop := gSlice (fr 0) fun a0 l0 c0 => gSlice (fr 3) fun a3 l3 c3 => gInt .i64 (fr 4) fun x4 => N a0 l0 c0 a3 l3 c3 x4 h
def D5.t (R : Rt) (N4 : Option Addr → Nat → Nat → Option Addr → Nat → Nat → Int → Hp → Prop) (a0 : Option Addr) (l0 : Nat) (c0 : Nat) (a3 : Option Addr) (l3 : Nat) (c3 : Nat) (x4 : Int) (h : Hp) : Prop :=
  cond (decide (x4 < (((l0 : Nat) : Int)))) (idxK a0 l0 x4 1 fun q7 =>
  ldK h q7 fun v8 =>
  gInt .u64 v8 fun x_9 =>
  letK (andI .u64 x_9 4294967295) fun n10 =>
  letK (IntKind.u32.wrap n10) fun n11 =>
  idxK a0 l0 x4 1 fun q12 =>
  ldK h q12 fun v13 =>
  gInt .u64 v13 fun x_14 =>
  0 ≤ (32 : Int) ∧ letK (shrI .u64 x_14 32) fun n15 =>
  letK (IntKind.u32.wrap n15) fun n16 =>
  boxK h 108 [.int .u32 n11, .int .u32 n16] fun q17 h18 =>
  apK h18 108 T108 a3 l3 c3 (.slice (some q17) 2 2) fun a_19 l_19 c_19 h19 =>
  letK (IntKind.i64.wrap (x4 + 1)) fun n20 =>
  N4 a0 l0 c0 a_19 l_19 c_19 n20 h19) (D2.t R a3 l3 c3 h)
def D5.g (R : Rt) (N4 : Option Addr → Nat → Nat → Option Addr → Nat → Nat → Int → Hp → Prop) (fr : Fr) (h : Hp) : Prop := gSlice (fr 0) fun a0 l0 c0 => gSlice (fr 3) fun a3 l3 c3 => gInt .i64 (fr 4) fun x4 => D5.t R N4 a0 l0 c0 a3 l3 c3 x4 h
theorem D5.ok (R : Rt) (N4 : Option Addr → Nat → Nat → Option Addr → Nat → Nat → Int → Hp → Prop) (fr : Fr) (h : Hp) (g : D5.g R N4 fr h) : den prog E (cAt C [true, true, false, true, false, false]) (Ex.then (L4.g N4) (Ex.inBlock 0 (Ex.then (D2.g R) (retQ E [.tmp 2] R)))) fr h := by
  obtain ⟨a0, l0, c0, e0, g⟩ := gSlice_elim g
  obtain ⟨a3, l3, c3, e3, g⟩ := gSlice_elim g
  obtain ⟨x4, e4, g⟩ := gInt_elim g
  exact den_enter [(0, .slice a0 l0 c0), (3, .slice a3 l3 c3), (4, .int .i64 x4)] ⟨e0, e3, e4, trivial⟩ (by kernel_rfl) g
def L4.t (R : Rt) : Nat → Option Addr → Nat → Nat → Option Addr → Nat → Nat → Int → Hp → Prop
  | 0 => fun _ _ _ _ _ _ _ _ => False
  | n + 1 => fun a0 l0 c0 a3 l3 c3 x4 h => D5.t R (L4.t R n) a0 l0 c0 a3 l3 c3 x4 h
theorem L4.ok (R : Rt) (fr : Fr) (h : Hp) (g : L4.g (fun a0 l0 c0 a3 l3 c3 x4 h => ∃ n, L4.t R n a0 l0 c0 a3 l3 c3 x4 h) fr h) : den prog E (cAt C [true, true, false, true, false]) (Ex.inBlock 0 (Ex.then (D2.g R) (retQ E [.tmp 2] R))) fr h := by
  obtain ⟨a0, l0, c0, e0, g⟩ := gSlice_elim g
  obtain ⟨a3, l3, c3, e3, g⟩ := gSlice_elim g
  obtain ⟨x4, e4, g⟩ := gInt_elim g
  obtain ⟨n, g⟩ := g
  refine loop_ok (fun n => L4.g (L4.t R n)) (b := (cAt C [true, true, false, true, false, false])) (by kernel_rfl) (fun fr h g => ?_) (fun n => D5.ok R (L4.t R n)) n fr h (gSlice_intro e0 (gSlice_intro e3 (gInt_intro e4 (g))))
  obtain ⟨a0, l0, c0, e0, g⟩ := gSlice_elim g
  obtain ⟨a3, l3, c3, e3, g⟩ := gSlice_elim g
  obtain ⟨x4, e4, g⟩ := gInt_elim g
  exact g
theorem B6.ok (R : Rt) (fr : Fr) (h : Hp) (g : L4.g (fun a0 l0 c0 a3 l3 c3 x4 h => ∃ n, L4.t R n a0 l0 c0 a3 l3 c3 x4 h) fr h) : den prog E (cAt C [true, true, false, true]) (Ex.then (D2.g R) (retQ E [.tmp 2] R)) fr h :=
  den_block (by kernel_rfl) (L4.ok R fr h g)
def D3.t (R : Rt) (a0 : Option Addr) (l0 : Nat) (c0 : Nat) (a3 : Option Addr) (l3 : Nat) (c3 : Nat) (h : Hp) : Prop :=
  (∃ n, L4.t R n a0 l0 c0 a3 l3 c3 0 h)
def D3.g (R : Rt) (fr : Fr) (h : Hp) : Prop := gSlice (fr 0) fun a0 l0 c0 => gSlice (fr 3) fun a3 l3 c3 => D3.t R a0 l0 c0 a3 l3 c3 h
theorem D3.ok (R : Rt) (fr : Fr) (h : Hp) (g : D3.g R fr h) : den prog E (cAt C [true, true, false]) (Ex.then (D2.g R) (retQ E [.tmp 2] R)) fr h := by
  obtain ⟨a0, l0, c0, e0, g⟩ := gSlice_elim g
  obtain ⟨a3, l3, c3, e3, g⟩ := gSlice_elim g
  exact den_cut 1 (r := (cAt C [true, true, false, true])) (by kernel_rfl) (B6.ok R) (den_enter [(0, .slice a0 l0 c0), (3, .slice a3 l3 c3)] ⟨e0, e3, trivial⟩ (by kernel_rfl) g)
theorem W7.ok (R : Rt) (fr : Fr) (h : Hp) (g : D3.g R fr h) : den prog E (cAt C [true, true]) (retQ E [.tmp 2] R) fr h :=
  den_then (by kernel_rfl) (D2.ok R) (D3.ok R fr h g)
def D1.t (R : Rt) (a0 : Option Addr) (l0 : Nat) (c0 : Nat) (h : Hp) : Prop :=
  letK (IntKind.i64.wrap (2 * (((l0 : Nat) : Int)))) fun n1 =>
  mkK h 108 T108 0 n1 fun q2 h3 =>
  D3.t R a0 l0 c0 (some q2) ((0 : Int).toNat) n1.toNat h3
def D1.g (R : Rt) (fr : Fr) (h : Hp) : Prop := gSlice (fr 0) fun a0 l0 c0 => D1.t R a0 l0 c0 h
theorem D1.ok (R : Rt) (fr : Fr) (h : Hp) (g : D1.g R fr h) : den prog E C (retQ E [.tmp 2] R) fr h := by
  obtain ⟨a0, l0, c0, e0, g⟩ := gSlice_elim g
  exact den_cut 2 (r := (cAt C [true, true])) (by kernel_rfl) (W7.ok R) (den_enter [(0, .slice a0 l0 c0)] ⟨e0, trivial⟩ (by kernel_rfl) g)
def t (a0 : Option Addr) (l0 : Nat) (c0 : Nat) (h : Hp) (R : Rt) : Prop := D1.t R a0 l0 c0 h
theorem ok {a0 : Option Addr} {l0 : Nat} {c0 : Nat} {h : Hp} {R : Rt} (g : t a0 l0 c0 h R) : HC id #[.slice a0 l0 c0] h R :=
  calls_of_den' envOk (c := C) (rs := [.tmp 2]) Tryz.func84 (by kernel_rfl) (by kernel_rfl) (by kernel_rfl) (args := [.slice a0 l0 c0]) (by kernel_rfl) (D1.ok R _ h (gSlice_intro rfl (g)))
end gnomonref01_From


namespace gnomonref04_Sub
noncomputable def C : Code := bodyOf Tryz.f86
def D1.t (R : Rt) (b0_0 : Bool) (a0_1 : Option Addr) (l0_1 : Nat) (c0_1 : Nat) (b1_0 : Bool) (a1_1 : Option Addr) (l1_1 : Nat) (c1_1 : Nat) (h : Hp) : Prop :=
  boxK h 67 [.bool b0_0, .slice a0_1 l0_1 c0_1] fun q1 h2 =>
  boxK h2 67 [.bool b1_0, .slice a1_1 l1_1 c1_1] fun q3 h4 =>
  boxK h4 67 T67.zs fun q5 h6 =>
  q1.block < h6.size ∧ ldK h6 (q1.add 0) fun v7 =>
  gBool v7 fun b_8 =>
  ldK h6 (q1.add 1) fun v9 =>
  gSlice v9 fun a_10 l_10 c_10 =>
  q3.block < h6.size ∧ ldK h6 (q3.add 0) fun v11 =>
  gBool v11 fun b_12 =>
  ldK h6 (q3.add 1) fun v13 =>
  gSlice v13 fun a_14 l_14 c_14 =>
  HC gnomonref04_Flip.id #[.agg #[.bool b_12, .slice a_14 l_14 c_14]] h6 fun v15 h16 =>
  gAgg v15 fun y17 =>
  uncons y17 fun v18 y18 =>
  gBool v18 fun b_19 =>
  uncons y18 fun v20 y20 =>
  gSlice v20 fun a_21 l_21 c_21 =>
  unnil y20 <| (Pre h6.size h6 h16) ∧ HC gnomonref04_Add.id #[.agg #[.bool b_8, .slice a_10 l_10 c_10], .agg #[.bool b_19, .slice a_21 l_21 c_21]] h16 fun v22 h23 =>
  gAgg v22 fun y24 =>
  uncons y24 fun v25 y25 =>
  gBool v25 fun b_26 =>
  uncons y25 fun v27 y27 =>
  gSlice v27 fun a_28 l_28 c_28 =>
  unnil y27 <| (Pre h6.size h16 h23) ∧ stK h23 (q5.add 0) (.bool b_26) fun h29 =>
  stK h29 (q5.add 1) (.slice a_28 l_28 c_28) fun h30 =>
  ldK h30 (q5.add 0) fun v31 =>
  gBool v31 fun b_32 =>
  ldK h30 (q5.add 1) fun v33 =>
  gSlice v33 fun a_34 l_34 c_34 =>
  R (.agg #[.bool b_32, .slice a_34 l_34 c_34]) h30
def D1.g (R : Rt) (fr : Fr) (h : Hp) : Prop := gAgg (fr 0) fun z0 => uncons z0 fun w0_0 z0_0 => gBool w0_0 fun b0_0 => uncons z0_0 fun w0_1 z0_1 => gSlice w0_1 fun a0_1 l0_1 c0_1 => unnil z0_1 <| gAgg (fr 1) fun z1 => uncons z1 fun w1_0 z1_0 => gBool w1_0 fun b1_0 => uncons z1_0 fun w1_1 z1_1 => gSlice w1_1 fun a1_1 l1_1 c1_1 => unnil z1_1 <| D1.t R b0_0 a0_1 l0_1 c0_1 b1_0 a1_1 l1_1 c1_1 h
theorem D1.ok (R : Rt) (fr : Fr) (h : Hp) (g : D1.g R fr h) : den prog E C (retQ E [.cell 4 67] R) fr h := by
  obtain ⟨z0, e0, g0_0⟩ := gAgg_elim' g
  obtain ⟨w0_0, z0_0, rfl, g0_0x⟩ := uncons_elim g0_0
  obtain ⟨b0_0, rfl, g0_1⟩ := gBool_elim g0_0x
  obtain ⟨w0_1, z0_1, rfl, g0_1x⟩ := uncons_elim g0_1
  obtain ⟨a0_1, l0_1, c0_1, rfl, g0_2⟩ := gSlice_elim g0_1x
  obtain ⟨rfl, g⟩ := unnil_elim g0_2
  obtain ⟨z1, e1, g1_0⟩ := gAgg_elim' g
  obtain ⟨w1_0, z1_0, rfl, g1_0x⟩ := uncons_elim g1_0
  obtain ⟨b1_0, rfl, g1_1⟩ := gBool_elim g1_0x
  obtain ⟨w1_1, z1_1, rfl, g1_1x⟩ := uncons_elim g1_1
  obtain ⟨a1_1, l1_1, c1_1, rfl, g1_2⟩ := gSlice_elim g1_1x
  obtain ⟨rfl, g⟩ := unnil_elim g1_2
  exact den_enter [(0, .agg #[.bool b0_0, .slice a0_1 l0_1 c0_1]), (1, .agg #[.bool b1_0, .slice a1_1 l1_1 c1_1])] ⟨e0, e1, trivial⟩ (by kernel_rfl) g
def t (b0_0 : Bool) (a0_1 : Option Addr) (l0_1 : Nat) (c0_1 : Nat) (b1_0 : Bool) (a1_1 : Option Addr) (l1_1 : Nat) (c1_1 : Nat) (h : Hp) (R : Rt) : Prop := D1.t R b0_0 a0_1 l0_1 c0_1 b1_0 a1_1 l1_1 c1_1 h
theorem ok {b0_0 : Bool} {a0_1 : Option Addr} {l0_1 : Nat} {c0_1 : Nat} {b1_0 : Bool} {a1_1 : Option Addr} {l1_1 : Nat} {c1_1 : Nat} {h : Hp} {R : Rt} (g : t b0_0 a0_1 l0_1 c0_1 b1_0 a1_1 l1_1 c1_1 h R) : HC id #[.agg #[.bool b0_0, .slice a0_1 l0_1 c0_1], .agg #[.bool b1_0, .slice a1_1 l1_1 c1_1]] h R :=
  calls_of_den' envOk (c := C) (rs := [.cell 4 67]) Tryz.func86 (by kernel_rfl) (by kernel_rfl) (by kernel_rfl) (args := [.agg #[.bool b0_0, .slice a0_1 l0_1 c0_1], .agg #[.bool b1_0, .slice a1_1 l1_1 c1_1]]) (by kernel_rfl) (D1.ok R _ h (gAgg_intro rfl (uncons_intro (gBool_intro rfl (uncons_intro (gSlice_intro rfl (unnil_intro (gAgg_intro rfl (uncons_intro (gBool_intro rfl (uncons_intro (gSlice_intro rfl (unnil_intro (g))))))))))))))
end gnomonref04_Sub

namespace gnomonref04_Told
noncomputable def C : Code := bodyOf Tryz.f87
def D1.t (R : Rt) (b0_0 : Bool) (a0_1 : Option Addr) (l0_1 : Nat) (c0_1 : Nat) (h : Hp) : Prop :=
  boxK h 67 [.bool b0_0, .slice a0_1 l0_1 c0_1] fun q1 h2 =>
  boxK h2 28 T28.zs fun q3 h4 =>
  ldK h4 (q1.add 1) fun v5 =>
  gSlice v5 fun a_6 l_6 c_6 =>
  cond (decide ((((l_6 : Nat) : Int)) > 16384)) (stK h4 (q3.add 0) (.bool false) fun h7 =>
  stK h7 (q3.add 1) (.slice none 0 0) fun h8 =>
  ldK h8 (q3.add 0) fun v9 =>
  gBool v9 fun b_10 =>
  ldK h8 (q3.add 1) fun v11 =>
  gSlice v11 fun a_12 l_12 c_12 =>
  R (.tuple #[.agg #[.bool b_10, .slice a_12 l_12 c_12], .int .i64 5]) h8) (ldK h4 (q1.add 0) fun v13 =>
  gBool v13 fun b_14 =>
  ldK h4 (q1.add 1) fun v15 =>
  gSlice v15 fun a_16 l_16 c_16 =>
  HC gnomonref04_To.id #[.agg #[.bool b_14, .slice a_16 l_16 c_16]] h4 fun v17 h18 =>
  gAgg v17 fun y19 =>
  uncons y19 fun v20 y20 =>
  gBool v20 fun b_21 =>
  uncons y20 fun v22 y22 =>
  gSlice v22 fun a_23 l_23 c_23 =>
  unnil y22 <| stK h18 (q3.add 0) (.bool b_21) fun h24 =>
  stK h24 (q3.add 1) (.slice a_23 l_23 c_23) fun h25 =>
  ldK h25 (q3.add 0) fun v26 =>
  gBool v26 fun b_27 =>
  ldK h25 (q3.add 1) fun v28 =>
  gSlice v28 fun a_29 l_29 c_29 =>
  R (.tuple #[.agg #[.bool b_27, .slice a_29 l_29 c_29], .int .i64 0]) h25)
def D1.g (R : Rt) (fr : Fr) (h : Hp) : Prop := gAgg (fr 0) fun z0 => uncons z0 fun w0_0 z0_0 => gBool w0_0 fun b0_0 => uncons z0_0 fun w0_1 z0_1 => gSlice w0_1 fun a0_1 l0_1 c0_1 => unnil z0_1 <| D1.t R b0_0 a0_1 l0_1 c0_1 h
theorem D1.ok (R : Rt) (fr : Fr) (h : Hp) (g : D1.g R fr h) : den prog E C (retQ E [.cell 2 28, .tmp 3] R) fr h := by
  obtain ⟨z0, e0, g0_0⟩ := gAgg_elim' g
  obtain ⟨w0_0, z0_0, rfl, g0_0x⟩ := uncons_elim g0_0
  obtain ⟨b0_0, rfl, g0_1⟩ := gBool_elim g0_0x
  obtain ⟨w0_1, z0_1, rfl, g0_1x⟩ := uncons_elim g0_1
  obtain ⟨a0_1, l0_1, c0_1, rfl, g0_2⟩ := gSlice_elim g0_1x
  obtain ⟨rfl, g⟩ := unnil_elim g0_2
  exact den_enter [(0, .agg #[.bool b0_0, .slice a0_1 l0_1 c0_1])] ⟨e0, trivial⟩ (by kernel_rfl) g
def t (b0_0 : Bool) (a0_1 : Option Addr) (l0_1 : Nat) (c0_1 : Nat) (h : Hp) (R : Rt) : Prop := D1.t R b0_0 a0_1 l0_1 c0_1 h
theorem ok {b0_0 : Bool} {a0_1 : Option Addr} {l0_1 : Nat} {c0_1 : Nat} {h : Hp} {R : Rt} (g : t b0_0 a0_1 l0_1 c0_1 h R) : HC id #[.agg #[.bool b0_0, .slice a0_1 l0_1 c0_1]] h R :=
  calls_of_den' envOk (c := C) (rs := [.cell 2 28, .tmp 3]) Tryz.func87 (by kernel_rfl) (by kernel_rfl) (by kernel_rfl) (args := [.agg #[.bool b0_0, .slice a0_1 l0_1 c0_1]]) (by kernel_rfl) (D1.ok R _ h (gAgg_intro rfl (uncons_intro (gBool_intro rfl (uncons_intro (gSlice_intro rfl (unnil_intro (g))))))))
end gnomonref04_Told

namespace gnomonref04_Flip
noncomputable def C : Code := bodyOf Tryz.f88
def D1.t (R : Rt) (b0_0 : Bool) (a0_1 : Option Addr) (l0_1 : Nat) (c0_1 : Nat) (h : Hp) : Prop :=
  boxK h 67 [.bool b0_0, .slice a0_1 l0_1 c0_1] fun q1 h2 =>
  boxK h2 67 T67.zs fun q3 h4 =>
  ldK h4 (q1.add 0) fun v5 =>
  gBool v5 fun b_6 =>
  ldK h4 (q1.add 1) fun v7 =>
  gSlice v7 fun a_8 l_8 c_8 =>
  HC gnomonref04_Mk.id #[.bool (!b_6), .slice a_8 l_8 c_8] h4 fun v9 h10 =>
  gAgg v9 fun y11 =>
  uncons y11 fun v12 y12 =>
  gBool v12 fun b_13 =>
  uncons y12 fun v14 y14 =>
  gSlice v14 fun a_15 l_15 c_15 =>
  unnil y14 <| stK h10 (q3.add 0) (.bool b_13) fun h16 =>
  stK h16 (q3.add 1) (.slice a_15 l_15 c_15) fun h17 =>
  ldK h17 (q3.add 0) fun v18 =>
  gBool v18 fun b_19 =>
  ldK h17 (q3.add 1) fun v20 =>
  gSlice v20 fun a_21 l_21 c_21 =>
  R (.agg #[.bool b_19, .slice a_21 l_21 c_21]) h17
def D1.g (R : Rt) (fr : Fr) (h : Hp) : Prop := gAgg (fr 0) fun z0 => uncons z0 fun w0_0 z0_0 => gBool w0_0 fun b0_0 => uncons z0_0 fun w0_1 z0_1 => gSlice w0_1 fun a0_1 l0_1 c0_1 => unnil z0_1 <| D1.t R b0_0 a0_1 l0_1 c0_1 h
theorem D1.ok (R : Rt) (fr : Fr) (h : Hp) (g : D1.g R fr h) : den prog E C (retQ E [.cell 2 67] R) fr h := by
  obtain ⟨z0, e0, g0_0⟩ := gAgg_elim' g
  obtain ⟨w0_0, z0_0, rfl, g0_0x⟩ := uncons_elim g0_0
  obtain ⟨b0_0, rfl, g0_1⟩ := gBool_elim g0_0x
  obtain ⟨w0_1, z0_1, rfl, g0_1x⟩ := uncons_elim g0_1
  obtain ⟨a0_1, l0_1, c0_1, rfl, g0_2⟩ := gSlice_elim g0_1x
  obtain ⟨rfl, g⟩ := unnil_elim g0_2
  exact den_enter [(0, .agg #[.bool b0_0, .slice a0_1 l0_1 c0_1])] ⟨e0, trivial⟩ (by kernel_rfl) g
def t (b0_0 : Bool) (a0_1 : Option Addr) (l0_1 : Nat) (c0_1 : Nat) (h : Hp) (R : Rt) : Prop := D1.t R b0_0 a0_1 l0_1 c0_1 h
theorem ok {b0_0 : Bool} {a0_1 : Option Addr} {l0_1 : Nat} {c0_1 : Nat} {h : Hp} {R : Rt} (g : t b0_0 a0_1 l0_1 c0_1 h R) : HC id #[.agg #[.bool b0_0, .slice a0_1 l0_1 c0_1]] h R :=
  calls_of_den' envOk (c := C) (rs := [.cell 2 67]) Tryz.func88 (by kernel_rfl) (by kernel_rfl) (by kernel_rfl) (args := [.agg #[.bool b0_0, .slice a0_1 l0_1 c0_1]]) (by kernel_rfl) (D1.ok R _ h (gAgg_intro rfl (uncons_intro (gBool_intro rfl (uncons_intro (gSlice_intro rfl (unnil_intro (g))))))))
end gnomonref04_Flip

namespace gnomonref04_Add
noncomputable def C : Code := bodyOf Tryz.f89
def D1.t (R : Rt) (b0_0 : Bool) (a0_1 : Option Addr) (l0_1 : Nat) (c0_1 : Nat) (b1_0 : Bool) (a1_1 : Option Addr) (l1_1 : Nat) (c1_1 : Nat) (h : Hp) : Prop :=
  boxK h 67 [.bool b0_0, .slice a0_1 l0_1 c0_1] fun q1 h2 =>
  boxK h2 67 [.bool b1_0, .slice a1_1 l1_1 c1_1] fun q3 h4 =>
  boxK h4 67 T67.zs fun q5 h6 =>
  ldK h6 (q1.add 0) fun v7 =>
  gBool v7 fun b_8 =>
  ldK h6 (q3.add 0) fun v9 =>
  gBool v9 fun b_10 =>
  cond (b_8 == b_10) ((q1.add 0).block < h6.size ∧ ldK h6 (q1.add 0) fun v11 =>
  gBool v11 fun b_12 =>
  (q1.add 1).block < h6.size ∧ ldK h6 (q1.add 1) fun v13 =>
  gSlice v13 fun a_14 l_14 c_14 =>
  (q3.add 1).block < h6.size ∧ ldK h6 (q3.add 1) fun v15 =>
  gSlice v15 fun a_16 l_16 c_16 =>
  HC gnomonref01_Add.id #[.slice a_14 l_14 c_14, .slice a_16 l_16 c_16] h6 fun v17 h18 =>
  gSlice v17 fun a_19 l_19 c_19 =>
  (Pre h6.size h6 h18) ∧ HC gnomonref04_Mk.id #[.bool b_12, .slice a_19 l_19 c_19] h18 fun v20 h21 =>
  gAgg v20 fun y22 =>
  uncons y22 fun v23 y23 =>
  gBool v23 fun b_24 =>
  uncons y23 fun v25 y25 =>
  gSlice v25 fun a_26 l_26 c_26 =>
  unnil y25 <| (Pre h6.size h18 h21) ∧ stK h21 (q5.add 0) (.bool b_24) fun h27 =>
  stK h27 (q5.add 1) (.slice a_26 l_26 c_26) fun h28 =>
  ldK h28 (q5.add 0) fun v29 =>
  gBool v29 fun b_30 =>
  ldK h28 (q5.add 1) fun v31 =>
  gSlice v31 fun a_32 l_32 c_32 =>
  R (.agg #[.bool b_30, .slice a_32 l_32 c_32]) h28) (ldK h6 (q1.add 1) fun v33 =>
  gSlice v33 fun a_34 l_34 c_34 =>
  ldK h6 (q3.add 1) fun v35 =>
  gSlice v35 fun a_36 l_36 c_36 =>
  HC gnomonref01_Cmp.id #[.slice a_34 l_34 c_34, .slice a_36 l_36 c_36] h6 fun v37 h38 =>
  gInt .i64 v37 fun x_39 =>
  cond (decide (x_39 ≥ 0)) ((q1.add 0).block < h38.size ∧ ldK h38 (q1.add 0) fun v40 =>
  gBool v40 fun b_41 =>
  (q1.add 1).block < h38.size ∧ ldK h38 (q1.add 1) fun v42 =>
  gSlice v42 fun a_43 l_43 c_43 =>
  (q3.add 1).block < h38.size ∧ ldK h38 (q3.add 1) fun v44 =>
  gSlice v44 fun a_45 l_45 c_45 =>
  HC gnomonref01_Sub.id #[.slice a_43 l_43 c_43, .slice a_45 l_45 c_45] h38 fun v46 h47 =>
  gSlice v46 fun a_48 l_48 c_48 =>
  (Pre h38.size h38 h47) ∧ HC gnomonref04_Mk.id #[.bool b_41, .slice a_48 l_48 c_48] h47 fun v49 h50 =>
  gAgg v49 fun y51 =>
  uncons y51 fun v52 y52 =>
  gBool v52 fun b_53 =>
  uncons y52 fun v54 y54 =>
  gSlice v54 fun a_55 l_55 c_55 =>
  unnil y54 <| (Pre h38.size h47 h50) ∧ stK h50 (q5.add 0) (.bool b_53) fun h56 =>
  stK h56 (q5.add 1) (.slice a_55 l_55 c_55) fun h57 =>
  ldK h57 (q5.add 0) fun v58 =>
  gBool v58 fun b_59 =>
  ldK h57 (q5.add 1) fun v60 =>
  gSlice v60 fun a_61 l_61 c_61 =>
  R (.agg #[.bool b_59, .slice a_61 l_61 c_61]) h57) ((q3.add 0).block < h38.size ∧ ldK h38 (q3.add 0) fun v62 =>
  gBool v62 fun b_63 =>
  (q3.add 1).block < h38.size ∧ ldK h38 (q3.add 1) fun v64 =>
  gSlice v64 fun a_65 l_65 c_65 =>
  (q1.add 1).block < h38.size ∧ ldK h38 (q1.add 1) fun v66 =>
  gSlice v66 fun a_67 l_67 c_67 =>
  HC gnomonref01_Sub.id #[.slice a_65 l_65 c_65, .slice a_67 l_67 c_67] h38 fun v68 h69 =>
  gSlice v68 fun a_70 l_70 c_70 =>
  (Pre h38.size h38 h69) ∧ HC gnomonref04_Mk.id #[.bool b_63, .slice a_70 l_70 c_70] h69 fun v71 h72 =>
  gAgg v71 fun y73 =>
  uncons y73 fun v74 y74 =>
  gBool v74 fun b_75 =>
  uncons y74 fun v76 y76 =>
  gSlice v76 fun a_77 l_77 c_77 =>
  unnil y76 <| (Pre h38.size h69 h72) ∧ stK h72 (q5.add 0) (.bool b_75) fun h78 =>
  stK h78 (q5.add 1) (.slice a_77 l_77 c_77) fun h79 =>
  ldK h79 (q5.add 0) fun v80 =>
  gBool v80 fun b_81 =>
  ldK h79 (q5.add 1) fun v82 =>
  gSlice v82 fun a_83 l_83 c_83 =>
  R (.agg #[.bool b_81, .slice a_83 l_83 c_83]) h79))
def D1.g (R : Rt) (fr : Fr) (h : Hp) : Prop := gAgg (fr 0) fun z0 => uncons z0 fun w0_0 z0_0 => gBool w0_0 fun b0_0 => uncons z0_0 fun w0_1 z0_1 => gSlice w0_1 fun a0_1 l0_1 c0_1 => unnil z0_1 <| gAgg (fr 1) fun z1 => uncons z1 fun w1_0 z1_0 => gBool w1_0 fun b1_0 => uncons z1_0 fun w1_1 z1_1 => gSlice w1_1 fun a1_1 l1_1 c1_1 => unnil z1_1 <| D1.t R b0_0 a0_1 l0_1 c0_1 b1_0 a1_1 l1_1 c1_1 h
theorem D1.ok (R : Rt) (fr : Fr) (h : Hp) (g : D1.g R fr h) : den prog E C (retQ E [.cell 4 67] R) fr h := by
  obtain ⟨z0, e0, g0_0⟩ := gAgg_elim' g
  obtain ⟨w0_0, z0_0, rfl, g0_0x⟩ := uncons_elim g0_0
  obtain ⟨b0_0, rfl, g0_1⟩ := gBool_elim g0_0x
  obtain ⟨w0_1, z0_1, rfl, g0_1x⟩ := uncons_elim g0_1
  obtain ⟨a0_1, l0_1, c0_1, rfl, g0_2⟩ := gSlice_elim g0_1x
  obtain ⟨rfl, g⟩ := unnil_elim g0_2
  obtain ⟨z1, e1, g1_0⟩ := gAgg_elim' g
  obtain ⟨w1_0, z1_0, rfl, g1_0x⟩ := uncons_elim g1_0
  obtain ⟨b1_0, rfl, g1_1⟩ := gBool_elim g1_0x
  obtain ⟨w1_1, z1_1, rfl, g1_1x⟩ := uncons_elim g1_1
  obtain ⟨a1_1, l1_1, c1_1, rfl, g1_2⟩ := gSlice_elim g1_1x
  obtain ⟨rfl, g⟩ := unnil_elim g1_2
  exact den_enter [(0, .agg #[.bool b0_0, .slice a0_1 l0_1 c0_1]), (1, .agg #[.bool b1_0, .slice a1_1 l1_1 c1_1])] ⟨e0, e1, trivial⟩ (by kernel_rfl) g
def t (b0_0 : Bool) (a0_1 : Option Addr) (l0_1 : Nat) (c0_1 : Nat) (b1_0 : Bool) (a1_1 : Option Addr) (l1_1 : Nat) (c1_1 : Nat) (h : Hp) (R : Rt) : Prop := D1.t R b0_0 a0_1 l0_1 c0_1 b1_0 a1_1 l1_1 c1_1 h
theorem ok {b0_0 : Bool} {a0_1 : Option Addr} {l0_1 : Nat} {c0_1 : Nat} {b1_0 : Bool} {a1_1 : Option Addr} {l1_1 : Nat} {c1_1 : Nat} {h : Hp} {R : Rt} (g : t b0_0 a0_1 l0_1 c0_1 b1_0 a1_1 l1_1 c1_1 h R) : HC id #[.agg #[.bool b0_0, .slice a0_1 l0_1 c0_1], .agg #[.bool b1_0, .slice a1_1 l1_1 c1_1]] h R :=
  calls_of_den' envOk (c := C) (rs := [.cell 4 67]) Tryz.func89 (by kernel_rfl) (by kernel_rfl) (by kernel_rfl) (args := [.agg #[.bool b0_0, .slice a0_1 l0_1 c0_1], .agg #[.bool b1_0, .slice a1_1 l1_1 c1_1]]) (by kernel_rfl) (D1.ok R _ h (gAgg_intro rfl (uncons_intro (gBool_intro rfl (uncons_intro (gSlice_intro rfl (unnil_intro (gAgg_intro rfl (uncons_intro (gBool_intro rfl (uncons_intro (gSlice_intro rfl (unnil_intro (g))))))))))))))
end gnomonref04_Add

namespace gnomonref04_Mul
noncomputable def C : Code := bodyOf Tryz.f90
def D1.t (R : Rt) (b0_0 : Bool) (a0_1 : Option Addr) (l0_1 : Nat) (c0_1 : Nat) (b1_0 : Bool) (a1_1 : Option Addr) (l1_1 : Nat) (c1_1 : Nat) (h : Hp) : Prop :=
  boxK h 67 [.bool b0_0, .slice a0_1 l0_1 c0_1] fun q1 h2 =>
  boxK h2 67 [.bool b1_0, .slice a1_1 l1_1 c1_1] fun q3 h4 =>
  boxK h4 67 T67.zs fun q5 h6 =>
  (q1.add 0).block < h6.size ∧ ldK h6 (q1.add 0) fun v7 =>
  gBool v7 fun b_8 =>
  (q3.add 0).block < h6.size ∧ ldK h6 (q3.add 0) fun v9 =>
  gBool v9 fun b_10 =>
  (q1.add 1).block < h6.size ∧ ldK h6 (q1.add 1) fun v11 =>
  gSlice v11 fun a_12 l_12 c_12 =>
  (q3.add 1).block < h6.size ∧ ldK h6 (q3.add 1) fun v13 =>
  gSlice v13 fun a_14 l_14 c_14 =>
  HC gnomonref01_Mul.id #[.slice a_12 l_12 c_12, .slice a_14 l_14 c_14] h6 fun v15 h16 =>
  gSlice v15 fun a_17 l_17 c_17 =>
  (Pre h6.size h6 h16) ∧ HC gnomonref04_Mk.id #[.bool (!(b_8 == b_10)), .slice a_17 l_17 c_17] h16 fun v18 h19 =>
  gAgg v18 fun y20 =>
  uncons y20 fun v21 y21 =>
  gBool v21 fun b_22 =>
  uncons y21 fun v23 y23 =>
  gSlice v23 fun a_24 l_24 c_24 =>
  unnil y23 <| (Pre h6.size h16 h19) ∧ stK h19 (q5.add 0) (.bool b_22) fun h25 =>
  stK h25 (q5.add 1) (.slice a_24 l_24 c_24) fun h26 =>
  ldK h26 (q5.add 0) fun v27 =>
  gBool v27 fun b_28 =>
  ldK h26 (q5.add 1) fun v29 =>
  gSlice v29 fun a_30 l_30 c_30 =>
  R (.agg #[.bool b_28, .slice a_30 l_30 c_30]) h26
def D1.g (R : Rt) (fr : Fr) (h : Hp) : Prop := gAgg (fr 0) fun z0 => uncons z0 fun w0_0 z0_0 => gBool w0_0 fun b0_0 => uncons z0_0 fun w0_1 z0_1 => gSlice w0_1 fun a0_1 l0_1 c0_1 => unnil z0_1 <| gAgg (fr 1) fun z1 => uncons z1 fun w1_0 z1_0 => gBool w1_0 fun b1_0 => uncons z1_0 fun w1_1 z1_1 => gSlice w1_1 fun a1_1 l1_1 c1_1 => unnil z1_1 <| D1.t R b0_0 a0_1 l0_1 c0_1 b1_0 a1_1 l1_1 c1_1 h
theorem D1.ok (R : Rt) (fr : Fr) (h : Hp) (g : D1.g R fr h) : den prog E C (retQ E [.cell 4 67] R) fr h := by
  obtain ⟨z0, e0, g0_0⟩ := gAgg_elim' g
  obtain ⟨w0_0, z0_0, rfl, g0_0x⟩ := uncons_elim g0_0
  obtain ⟨b0_0, rfl, g0_1⟩ := gBool_elim g0_0x
  obtain ⟨w0_1, z0_1, rfl, g0_1x⟩ := uncons_elim g0_1
  obtain ⟨a0_1, l0_1, c0_1, rfl, g0_2⟩ := gSlice_elim g0_1x
  obtain ⟨rfl, g⟩ := unnil_elim g0_2
  obtain ⟨z1, e1, g1_0⟩ := gAgg_elim' g
  obtain ⟨w1_0, z1_0, rfl, g1_0x⟩ := uncons_elim g1_0
  obtain ⟨b1_0, rfl, g1_1⟩ := gBool_elim g1_0x
  obtain ⟨w1_1, z1_1, rfl, g1_1x⟩ := uncons_elim g1_1
  obtain ⟨a1_1, l1_1, c1_1, rfl, g1_2⟩ := gSlice_elim g1_1x
  obtain ⟨rfl, g⟩ := unnil_elim g1_2
  exact den_enter [(0, .agg #[.bool b0_0, .slice a0_1 l0_1 c0_1]), (1, .agg #[.bool b1_0, .slice a1_1 l1_1 c1_1])] ⟨e0, e1, trivial⟩ (by kernel_rfl) g
def t (b0_0 : Bool) (a0_1 : Option Addr) (l0_1 : Nat) (c0_1 : Nat) (b1_0 : Bool) (a1_1 : Option Addr) (l1_1 : Nat) (c1_1 : Nat) (h : Hp) (R : Rt) : Prop := D1.t R b0_0 a0_1 l0_1 c0_1 b1_0 a1_1 l1_1 c1_1 h
theorem ok {b0_0 : Bool} {a0_1 : Option Addr} {l0_1 : Nat} {c0_1 : Nat} {b1_0 : Bool} {a1_1 : Option Addr} {l1_1 : Nat} {c1_1 : Nat} {h : Hp} {R : Rt} (g : t b0_0 a0_1 l0_1 c0_1 b1_0 a1_1 l1_1 c1_1 h R) : HC id #[.agg #[.bool b0_0, .slice a0_1 l0_1 c0_1], .agg #[.bool b1_0, .slice a1_1 l1_1 c1_1]] h R :=
  calls_of_den' envOk (c := C) (rs := [.cell 4 67]) Tryz.func90 (by kernel_rfl) (by kernel_rfl) (by kernel_rfl) (args := [.agg #[.bool b0_0, .slice a0_1 l0_1 c0_1], .agg #[.bool b1_0, .slice a1_1 l1_1 c1_1]]) (by kernel_rfl) (D1.ok R _ h (gAgg_intro rfl (uncons_intro (gBool_intro rfl (uncons_intro (gSlice_intro rfl (unnil_intro (gAgg_intro rfl (uncons_intro (gBool_intro rfl (uncons_intro (gSlice_intro rfl (unnil_intro (g))))))))))))))
end gnomonref04_Mul

namespace gnomonref04_FloorDiv
noncomputable def C : Code := bodyOf Tryz.f91
def D2.t (R : Rt) (q2 : Addr) (q3 : Addr) (q4 : Addr) (h : Hp) : Prop :=
  ldK h (q2.add 0) fun v35 =>
  gBool v35 fun b_36 =>
  ldK h (q2.add 1) fun v37 =>
  gSlice v37 fun a_38 l_38 c_38 =>
  ldK h (q3.add 0) fun v39 =>
  gBool v39 fun b_40 =>
  ldK h (q3.add 1) fun v41 =>
  gSlice v41 fun a_42 l_42 c_42 =>
  HC gnomonref04_Floor.id #[.agg #[.bool b_36, .slice a_38 l_38 c_38], .agg #[.bool b_40, .slice a_42 l_42 c_42]] h fun v43 h44 =>
  gTup v43 fun y45 =>
  uncons y45 fun v46 y46 =>
  gAgg v46 fun y47 =>
  uncons y47 fun v48 y48 =>
  gBool v48 fun b_49 =>
  uncons y48 fun v50 y50 =>
  gSlice v50 fun a_51 l_51 c_51 =>
  unnil y50 <| uncons y46 fun v52 y52 =>
  gAgg v52 fun y53 =>
  uncons y53 fun v54 y54 =>
  gBool v54 fun b_55 =>
  uncons y54 fun v56 y56 =>
  gSlice v56 fun a_57 l_57 c_57 =>
  unnil y56 <| unnil y52 <| boxK h44 67 T67.zs fun q58 h59 =>
  boxK h59 67 T67.zs fun q60 h61 =>
  stK h61 (q58.add 0) (.bool b_49) fun h62 =>
  stK h62 (q58.add 1) (.slice a_51 l_51 c_51) fun h63 =>
  stK h63 (q60.add 0) (.bool b_55) fun h64 =>
  stK h64 (q60.add 1) (.slice a_57 l_57 c_57) fun h65 =>
  ldK h65 (q58.add 0) fun v66 =>
  gBool v66 fun b_67 =>
  ldK h65 (q58.add 1) fun v68 =>
  gSlice v68 fun a_69 l_69 c_69 =>
  stK h65 (q4.add 0) (.bool b_67) fun h70 =>
  stK h70 (q4.add 1) (.slice a_69 l_69 c_69) fun h71 =>
  ldK h71 (q4.add 0) fun v72 =>
  gBool v72 fun b_73 =>
  ldK h71 (q4.add 1) fun v74 =>
  gSlice v74 fun a_75 l_75 c_75 =>
  R (.agg #[.bool b_73, .slice a_75 l_75 c_75]) h71
def D2.g (R : Rt) (fr : Fr) (h : Hp) : Prop := gPtrS (fr 2) fun q2 => gPtrS (fr 3) fun q3 => gPtrS (fr 4) fun q4 => D2.t R q2 q3 q4 h
theorem D2.ok (R : Rt) (fr : Fr) (h : Hp) (g : D2.g R fr h) : den prog E (cAt C [true, true]) (retQ E [.cell 4 67] R) fr h := by
  obtain ⟨q2, e2, g⟩ := gPtrS_elim g
  obtain ⟨q3, e3, g⟩ := gPtrS_elim g
  obtain ⟨q4, e4, g⟩ := gPtrS_elim g
  exact den_enter [(2, .pointer (some q2)), (3, .pointer (some q3)), (4, .pointer (some q4))] ⟨e2, e3, e4, trivial⟩ (by kernel_rfl) g
def D1.t (R : Rt) (b0_0 : Bool) (a0_1 : Option Addr) (l0_1 : Nat) (c0_1 : Nat) (b1_0 : Bool) (a1_1 : Option Addr) (l1_1 : Nat) (c1_1 : Nat) (h : Hp) : Prop :=
  boxK h 67 [.bool b0_0, .slice a0_1 l0_1 c0_1] fun q1 h2 =>
  boxK h2 67 [.bool b1_0, .slice a1_1 l1_1 c1_1] fun q3 h4 =>
  boxK h4 67 T67.zs fun q5 h6 =>
  ldK h6 (q3.add 0) fun v7 =>
  gBool v7 fun b_8 =>
  cond b_8 (q1.block < h6.size ∧ ldK h6 (q1.add 0) fun v9 =>
  gBool v9 fun b_10 =>
  ldK h6 (q1.add 1) fun v11 =>
  gSlice v11 fun a_12 l_12 c_12 =>
  HC gnomonref04_Flip.id #[.agg #[.bool b_10, .slice a_12 l_12 c_12]] h6 fun v13 h14 =>
  gAgg v13 fun y15 =>
  uncons y15 fun v16 y16 =>
  gBool v16 fun b_17 =>
  uncons y16 fun v18 y18 =>
  gSlice v18 fun a_19 l_19 c_19 =>
  unnil y18 <| (Pre h6.size h6 h14) ∧ q3.block < h6.size ∧ ldK h14 (q3.add 0) fun v20 =>
  gBool v20 fun b_21 =>
  ldK h14 (q3.add 1) fun v22 =>
  gSlice v22 fun a_23 l_23 c_23 =>
  HC gnomonref04_Flip.id #[.agg #[.bool b_21, .slice a_23 l_23 c_23]] h14 fun v24 h25 =>
  gAgg v24 fun y26 =>
  uncons y26 fun v27 y27 =>
  gBool v27 fun b_28 =>
  uncons y27 fun v29 y29 =>
  gSlice v29 fun a_30 l_30 c_30 =>
  unnil y29 <| (Pre h6.size h14 h25) ∧ stK h25 (q1.add 0) (.bool b_17) fun h31 =>
  stK h31 (q1.add 1) (.slice a_19 l_19 c_19) fun h32 =>
  stK h32 (q3.add 0) (.bool b_28) fun h33 =>
  stK h33 (q3.add 1) (.slice a_30 l_30 c_30) fun h34 =>
  D2.t R q1 q3 q5 h34) (D2.t R q1 q3 q5 h6)
def D1.g (R : Rt) (fr : Fr) (h : Hp) : Prop := gAgg (fr 0) fun z0 => uncons z0 fun w0_0 z0_0 => gBool w0_0 fun b0_0 => uncons z0_0 fun w0_1 z0_1 => gSlice w0_1 fun a0_1 l0_1 c0_1 => unnil z0_1 <| gAgg (fr 1) fun z1 => uncons z1 fun w1_0 z1_0 => gBool w1_0 fun b1_0 => uncons z1_0 fun w1_1 z1_1 => gSlice w1_1 fun a1_1 l1_1 c1_1 => unnil z1_1 <| D1.t R b0_0 a0_1 l0_1 c0_1 b1_0 a1_1 l1_1 c1_1 h
theorem D1.ok (R : Rt) (fr : Fr) (h : Hp) (g : D1.g R fr h) : den prog E C (retQ E [.cell 4 67] R) fr h := by
  obtain ⟨z0, e0, g0_0⟩ := gAgg_elim' g
  obtain ⟨w0_0, z0_0, rfl, g0_0x⟩ := uncons_elim g0_0
  obtain ⟨b0_0, rfl, g0_1⟩ := gBool_elim g0_0x
  obtain ⟨w0_1, z0_1, rfl, g0_1x⟩ := uncons_elim g0_1
  obtain ⟨a0_1, l0_1, c0_1, rfl, g0_2⟩ := gSlice_elim g0_1x
  obtain ⟨rfl, g⟩ := unnil_elim g0_2
  obtain ⟨z1, e1, g1_0⟩ := gAgg_elim' g
  obtain ⟨w1_0, z1_0, rfl, g1_0x⟩ := uncons_elim g1_0
  obtain ⟨b1_0, rfl, g1_1⟩ := gBool_elim g1_0x
  obtain ⟨w1_1, z1_1, rfl, g1_1x⟩ := uncons_elim g1_1
  obtain ⟨a1_1, l1_1, c1_1, rfl, g1_2⟩ := gSlice_elim g1_1x
  obtain ⟨rfl, g⟩ := unnil_elim g1_2
  exact den_cut 2 (r := (cAt C [true, true])) (by kernel_rfl) (D2.ok R) (den_enter [(0, .agg #[.bool b0_0, .slice a0_1 l0_1 c0_1]), (1, .agg #[.bool b1_0, .slice a1_1 l1_1 c1_1])] ⟨e0, e1, trivial⟩ (by kernel_rfl) g)
def t (b0_0 : Bool) (a0_1 : Option Addr) (l0_1 : Nat) (c0_1 : Nat) (b1_0 : Bool) (a1_1 : Option Addr) (l1_1 : Nat) (c1_1 : Nat) (h : Hp) (R : Rt) : Prop := D1.t R b0_0 a0_1 l0_1 c0_1 b1_0 a1_1 l1_1 c1_1 h
theorem ok {b0_0 : Bool} {a0_1 : Option Addr} {l0_1 : Nat} {c0_1 : Nat} {b1_0 : Bool} {a1_1 : Option Addr} {l1_1 : Nat} {c1_1 : Nat} {h : Hp} {R : Rt} (g : t b0_0 a0_1 l0_1 c0_1 b1_0 a1_1 l1_1 c1_1 h R) : HC id #[.agg #[.bool b0_0, .slice a0_1 l0_1 c0_1], .agg #[.bool b1_0, .slice a1_1 l1_1 c1_1]] h R :=
  calls_of_den' envOk (c := C) (rs := [.cell 4 67]) Tryz.func91 (by kernel_rfl) (by kernel_rfl) (by kernel_rfl) (args := [.agg #[.bool b0_0, .slice a0_1 l0_1 c0_1], .agg #[.bool b1_0, .slice a1_1 l1_1 c1_1]]) (by kernel_rfl) (D1.ok R _ h (gAgg_intro rfl (uncons_intro (gBool_intro rfl (uncons_intro (gSlice_intro rfl (unnil_intro (gAgg_intro rfl (uncons_intro (gBool_intro rfl (uncons_intro (gSlice_intro rfl (unnil_intro (g))))))))))))))
end gnomonref04_FloorDiv

namespace gnomonref04_CeilDiv
noncomputable def C : Code := bodyOf Tryz.f92
def D1.t (R : Rt) (b0_0 : Bool) (a0_1 : Option Addr) (l0_1 : Nat) (c0_1 : Nat) (b1_0 : Bool) (a1_1 : Option Addr) (l1_1 : Nat) (c1_1 : Nat) (h : Hp) : Prop :=
  boxK h 67 [.bool b0_0, .slice a0_1 l0_1 c0_1] fun q1 h2 =>
  boxK h2 67 [.bool b1_0, .slice a1_1 l1_1 c1_1] fun q3 h4 =>
  boxK h4 67 T67.zs fun q5 h6 =>
  q1.block < h6.size ∧ ldK h6 (q1.add 0) fun v7 =>
  gBool v7 fun b_8 =>
  ldK h6 (q1.add 1) fun v9 =>
  gSlice v9 fun a_10 l_10 c_10 =>
  HC gnomonref04_Flip.id #[.agg #[.bool b_8, .slice a_10 l_10 c_10]] h6 fun v11 h12 =>
  gAgg v11 fun y13 =>
  uncons y13 fun v14 y14 =>
  gBool v14 fun b_15 =>
  uncons y14 fun v16 y16 =>
  gSlice v16 fun a_17 l_17 c_17 =>
  unnil y16 <| (Pre h6.size h6 h12) ∧ q3.block < h6.size ∧ ldK h12 (q3.add 0) fun v18 =>
  gBool v18 fun b_19 =>
  ldK h12 (q3.add 1) fun v20 =>
  gSlice v20 fun a_21 l_21 c_21 =>
  HC gnomonref04_FloorDiv.id #[.agg #[.bool b_15, .slice a_17 l_17 c_17], .agg #[.bool b_19, .slice a_21 l_21 c_21]] h12 fun v22 h23 =>
  gAgg v22 fun y24 =>
  uncons y24 fun v25 y25 =>
  gBool v25 fun b_26 =>
  uncons y25 fun v27 y27 =>
  gSlice v27 fun a_28 l_28 c_28 =>
  unnil y27 <| (Pre h6.size h12 h23) ∧ HC gnomonref04_Flip.id #[.agg #[.bool b_26, .slice a_28 l_28 c_28]] h23 fun v29 h30 =>
  gAgg v29 fun y31 =>
  uncons y31 fun v32 y32 =>
  gBool v32 fun b_33 =>
  uncons y32 fun v34 y34 =>
  gSlice v34 fun a_35 l_35 c_35 =>
  unnil y34 <| (Pre h6.size h23 h30) ∧ stK h30 (q5.add 0) (.bool b_33) fun h36 =>
  stK h36 (q5.add 1) (.slice a_35 l_35 c_35) fun h37 =>
  ldK h37 (q5.add 0) fun v38 =>
  gBool v38 fun b_39 =>
  ldK h37 (q5.add 1) fun v40 =>
  gSlice v40 fun a_41 l_41 c_41 =>
  R (.agg #[.bool b_39, .slice a_41 l_41 c_41]) h37
def D1.g (R : Rt) (fr : Fr) (h : Hp) : Prop := gAgg (fr 0) fun z0 => uncons z0 fun w0_0 z0_0 => gBool w0_0 fun b0_0 => uncons z0_0 fun w0_1 z0_1 => gSlice w0_1 fun a0_1 l0_1 c0_1 => unnil z0_1 <| gAgg (fr 1) fun z1 => uncons z1 fun w1_0 z1_0 => gBool w1_0 fun b1_0 => uncons z1_0 fun w1_1 z1_1 => gSlice w1_1 fun a1_1 l1_1 c1_1 => unnil z1_1 <| D1.t R b0_0 a0_1 l0_1 c0_1 b1_0 a1_1 l1_1 c1_1 h
theorem D1.ok (R : Rt) (fr : Fr) (h : Hp) (g : D1.g R fr h) : den prog E C (retQ E [.cell 4 67] R) fr h := by
  obtain ⟨z0, e0, g0_0⟩ := gAgg_elim' g
  obtain ⟨w0_0, z0_0, rfl, g0_0x⟩ := uncons_elim g0_0
  obtain ⟨b0_0, rfl, g0_1⟩ := gBool_elim g0_0x
  obtain ⟨w0_1, z0_1, rfl, g0_1x⟩ := uncons_elim g0_1
  obtain ⟨a0_1, l0_1, c0_1, rfl, g0_2⟩ := gSlice_elim g0_1x
  obtain ⟨rfl, g⟩ := unnil_elim g0_2
  obtain ⟨z1, e1, g1_0⟩ := gAgg_elim' g
  obtain ⟨w1_0, z1_0, rfl, g1_0x⟩ := uncons_elim g1_0
  obtain ⟨b1_0, rfl, g1_1⟩ := gBool_elim g1_0x
  obtain ⟨w1_1, z1_1, rfl, g1_1x⟩ := uncons_elim g1_1
  obtain ⟨a1_1, l1_1, c1_1, rfl, g1_2⟩ := gSlice_elim g1_1x
  obtain ⟨rfl, g⟩ := unnil_elim g1_2
  exact den_enter [(0, .agg #[.bool b0_0, .slice a0_1 l0_1 c0_1]), (1, .agg #[.bool b1_0, .slice a1_1 l1_1 c1_1])] ⟨e0, e1, trivial⟩ (by kernel_rfl) g
def t (b0_0 : Bool) (a0_1 : Option Addr) (l0_1 : Nat) (c0_1 : Nat) (b1_0 : Bool) (a1_1 : Option Addr) (l1_1 : Nat) (c1_1 : Nat) (h : Hp) (R : Rt) : Prop := D1.t R b0_0 a0_1 l0_1 c0_1 b1_0 a1_1 l1_1 c1_1 h
theorem ok {b0_0 : Bool} {a0_1 : Option Addr} {l0_1 : Nat} {c0_1 : Nat} {b1_0 : Bool} {a1_1 : Option Addr} {l1_1 : Nat} {c1_1 : Nat} {h : Hp} {R : Rt} (g : t b0_0 a0_1 l0_1 c0_1 b1_0 a1_1 l1_1 c1_1 h R) : HC id #[.agg #[.bool b0_0, .slice a0_1 l0_1 c0_1], .agg #[.bool b1_0, .slice a1_1 l1_1 c1_1]] h R :=
  calls_of_den' envOk (c := C) (rs := [.cell 4 67]) Tryz.func92 (by kernel_rfl) (by kernel_rfl) (by kernel_rfl) (args := [.agg #[.bool b0_0, .slice a0_1 l0_1 c0_1], .agg #[.bool b1_0, .slice a1_1 l1_1 c1_1]]) (by kernel_rfl) (D1.ok R _ h (gAgg_intro rfl (uncons_intro (gBool_intro rfl (uncons_intro (gSlice_intro rfl (unnil_intro (gAgg_intro rfl (uncons_intro (gBool_intro rfl (uncons_intro (gSlice_intro rfl (unnil_intro (g))))))))))))))
end gnomonref04_CeilDiv

namespace gnomonref04_NearDiv
noncomputable def C : Code := bodyOf Tryz.f93
def D2.t (R : Rt) (q2 : Addr) (q3 : Addr) (q4 : Addr) (h : Hp) : Prop :=
  ldK h (q2.add 0) fun v35 =>
  gBool v35 fun b_36 =>
  ldK h (q2.add 1) fun v37 =>
  gSlice v37 fun a_38 l_38 c_38 =>
  ldK h (q3.add 0) fun v39 =>
  gBool v39 fun b_40 =>
  ldK h (q3.add 1) fun v41 =>
  gSlice v41 fun a_42 l_42 c_42 =>
  HC gnomonref04_Near.id #[.agg #[.bool b_36, .slice a_38 l_38 c_38], .agg #[.bool b_40, .slice a_42 l_42 c_42]] h fun v43 h44 =>
  gAgg v43 fun y45 =>
  uncons y45 fun v46 y46 =>
  gBool v46 fun b_47 =>
  uncons y46 fun v48 y48 =>
  gSlice v48 fun a_49 l_49 c_49 =>
  unnil y48 <| stK h44 (q4.add 0) (.bool b_47) fun h50 =>
  stK h50 (q4.add 1) (.slice a_49 l_49 c_49) fun h51 =>
  ldK h51 (q4.add 0) fun v52 =>
  gBool v52 fun b_53 =>
  ldK h51 (q4.add 1) fun v54 =>
  gSlice v54 fun a_55 l_55 c_55 =>
  R (.agg #[.bool b_53, .slice a_55 l_55 c_55]) h51
def D2.g (R : Rt) (fr : Fr) (h : Hp) : Prop := gPtrS (fr 2) fun q2 => gPtrS (fr 3) fun q3 => gPtrS (fr 4) fun q4 => D2.t R q2 q3 q4 h
theorem D2.ok (R : Rt) (fr : Fr) (h : Hp) (g : D2.g R fr h) : den prog E (cAt C [true, true]) (retQ E [.cell 4 67] R) fr h := by
  obtain ⟨q2, e2, g⟩ := gPtrS_elim g
  obtain ⟨q3, e3, g⟩ := gPtrS_elim g
  obtain ⟨q4, e4, g⟩ := gPtrS_elim g
  exact den_enter [(2, .pointer (some q2)), (3, .pointer (some q3)), (4, .pointer (some q4))] ⟨e2, e3, e4, trivial⟩ (by kernel_rfl) g
def D1.t (R : Rt) (b0_0 : Bool) (a0_1 : Option Addr) (l0_1 : Nat) (c0_1 : Nat) (b1_0 : Bool) (a1_1 : Option Addr) (l1_1 : Nat) (c1_1 : Nat) (h : Hp) : Prop :=
  boxK h 67 [.bool b0_0, .slice a0_1 l0_1 c0_1] fun q1 h2 =>
  boxK h2 67 [.bool b1_0, .slice a1_1 l1_1 c1_1] fun q3 h4 =>
  boxK h4 67 T67.zs fun q5 h6 =>
  ldK h6 (q3.add 0) fun v7 =>
  gBool v7 fun b_8 =>
  cond b_8 (q1.block < h6.size ∧ ldK h6 (q1.add 0) fun v9 =>
  gBool v9 fun b_10 =>
  ldK h6 (q1.add 1) fun v11 =>
  gSlice v11 fun a_12 l_12 c_12 =>
  HC gnomonref04_Flip.id #[.agg #[.bool b_10, .slice a_12 l_12 c_12]] h6 fun v13 h14 =>
  gAgg v13 fun y15 =>
  uncons y15 fun v16 y16 =>
  gBool v16 fun b_17 =>
  uncons y16 fun v18 y18 =>
  gSlice v18 fun a_19 l_19 c_19 =>
  unnil y18 <| (Pre h6.size h6 h14) ∧ q3.block < h6.size ∧ ldK h14 (q3.add 0) fun v20 =>
  gBool v20 fun b_21 =>
  ldK h14 (q3.add 1) fun v22 =>
  gSlice v22 fun a_23 l_23 c_23 =>
  HC gnomonref04_Flip.id #[.agg #[.bool b_21, .slice a_23 l_23 c_23]] h14 fun v24 h25 =>
  gAgg v24 fun y26 =>
  uncons y26 fun v27 y27 =>
  gBool v27 fun b_28 =>
  uncons y27 fun v29 y29 =>
  gSlice v29 fun a_30 l_30 c_30 =>
  unnil y29 <| (Pre h6.size h14 h25) ∧ stK h25 (q1.add 0) (.bool b_17) fun h31 =>
  stK h31 (q1.add 1) (.slice a_19 l_19 c_19) fun h32 =>
  stK h32 (q3.add 0) (.bool b_28) fun h33 =>
  stK h33 (q3.add 1) (.slice a_30 l_30 c_30) fun h34 =>
  D2.t R q1 q3 q5 h34) (D2.t R q1 q3 q5 h6)
def D1.g (R : Rt) (fr : Fr) (h : Hp) : Prop := gAgg (fr 0) fun z0 => uncons z0 fun w0_0 z0_0 => gBool w0_0 fun b0_0 => uncons z0_0 fun w0_1 z0_1 => gSlice w0_1 fun a0_1 l0_1 c0_1 => unnil z0_1 <| gAgg (fr 1) fun z1 => uncons z1 fun w1_0 z1_0 => gBool w1_0 fun b1_0 => uncons z1_0 fun w1_1 z1_1 => gSlice w1_1 fun a1_1 l1_1 c1_1 => unnil z1_1 <| D1.t R b0_0 a0_1 l0_1 c0_1 b1_0 a1_1 l1_1 c1_1 h
theorem D1.ok (R : Rt) (fr : Fr) (h : Hp) (g : D1.g R fr h) : den prog E C (retQ E [.cell 4 67] R) fr h := by
  obtain ⟨z0, e0, g0_0⟩ := gAgg_elim' g
  obtain ⟨w0_0, z0_0, rfl, g0_0x⟩ := uncons_elim g0_0
  obtain ⟨b0_0, rfl, g0_1⟩ := gBool_elim g0_0x
  obtain ⟨w0_1, z0_1, rfl, g0_1x⟩ := uncons_elim g0_1
  obtain ⟨a0_1, l0_1, c0_1, rfl, g0_2⟩ := gSlice_elim g0_1x
  obtain ⟨rfl, g⟩ := unnil_elim g0_2
  obtain ⟨z1, e1, g1_0⟩ := gAgg_elim' g
  obtain ⟨w1_0, z1_0, rfl, g1_0x⟩ := uncons_elim g1_0
  obtain ⟨b1_0, rfl, g1_1⟩ := gBool_elim g1_0x
  obtain ⟨w1_1, z1_1, rfl, g1_1x⟩ := uncons_elim g1_1
  obtain ⟨a1_1, l1_1, c1_1, rfl, g1_2⟩ := gSlice_elim g1_1x
  obtain ⟨rfl, g⟩ := unnil_elim g1_2
  exact den_cut 2 (r := (cAt C [true, true])) (by kernel_rfl) (D2.ok R) (den_enter [(0, .agg #[.bool b0_0, .slice a0_1 l0_1 c0_1]), (1, .agg #[.bool b1_0, .slice a1_1 l1_1 c1_1])] ⟨e0, e1, trivial⟩ (by kernel_rfl) g)
def t (b0_0 : Bool) (a0_1 : Option Addr) (l0_1 : Nat) (c0_1 : Nat) (b1_0 : Bool) (a1_1 : Option Addr) (l1_1 : Nat) (c1_1 : Nat) (h : Hp) (R : Rt) : Prop := D1.t R b0_0 a0_1 l0_1 c0_1 b1_0 a1_1 l1_1 c1_1 h
theorem ok {b0_0 : Bool} {a0_1 : Option Addr} {l0_1 : Nat} {c0_1 : Nat} {b1_0 : Bool} {a1_1 : Option Addr} {l1_1 : Nat} {c1_1 : Nat} {h : Hp} {R : Rt} (g : t b0_0 a0_1 l0_1 c0_1 b1_0 a1_1 l1_1 c1_1 h R) : HC id #[.agg #[.bool b0_0, .slice a0_1 l0_1 c0_1], .agg #[.bool b1_0, .slice a1_1 l1_1 c1_1]] h R :=
  calls_of_den' envOk (c := C) (rs := [.cell 4 67]) Tryz.func93 (by kernel_rfl) (by kernel_rfl) (by kernel_rfl) (args := [.agg #[.bool b0_0, .slice a0_1 l0_1 c0_1], .agg #[.bool b1_0, .slice a1_1 l1_1 c1_1]]) (by kernel_rfl) (D1.ok R _ h (gAgg_intro rfl (uncons_intro (gBool_intro rfl (uncons_intro (gSlice_intro rfl (unnil_intro (gAgg_intro rfl (uncons_intro (gBool_intro rfl (uncons_intro (gSlice_intro rfl (unnil_intro (g))))))))))))))
end gnomonref04_NearDiv

namespace gnomonref04_Mod
noncomputable def C : Code := bodyOf Tryz.f94
def D1.t (R : Rt) (b0_0 : Bool) (a0_1 : Option Addr) (l0_1 : Nat) (c0_1 : Nat) (b1_0 : Bool) (a1_1 : Option Addr) (l1_1 : Nat) (c1_1 : Nat) (h : Hp) : Prop :=
  boxK h 67 [.bool b0_0, .slice a0_1 l0_1 c0_1] fun q1 h2 =>
  boxK h2 67 [.bool b1_0, .slice a1_1 l1_1 c1_1] fun q3 h4 =>
  boxK h4 67 T67.zs fun q5 h6 =>
  q1.block < h6.size ∧ ldK h6 (q1.add 0) fun v7 =>
  gBool v7 fun b_8 =>
  ldK h6 (q1.add 1) fun v9 =>
  gSlice v9 fun a_10 l_10 c_10 =>
  q3.block < h6.size ∧ ldK h6 (q3.add 0) fun v11 =>
  gBool v11 fun b_12 =>
  ldK h6 (q3.add 1) fun v13 =>
  gSlice v13 fun a_14 l_14 c_14 =>
  q1.block < h6.size ∧ ldK h6 (q1.add 0) fun v15 =>
  gBool v15 fun b_16 =>
  ldK h6 (q1.add 1) fun v17 =>
  gSlice v17 fun a_18 l_18 c_18 =>
  q3.block < h6.size ∧ ldK h6 (q3.add 0) fun v19 =>
  gBool v19 fun b_20 =>
  ldK h6 (q3.add 1) fun v21 =>
  gSlice v21 fun a_22 l_22 c_22 =>
  HC gnomonref04_FloorDiv.id #[.agg #[.bool b_16, .slice a_18 l_18 c_18], .agg #[.bool b_20, .slice a_22 l_22 c_22]] h6 fun v23 h24 =>
  gAgg v23 fun y25 =>
  uncons y25 fun v26 y26 =>
  gBool v26 fun b_27 =>
  uncons y26 fun v28 y28 =>
  gSlice v28 fun a_29 l_29 c_29 =>
  unnil y28 <| (Pre h6.size h6 h24) ∧ HC gnomonref04_Mul.id #[.agg #[.bool b_12, .slice a_14 l_14 c_14], .agg #[.bool b_27, .slice a_29 l_29 c_29]] h24 fun v30 h31 =>
  gAgg v30 fun y32 =>
  uncons y32 fun v33 y33 =>
  gBool v33 fun b_34 =>
  uncons y33 fun v35 y35 =>
  gSlice v35 fun a_36 l_36 c_36 =>
  unnil y35 <| (Pre h6.size h24 h31) ∧ HC gnomonref04_Sub.id #[.agg #[.bool b_8, .slice a_10 l_10 c_10], .agg #[.bool b_34, .slice a_36 l_36 c_36]] h31 fun v37 h38 =>
  gAgg v37 fun y39 =>
  uncons y39 fun v40 y40 =>
  gBool v40 fun b_41 =>
  uncons y40 fun v42 y42 =>
  gSlice v42 fun a_43 l_43 c_43 =>
  unnil y42 <| (Pre h6.size h31 h38) ∧ stK h38 (q5.add 0) (.bool b_41) fun h44 =>
  stK h44 (q5.add 1) (.slice a_43 l_43 c_43) fun h45 =>
  ldK h45 (q5.add 0) fun v46 =>
  gBool v46 fun b_47 =>
  ldK h45 (q5.add 1) fun v48 =>
  gSlice v48 fun a_49 l_49 c_49 =>
  R (.agg #[.bool b_47, .slice a_49 l_49 c_49]) h45
def D1.g (R : Rt) (fr : Fr) (h : Hp) : Prop := gAgg (fr 0) fun z0 => uncons z0 fun w0_0 z0_0 => gBool w0_0 fun b0_0 => uncons z0_0 fun w0_1 z0_1 => gSlice w0_1 fun a0_1 l0_1 c0_1 => unnil z0_1 <| gAgg (fr 1) fun z1 => uncons z1 fun w1_0 z1_0 => gBool w1_0 fun b1_0 => uncons z1_0 fun w1_1 z1_1 => gSlice w1_1 fun a1_1 l1_1 c1_1 => unnil z1_1 <| D1.t R b0_0 a0_1 l0_1 c0_1 b1_0 a1_1 l1_1 c1_1 h
theorem D1.ok (R : Rt) (fr : Fr) (h : Hp) (g : D1.g R fr h) : den prog E C (retQ E [.cell 4 67] R) fr h := by
  obtain ⟨z0, e0, g0_0⟩ := gAgg_elim' g
  obtain ⟨w0_0, z0_0, rfl, g0_0x⟩ := uncons_elim g0_0
  obtain ⟨b0_0, rfl, g0_1⟩ := gBool_elim g0_0x
  obtain ⟨w0_1, z0_1, rfl, g0_1x⟩ := uncons_elim g0_1
  obtain ⟨a0_1, l0_1, c0_1, rfl, g0_2⟩ := gSlice_elim g0_1x
  obtain ⟨rfl, g⟩ := unnil_elim g0_2
  obtain ⟨z1, e1, g1_0⟩ := gAgg_elim' g
  obtain ⟨w1_0, z1_0, rfl, g1_0x⟩ := uncons_elim g1_0
  obtain ⟨b1_0, rfl, g1_1⟩ := gBool_elim g1_0x
  obtain ⟨w1_1, z1_1, rfl, g1_1x⟩ := uncons_elim g1_1
  obtain ⟨a1_1, l1_1, c1_1, rfl, g1_2⟩ := gSlice_elim g1_1x
  obtain ⟨rfl, g⟩ := unnil_elim g1_2
  exact den_enter [(0, .agg #[.bool b0_0, .slice a0_1 l0_1 c0_1]), (1, .agg #[.bool b1_0, .slice a1_1 l1_1 c1_1])] ⟨e0, e1, trivial⟩ (by kernel_rfl) g
def t (b0_0 : Bool) (a0_1 : Option Addr) (l0_1 : Nat) (c0_1 : Nat) (b1_0 : Bool) (a1_1 : Option Addr) (l1_1 : Nat) (c1_1 : Nat) (h : Hp) (R : Rt) : Prop := D1.t R b0_0 a0_1 l0_1 c0_1 b1_0 a1_1 l1_1 c1_1 h
theorem ok {b0_0 : Bool} {a0_1 : Option Addr} {l0_1 : Nat} {c0_1 : Nat} {b1_0 : Bool} {a1_1 : Option Addr} {l1_1 : Nat} {c1_1 : Nat} {h : Hp} {R : Rt} (g : t b0_0 a0_1 l0_1 c0_1 b1_0 a1_1 l1_1 c1_1 h R) : HC id #[.agg #[.bool b0_0, .slice a0_1 l0_1 c0_1], .agg #[.bool b1_0, .slice a1_1 l1_1 c1_1]] h R :=
  calls_of_den' envOk (c := C) (rs := [.cell 4 67]) Tryz.func94 (by kernel_rfl) (by kernel_rfl) (by kernel_rfl) (args := [.agg #[.bool b0_0, .slice a0_1 l0_1 c0_1], .agg #[.bool b1_0, .slice a1_1 l1_1 c1_1]]) (by kernel_rfl) (D1.ok R _ h (gAgg_intro rfl (uncons_intro (gBool_intro rfl (uncons_intro (gSlice_intro rfl (unnil_intro (gAgg_intro rfl (uncons_intro (gBool_intro rfl (uncons_intro (gSlice_intro rfl (unnil_intro (g))))))))))))))
end gnomonref04_Mod

namespace gnomonref04_Shl
noncomputable def C : Code := bodyOf Tryz.f95
def D1.t (R : Rt) (b0_0 : Bool) (a0_1 : Option Addr) (l0_1 : Nat) (c0_1 : Nat) (x1 : Int) (h : Hp) : Prop :=
  boxK h 67 [.bool b0_0, .slice a0_1 l0_1 c0_1] fun q1 h2 =>
  boxK h2 67 T67.zs fun q3 h4 =>
  (q1.add 0).block < h4.size ∧ ldK h4 (q1.add 0) fun v5 =>
  gBool v5 fun b_6 =>
  (q1.add 1).block < h4.size ∧ ldK h4 (q1.add 1) fun v7 =>
  gSlice v7 fun a_8 l_8 c_8 =>
  HC gnomonref01_Shl.id #[.slice a_8 l_8 c_8, .int .i64 x1] h4 fun v9 h10 =>
  gSlice v9 fun a_11 l_11 c_11 =>
  (Pre h4.size h4 h10) ∧ HC gnomonref04_Mk.id #[.bool b_6, .slice a_11 l_11 c_11] h10 fun v12 h13 =>
  gAgg v12 fun y14 =>
  uncons y14 fun v15 y15 =>
  gBool v15 fun b_16 =>
  uncons y15 fun v17 y17 =>
  gSlice v17 fun a_18 l_18 c_18 =>
  unnil y17 <| (Pre h4.size h10 h13) ∧ stK h13 (q3.add 0) (.bool b_16) fun h19 =>
  stK h19 (q3.add 1) (.slice a_18 l_18 c_18) fun h20 =>
  ldK h20 (q3.add 0) fun v21 =>
  gBool v21 fun b_22 =>
  ldK h20 (q3.add 1) fun v23 =>
  gSlice v23 fun a_24 l_24 c_24 =>
  R (.agg #[.bool b_22, .slice a_24 l_24 c_24]) h20
def D1.g (R : Rt) (fr : Fr) (h : Hp) : Prop := gAgg (fr 0) fun z0 => uncons z0 fun w0_0 z0_0 => gBool w0_0 fun b0_0 => uncons z0_0 fun w0_1 z0_1 => gSlice w0_1 fun a0_1 l0_1 c0_1 => unnil z0_1 <| gInt .i64 (fr 1) fun x1 => D1.t R b0_0 a0_1 l0_1 c0_1 x1 h
theorem D1.ok (R : Rt) (fr : Fr) (h : Hp) (g : D1.g R fr h) : den prog E C (retQ E [.cell 4 67] R) fr h := by
  obtain ⟨z0, e0, g0_0⟩ := gAgg_elim' g
  obtain ⟨w0_0, z0_0, rfl, g0_0x⟩ := uncons_elim g0_0
  obtain ⟨b0_0, rfl, g0_1⟩ := gBool_elim g0_0x
  obtain ⟨w0_1, z0_1, rfl, g0_1x⟩ := uncons_elim g0_1
  obtain ⟨a0_1, l0_1, c0_1, rfl, g0_2⟩ := gSlice_elim g0_1x
  obtain ⟨rfl, g⟩ := unnil_elim g0_2
  obtain ⟨x1, e1, g⟩ := gInt_elim g
  exact den_enter [(0, .agg #[.bool b0_0, .slice a0_1 l0_1 c0_1]), (1, .int .i64 x1)] ⟨e0, e1, trivial⟩ (by kernel_rfl) g
def t (b0_0 : Bool) (a0_1 : Option Addr) (l0_1 : Nat) (c0_1 : Nat) (x1 : Int) (h : Hp) (R : Rt) : Prop := D1.t R b0_0 a0_1 l0_1 c0_1 x1 h
theorem ok {b0_0 : Bool} {a0_1 : Option Addr} {l0_1 : Nat} {c0_1 : Nat} {x1 : Int} {h : Hp} {R : Rt} (g : t b0_0 a0_1 l0_1 c0_1 x1 h R) : HC id #[.agg #[.bool b0_0, .slice a0_1 l0_1 c0_1], .int .i64 x1] h R :=
  calls_of_den' envOk (c := C) (rs := [.cell 4 67]) Tryz.func95 (by kernel_rfl) (by kernel_rfl) (by kernel_rfl) (args := [.agg #[.bool b0_0, .slice a0_1 l0_1 c0_1], .int .i64 x1]) (by kernel_rfl) (D1.ok R _ h (gAgg_intro rfl (uncons_intro (gBool_intro rfl (uncons_intro (gSlice_intro rfl (unnil_intro (gInt_intro rfl (g)))))))))
end gnomonref04_Shl





namespace num_way_more
noncomputable def C : Code := bodyOf Tryz.f100
def D1.t (R : Rt) (x0 : Int) (b1 : Bool) (b2 : Bool) (b3 : Bool) (x4 : Int) (h : Hp) : Prop :=
  cond (x0 == 0) (cond b1 (R (.bool b3) h) (R (.bool false) h)) (cond (x0 == 1) (cond (!b1) (R (.bool b3) h) (R (.bool false) h)) (cond (decide (x4 > 0)) (R (.bool true) h) (cond (x4 == 0) (R (.bool b2) h) (R (.bool false) h))))
def D1.g (R : Rt) (fr : Fr) (h : Hp) : Prop := gInt .i64 (fr 0) fun x0 => gBool (fr 1) fun b1 => gBool (fr 2) fun b2 => gBool (fr 3) fun b3 => gInt .i64 (fr 4) fun x4 => D1.t R x0 b1 b2 b3 x4 h
theorem D1.ok (R : Rt) (fr : Fr) (h : Hp) (g : D1.g R fr h) : den prog E C (retQ E [.tmp 10] R) fr h := by
  obtain ⟨x0, e0, g⟩ := gInt_elim g
  obtain ⟨b1, e1, g⟩ := gBool_elim g
  obtain ⟨b2, e2, g⟩ := gBool_elim g
  obtain ⟨b3, e3, g⟩ := gBool_elim g
  obtain ⟨x4, e4, g⟩ := gInt_elim g
  exact den_enter [(0, .int .i64 x0), (1, .bool b1), (2, .bool b2), (3, .bool b3), (4, .int .i64 x4)] ⟨e0, e1, e2, e3, e4, trivial⟩ (by kernel_rfl) g
def t (x0 : Int) (b1 : Bool) (b2 : Bool) (b3 : Bool) (x4 : Int) (h : Hp) (R : Rt) : Prop := D1.t R x0 b1 b2 b3 x4 h
theorem ok {x0 : Int} {b1 : Bool} {b2 : Bool} {b3 : Bool} {x4 : Int} {h : Hp} {R : Rt} (g : t x0 b1 b2 b3 x4 h R) : HC id #[.int .i64 x0, .bool b1, .bool b2, .bool b3, .int .i64 x4] h R :=
  calls_of_den' envOk (c := C) (rs := [.tmp 10]) Tryz.func100 (by kernel_rfl) (by kernel_rfl) (by kernel_rfl) (args := [.int .i64 x0, .bool b1, .bool b2, .bool b3, .int .i64 x4]) (by kernel_rfl) (D1.ok R _ h (gInt_intro rfl (gBool_intro rfl (gBool_intro rfl (gBool_intro rfl (gInt_intro rfl (g)))))))
end num_way_more

namespace bits_TrailingZeros64
noncomputable def C : Code := bodyOf Tryz.f101
def D2.t (R : Rt) (x0 : Int) (h : Hp) : Prop :=
  letK (IntKind.u64.wrap (0 - x0)) fun n1 =>
  letK (andI .u64 x0 n1) fun n2 =>
  letK (IntKind.u64.wrap (n2 * 285870213051353865)) fun n3 =>
  0 ≤ (58 : Int) ∧ letK (shrI .u64 n3 58) fun n4 =>
  idxK (some ⟨0, 0, none⟩) 64 n4 1 fun q5 =>
  ldK h q5 fun v6 =>
  gInt .u8 v6 fun x_7 =>
  letK (IntKind.i64.wrap x_7) fun n8 =>
  R (.int .i64 n8) h
def D2.g (R : Rt) (fr : Fr) (h : Hp) : Prop := gInt .u64 (fr 0) fun x0 => D2.t R x0 h
theorem D2.ok (R : Rt) (fr : Fr) (h : Hp) (g : D2.g R fr h) : den prog E (cAt C [true, true]) (retQ E [.tmp 2] R) fr h := by
  obtain ⟨x0, e0, g⟩ := gInt_elim g
  exact den_enter [(0, .int .u64 x0)] ⟨e0, trivial⟩ (by kernel_rfl) g
def D1.t (R : Rt) (x0 : Int) (h : Hp) : Prop :=
  cond (x0 == 0) (R (.int .i64 64) h) (D2.t R x0 h)
def D1.g (R : Rt) (fr : Fr) (h : Hp) : Prop := gInt .u64 (fr 0) fun x0 => D1.t R x0 h
theorem D1.ok (R : Rt) (fr : Fr) (h : Hp) (g : D1.g R fr h) : den prog E C (retQ E [.tmp 2] R) fr h := by
  obtain ⟨x0, e0, g⟩ := gInt_elim g
  exact den_cut 2 (r := (cAt C [true, true])) (by kernel_rfl) (D2.ok R) (den_enter [(0, .int .u64 x0)] ⟨e0, trivial⟩ (by kernel_rfl) g)
def t (x0 : Int) (h : Hp) (R : Rt) : Prop := D1.t R x0 h
theorem ok {x0 : Int} {h : Hp} {R : Rt} (g : t x0 h R) : HC id #[.int .u64 x0] h R :=
  calls_of_den' envOk (c := C) (rs := [.tmp 2]) Tryz.func101 (by kernel_rfl) (by kernel_rfl) (by kernel_rfl) (args := [.int .u64 x0]) (by kernel_rfl) (D1.ok R _ h (gInt_intro rfl (g)))
end bits_TrailingZeros64

namespace bits_Div64
noncomputable def C : Code := bodyOf Tryz.f102
def D5.t (R : Rt) (x2 : Int) (x8 : Int) (x14 : Int) (x15 : Int) (x17 : Int) (x18 : Int) (h : Hp) : Prop :=
  letK (IntKind.u64.wrap (x15 * 4294967296)) fun n27 =>
  letK (IntKind.u64.wrap (n27 + x18)) fun n28 =>
  letK (IntKind.u64.wrap (x17 * 4294967296)) fun n29 =>
  letK (IntKind.u64.wrap (n29 + x14)) fun n30 =>
  letK (IntKind.u64.wrap (x18 * x2)) fun n31 =>
  letK (IntKind.u64.wrap (n30 - n31)) fun n32 =>
  0 ≤ x8 ∧ letK (shrI .u64 n32 x8) fun n33 =>
  R (.tuple #[.int .u64 n28, .int .u64 n33]) h
def D5.g (R : Rt) (fr : Fr) (h : Hp) : Prop := gInt .u64 (fr 2) fun x2 => gInt .u64 (fr 8) fun x8 => gInt .u64 (fr 14) fun x14 => gInt .u64 (fr 15) fun x15 => gInt .u64 (fr 17) fun x17 => gInt .u64 (fr 18) fun x18 => D5.t R x2 x8 x14 x15 x17 x18 h
theorem D5.ok (R : Rt) (fr : Fr) (h : Hp) (g : D5.g R fr h) : den prog E (cAt C [true, true, true, true, true, true, true, true, true, true, true, true, true, true, true, true, true, true, true]) (retQ E [.tmp 6, .tmp 7] R) fr h := by
  obtain ⟨x2, e2, g⟩ := gInt_elim g
  obtain ⟨x8, e8, g⟩ := gInt_elim g
  obtain ⟨x14, e14, g⟩ := gInt_elim g
  obtain ⟨x15, e15, g⟩ := gInt_elim g
  obtain ⟨x17, e17, g⟩ := gInt_elim g
  obtain ⟨x18, e18, g⟩ := gInt_elim g
  exact den_enter [(2, .int .u64 x2), (8, .int .u64 x8), (14, .int .u64 x14), (15, .int .u64 x15), (17, .int .u64 x17), (18, .int .u64 x18)] ⟨e2, e8, e14, e15, e17, e18, trivial⟩ (by kernel_rfl) g
def L6.g (N : Int → Int → Int → Int → Int → Int → Int → Int → Int → Hp → Prop) (fr : Fr) (h : Hp) : Prop := gInt .u64 (fr 2) fun x2 => gInt .u64 (fr 8) fun x8 => gInt .u64 (fr 9) fun x9 => gInt .u64 (fr 10) fun x10 => gInt .u64 (fr 14) fun x14 => gInt .u64 (fr 15) fun x15 => gInt .u64 (fr 16) fun x16 => gInt .u64 (fr 17) fun x17 => gInt .u64 (fr 18) fun x18 => N x2 x8 x9 x10 x14 x15 x16 x17 x18 h
def D8.t (R : Rt) (N6 : Int → Int → Int → Int → Int → Int → Int → Int → Int → Hp → Prop) (x2 : Int) (x8 : Int) (x9 : Int) (x10 : Int) (x14 : Int) (x15 : Int) (x16 : Int) (x17 : Int) (x18 : Int) (h : Hp) : Prop :=
  letK (IntKind.u64.wrap (x18 - 1)) fun n34 =>
  letK (IntKind.u64.wrap (x16 + x9)) fun n35 =>
  cond (decide (n35 ≥ 4294967296)) (D5.t R x2 x8 x14 x15 x17 n34 h) (N6 x2 x8 x9 x10 x14 x15 n35 x17 n34 h)
def D8.g (R : Rt) (N6 : Int → Int → Int → Int → Int → Int → Int → Int → Int → Hp → Prop) (fr : Fr) (h : Hp) : Prop := gInt .u64 (fr 2) fun x2 => gInt .u64 (fr 8) fun x8 => gInt .u64 (fr 9) fun x9 => gInt .u64 (fr 10) fun x10 => gInt .u64 (fr 14) fun x14 => gInt .u64 (fr 15) fun x15 => gInt .u64 (fr 16) fun x16 => gInt .u64 (fr 17) fun x17 => gInt .u64 (fr 18) fun x18 => D8.t R N6 x2 x8 x9 x10 x14 x15 x16 x17 x18 h
theorem D8.ok (R : Rt) (N6 : Int → Int → Int → Int → Int → Int → Int → Int → Int → Hp → Prop) (fr : Fr) (h : Hp) (g : D8.g R N6 fr h) : den prog E (cAt C [true, true, true, true, true, true, true, true, true, true, true, true, true, true, true, true, true, true, false, false, false, true]) (Ex.then (L6.g N6) (Ex.inBlock 2 (Ex.then (D5.g R) (retQ E [.tmp 6, .tmp 7] R)))) fr h := by
  obtain ⟨x2, e2, g⟩ := gInt_elim g
  obtain ⟨x8, e8, g⟩ := gInt_elim g
  obtain ⟨x9, e9, g⟩ := gInt_elim g
  obtain ⟨x10, e10, g⟩ := gInt_elim g
  obtain ⟨x14, e14, g⟩ := gInt_elim g
  obtain ⟨x15, e15, g⟩ := gInt_elim g
  obtain ⟨x16, e16, g⟩ := gInt_elim g
  obtain ⟨x17, e17, g⟩ := gInt_elim g
  obtain ⟨x18, e18, g⟩ := gInt_elim g
  exact den_enter [(2, .int .u64 x2), (8, .int .u64 x8), (9, .int .u64 x9), (10, .int .u64 x10), (14, .int .u64 x14), (15, .int .u64 x15), (16, .int .u64 x16), (17, .int .u64 x17), (18, .int .u64 x18)] ⟨e2, e8, e9, e10, e14, e15, e16, e17, e18, trivial⟩ (by kernel_rfl) g
def D7.t (R : Rt) (N6 : Int → Int → Int → Int → Int → Int → Int → Int → Int → Hp → Prop) (x2 : Int) (x8 : Int) (x9 : Int) (x10 : Int) (x14 : Int) (x15 : Int) (x16 : Int) (x17 : Int) (x18 : Int) (h : Hp) : Prop :=
  cond (decide (x18 ≥ 4294967296)) (D8.t R N6 x2 x8 x9 x10 x14 x15 x16 x17 x18 h) (letK (IntKind.u64.wrap (x18 * x10)) fun n36 =>
  letK (IntKind.u64.wrap (4294967296 * x16)) fun n37 =>
  letK (IntKind.u64.wrap (n37 + x14)) fun n38 =>
  cond (decide (n36 > n38)) (D8.t R N6 x2 x8 x9 x10 x14 x15 x16 x17 x18 h) (D5.t R x2 x8 x14 x15 x17 x18 h))
def D7.g (R : Rt) (N6 : Int → Int → Int → Int → Int → Int → Int → Int → Int → Hp → Prop) (fr : Fr) (h : Hp) : Prop := gInt .u64 (fr 2) fun x2 => gInt .u64 (fr 8) fun x8 => gInt .u64 (fr 9) fun x9 => gInt .u64 (fr 10) fun x10 => gInt .u64 (fr 14) fun x14 => gInt .u64 (fr 15) fun x15 => gInt .u64 (fr 16) fun x16 => gInt .u64 (fr 17) fun x17 => gInt .u64 (fr 18) fun x18 => D7.t R N6 x2 x8 x9 x10 x14 x15 x16 x17 x18 h
theorem D7.ok (R : Rt) (N6 : Int → Int → Int → Int → Int → Int → Int → Int → Int → Hp → Prop) (fr : Fr) (h : Hp) (g : D7.g R N6 fr h) : den prog E (cAt C [true, true, true, true, true, true, true, true, true, true, true, true, true, true, true, true, true, true, false, false, false]) (Ex.then (L6.g N6) (Ex.inBlock 2 (Ex.then (D5.g R) (retQ E [.tmp 6, .tmp 7] R)))) fr h := by
  obtain ⟨x2, e2, g⟩ := gInt_elim g
  obtain ⟨x8, e8, g⟩ := gInt_elim g
  obtain ⟨x9, e9, g⟩ := gInt_elim g
  obtain ⟨x10, e10, g⟩ := gInt_elim g
  obtain ⟨x14, e14, g⟩ := gInt_elim g
  obtain ⟨x15, e15, g⟩ := gInt_elim g
  obtain ⟨x16, e16, g⟩ := gInt_elim g
  obtain ⟨x17, e17, g⟩ := gInt_elim g
  obtain ⟨x18, e18, g⟩ := gInt_elim g
  exact den_cut 1 (r := (cAt C [true, true, true, true, true, true, true, true, true, true, true, true, true, true, true, true, true, true, false, false, false, true])) (by kernel_rfl) (D8.ok R N6) (den_enter [(2, .int .u64 x2), (8, .int .u64 x8), (9, .int .u64 x9), (10, .int .u64 x10), (14, .int .u64 x14), (15, .int .u64 x15), (16, .int .u64 x16), (17, .int .u64 x17), (18, .int .u64 x18)] ⟨e2, e8, e9, e10, e14, e15, e16, e17, e18, trivial⟩ (by kernel_rfl) g)
def L6.t (R : Rt) : Nat → Int → Int → Int → Int → Int → Int → Int → Int → Int → Hp → Prop
  | 0 => fun _ _ _ _ _ _ _ _ _ _ => False
  | n + 1 => fun x2 x8 x9 x10 x14 x15 x16 x17 x18 h => D7.t R (L6.t R n) x2 x8 x9 x10 x14 x15 x16 x17 x18 h
theorem L6.ok (R : Rt) (fr : Fr) (h : Hp) (g : L6.g (fun x2 x8 x9 x10 x14 x15 x16 x17 x18 h => ∃ n, L6.t R n x2 x8 x9 x10 x14 x15 x16 x17 x18 h) fr h) : den prog E (cAt C [true, true, true, true, true, true, true, true, true, true, true, true, true, true, true, true, true, true, false, false]) (Ex.inBlock 2 (Ex.then (D5.g R) (retQ E [.tmp 6, .tmp 7] R))) fr h := by
  obtain ⟨x2, e2, g⟩ := gInt_elim g
  obtain ⟨x8, e8, g⟩ := gInt_elim g
  obtain ⟨x9, e9, g⟩ := gInt_elim g
  obtain ⟨x10, e10, g⟩ := gInt_elim g
  obtain ⟨x14, e14, g⟩ := gInt_elim g
  obtain ⟨x15, e15, g⟩ := gInt_elim g
  obtain ⟨x16, e16, g⟩ := gInt_elim g
  obtain ⟨x17, e17, g⟩ := gInt_elim g
  obtain ⟨x18, e18, g⟩ := gInt_elim g
  obtain ⟨n, g⟩ := g
  refine loop_ok (fun n => L6.g (L6.t R n)) (b := (cAt C [true, true, true, true, true, true, true, true, true, true, true, true, true, true, true, true, true, true, false, false, false])) (by kernel_rfl) (fun fr h g => ?_) (fun n => D7.ok R (L6.t R n)) n fr h (gInt_intro e2 (gInt_intro e8 (gInt_intro e9 (gInt_intro e10 (gInt_intro e14 (gInt_intro e15 (gInt_intro e16 (gInt_intro e17 (gInt_intro e18 (g))))))))))
  obtain ⟨x2, e2, g⟩ := gInt_elim g
  obtain ⟨x8, e8, g⟩ := gInt_elim g
  obtain ⟨x9, e9, g⟩ := gInt_elim g
  obtain ⟨x10, e10, g⟩ := gInt_elim g
  obtain ⟨x14, e14, g⟩ := gInt_elim g
  obtain ⟨x15, e15, g⟩ := gInt_elim g
  obtain ⟨x16, e16, g⟩ := gInt_elim g
  obtain ⟨x17, e17, g⟩ := gInt_elim g
  obtain ⟨x18, e18, g⟩ := gInt_elim g
  exact g
theorem B9.ok (R : Rt) (fr : Fr) (h : Hp) (g : L6.g (fun x2 x8 x9 x10 x14 x15 x16 x17 x18 h => ∃ n, L6.t R n x2 x8 x9 x10 x14 x15 x16 x17 x18 h) fr h) : den prog E (cAt C [true, true, true, true, true, true, true, true, true, true, true, true, true, true, true, true, true, true, false]) (Ex.then (D5.g R) (retQ E [.tmp 6, .tmp 7] R)) fr h :=
  den_block (by kernel_rfl) (L6.ok R fr h g)
theorem W10.ok (R : Rt) (fr : Fr) (h : Hp) (g : L6.g (fun x2 x8 x9 x10 x14 x15 x16 x17 x18 h => ∃ n, L6.t R n x2 x8 x9 x10 x14 x15 x16 x17 x18 h) fr h) : den prog E (cAt C [true, true, true, true, true, true, true, true, true, true, true, true, true, true, true, true, true, true]) (retQ E [.tmp 6, .tmp 7] R) fr h :=
  den_then (by kernel_rfl) (D5.ok R) (B9.ok R fr h g)
def D4.t (R : Rt) (x2 : Int) (x8 : Int) (x9 : Int) (x10 : Int) (x11 : Int) (x13 : Int) (x14 : Int) (x15 : Int) (h : Hp) : Prop :=
  letK (IntKind.u64.wrap (x11 * 4294967296)) fun n20 =>
  letK (IntKind.u64.wrap (n20 + x13)) fun n21 =>
  letK (IntKind.u64.wrap (x15 * x2)) fun n22 =>
  letK (IntKind.u64.wrap (n21 - n22)) fun n23 =>
  x9 ≠ 0 ∧ letK (IntKind.u64.wrap (Int.tdiv n23 x9)) fun n24 =>
  letK (IntKind.u64.wrap (n24 * x9)) fun n25 =>
  letK (IntKind.u64.wrap (n23 - n25)) fun n26 =>
  (∃ n, L6.t R n x2 x8 x9 x10 x14 x15 n26 n23 n24 h)
def D4.g (R : Rt) (fr : Fr) (h : Hp) : Prop := gInt .u64 (fr 2) fun x2 => gInt .u64 (fr 8) fun x8 => gInt .u64 (fr 9) fun x9 => gInt .u64 (fr 10) fun x10 => gInt .u64 (fr 11) fun x11 => gInt .u64 (fr 13) fun x13 => gInt .u64 (fr 14) fun x14 => gInt .u64 (fr 15) fun x15 => D4.t R x2 x8 x9 x10 x11 x13 x14 x15 h
theorem D4.ok (R : Rt) (fr : Fr) (h : Hp) (g : D4.g R fr h) : den prog E (cAt C [true, true, true, true, true, true, true, true, true, true, true, true, true, true, true]) (retQ E [.tmp 6, .tmp 7] R) fr h := by
  obtain ⟨x2, e2, g⟩ := gInt_elim g
  obtain ⟨x8, e8, g⟩ := gInt_elim g
  obtain ⟨x9, e9, g⟩ := gInt_elim g
  obtain ⟨x10, e10, g⟩ := gInt_elim g
  obtain ⟨x11, e11, g⟩ := gInt_elim g
  obtain ⟨x13, e13, g⟩ := gInt_elim g
  obtain ⟨x14, e14, g⟩ := gInt_elim g
  obtain ⟨x15, e15, g⟩ := gInt_elim g
  exact den_cut 3 (r := (cAt C [true, true, true, true, true, true, true, true, true, true, true, true, true, true, true, true, true, true])) (by kernel_rfl) (W10.ok R) (den_enter [(2, .int .u64 x2), (8, .int .u64 x8), (9, .int .u64 x9), (10, .int .u64 x10), (11, .int .u64 x11), (13, .int .u64 x13), (14, .int .u64 x14), (15, .int .u64 x15)] ⟨e2, e8, e9, e10, e11, e13, e14, e15, trivial⟩ (by kernel_rfl) g)
def L11.g (N : Int → Int → Int → Int → Int → Int → Int → Int → Int → Hp → Prop) (fr : Fr) (h : Hp) : Prop := gInt .u64 (fr 2) fun x2 => gInt .u64 (fr 8) fun x8 => gInt .u64 (fr 9) fun x9 => gInt .u64 (fr 10) fun x10 => gInt .u64 (fr 11) fun x11 => gInt .u64 (fr 13) fun x13 => gInt .u64 (fr 14) fun x14 => gInt .u64 (fr 15) fun x15 => gInt .u64 (fr 16) fun x16 => N x2 x8 x9 x10 x11 x13 x14 x15 x16 h
def D13.t (R : Rt) (N11 : Int → Int → Int → Int → Int → Int → Int → Int → Int → Hp → Prop) (x2 : Int) (x8 : Int) (x9 : Int) (x10 : Int) (x11 : Int) (x13 : Int) (x14 : Int) (x15 : Int) (x16 : Int) (h : Hp) : Prop :=
  letK (IntKind.u64.wrap (x15 - 1)) fun n39 =>
  letK (IntKind.u64.wrap (x16 + x9)) fun n40 =>
  cond (decide (n40 ≥ 4294967296)) (D4.t R x2 x8 x9 x10 x11 x13 x14 n39 h) (N11 x2 x8 x9 x10 x11 x13 x14 n39 n40 h)
def D13.g (R : Rt) (N11 : Int → Int → Int → Int → Int → Int → Int → Int → Int → Hp → Prop) (fr : Fr) (h : Hp) : Prop := gInt .u64 (fr 2) fun x2 => gInt .u64 (fr 8) fun x8 => gInt .u64 (fr 9) fun x9 => gInt .u64 (fr 10) fun x10 => gInt .u64 (fr 11) fun x11 => gInt .u64 (fr 13) fun x13 => gInt .u64 (fr 14) fun x14 => gInt .u64 (fr 15) fun x15 => gInt .u64 (fr 16) fun x16 => D13.t R N11 x2 x8 x9 x10 x11 x13 x14 x15 x16 h
theorem D13.ok (R : Rt) (N11 : Int → Int → Int → Int → Int → Int → Int → Int → Int → Hp → Prop) (fr : Fr) (h : Hp) (g : D13.g R N11 fr h) : den prog E (cAt C [true, true, true, true, true, true, true, true, true, true, true, true, true, true, false, false, false, true]) (Ex.then (L11.g N11) (Ex.inBlock 0 (Ex.then (D4.g R) (retQ E [.tmp 6, .tmp 7] R)))) fr h := by
  obtain ⟨x2, e2, g⟩ := gInt_elim g
  obtain ⟨x8, e8, g⟩ := gInt_elim g
  obtain ⟨x9, e9, g⟩ := gInt_elim g
  obtain ⟨x10, e10, g⟩ := gInt_elim g
  obtain ⟨x11, e11, g⟩ := gInt_elim g
  obtain ⟨x13, e13, g⟩ := gInt_elim g
  obtain ⟨x14, e14, g⟩ := gInt_elim g
  obtain ⟨x15, e15, g⟩ := gInt_elim g
  obtain ⟨x16, e16, g⟩ := gInt_elim g
  exact den_enter [(2, .int .u64 x2), (8, .int .u64 x8), (9, .int .u64 x9), (10, .int .u64 x10), (11, .int .u64 x11), (13, .int .u64 x13), (14, .int .u64 x14), (15, .int .u64 x15), (16, .int .u64 x16)] ⟨e2, e8, e9, e10, e11, e13, e14, e15, e16, trivial⟩ (by kernel_rfl) g
def D12.t (R : Rt) (N11 : Int → Int → Int → Int → Int → Int → Int → Int → Int → Hp → Prop) (x2 : Int) (x8 : Int) (x9 : Int) (x10 : Int) (x11 : Int) (x13 : Int) (x14 : Int) (x15 : Int) (x16 : Int) (h : Hp) : Prop :=
  cond (decide (x15 ≥ 4294967296)) (D13.t R N11 x2 x8 x9 x10 x11 x13 x14 x15 x16 h) (letK (IntKind.u64.wrap (x15 * x10)) fun n41 =>
  letK (IntKind.u64.wrap (4294967296 * x16)) fun n42 =>
  letK (IntKind.u64.wrap (n42 + x13)) fun n43 =>
  cond (decide (n41 > n43)) (D13.t R N11 x2 x8 x9 x10 x11 x13 x14 x15 x16 h) (D4.t R x2 x8 x9 x10 x11 x13 x14 x15 h))
def D12.g (R : Rt) (N11 : Int → Int → Int → Int → Int → Int → Int → Int → Int → Hp → Prop) (fr : Fr) (h : Hp) : Prop := gInt .u64 (fr 2) fun x2 => gInt .u64 (fr 8) fun x8 => gInt .u64 (fr 9) fun x9 => gInt .u64 (fr 10) fun x10 => gInt .u64 (fr 11) fun x11 => gInt .u64 (fr 13) fun x13 => gInt .u64 (fr 14) fun x14 => gInt .u64 (fr 15) fun x15 => gInt .u64 (fr 16) fun x16 => D12.t R N11 x2 x8 x9 x10 x11 x13 x14 x15 x16 h
theorem D12.ok (R : Rt) (N11 : Int → Int → Int → Int → Int → Int → Int → Int → Int → Hp → Prop) (fr : Fr) (h : Hp) (g : D12.g R N11 fr h) : den prog E (cAt C [true, true, true, true, true, true, true, true, true, true, true, true, true, true, false, false, false]) (Ex.then (L11.g N11) (Ex.inBlock 0 (Ex.then (D4.g R) (retQ E [.tmp 6, .tmp 7] R)))) fr h := by
  obtain ⟨x2, e2, g⟩ := gInt_elim g
  obtain ⟨x8, e8, g⟩ := gInt_elim g
  obtain ⟨x9, e9, g⟩ := gInt_elim g
  obtain ⟨x10, e10, g⟩ := gInt_elim g
  obtain ⟨x11, e11, g⟩ := gInt_elim g
  obtain ⟨x13, e13, g⟩ := gInt_elim g
  obtain ⟨x14, e14, g⟩ := gInt_elim g
  obtain ⟨x15, e15, g⟩ := gInt_elim g
  obtain ⟨x16, e16, g⟩ := gInt_elim g
  exact den_cut 1 (r := (cAt C [true, true, true, true, true, true, true, true, true, true, true, true, true, true, false, false, false, true])) (by kernel_rfl) (D13.ok R N11) (den_enter [(2, .int .u64 x2), (8, .int .u64 x8), (9, .int .u64 x9), (10, .int .u64 x10), (11, .int .u64 x11), (13, .int .u64 x13), (14, .int .u64 x14), (15, .int .u64 x15), (16, .int .u64 x16)] ⟨e2, e8, e9, e10, e11, e13, e14, e15, e16, trivial⟩ (by kernel_rfl) g)
def L11.t (R : Rt) : Nat → Int → Int → Int → Int → Int → Int → Int → Int → Int → Hp → Prop
  | 0 => fun _ _ _ _ _ _ _ _ _ _ => False
  | n + 1 => fun x2 x8 x9 x10 x11 x13 x14 x15 x16 h => D12.t R (L11.t R n) x2 x8 x9 x10 x11 x13 x14 x15 x16 h
theorem L11.ok (R : Rt) (fr : Fr) (h : Hp) (g : L11.g (fun x2 x8 x9 x10 x11 x13 x14 x15 x16 h => ∃ n, L11.t R n x2 x8 x9 x10 x11 x13 x14 x15 x16 h) fr h) : den prog E (cAt C [true, true, true, true, true, true, true, true, true, true, true, true, true, true, false, false]) (Ex.inBlock 0 (Ex.then (D4.g R) (retQ E [.tmp 6, .tmp 7] R))) fr h := by
  obtain ⟨x2, e2, g⟩ := gInt_elim g
  obtain ⟨x8, e8, g⟩ := gInt_elim g
  obtain ⟨x9, e9, g⟩ := gInt_elim g
  obtain ⟨x10, e10, g⟩ := gInt_elim g
  obtain ⟨x11, e11, g⟩ := gInt_elim g
  obtain ⟨x13, e13, g⟩ := gInt_elim g
  obtain ⟨x14, e14, g⟩ := gInt_elim g
  obtain ⟨x15, e15, g⟩ := gInt_elim g
  obtain ⟨x16, e16, g⟩ := gInt_elim g
  obtain ⟨n, g⟩ := g
  refine loop_ok (fun n => L11.g (L11.t R n)) (b := (cAt C [true, true, true, true, true, true, true, true, true, true, true, true, true, true, false, false, false])) (by kernel_rfl) (fun fr h g => ?_) (fun n => D12.ok R (L11.t R n)) n fr h (gInt_intro e2 (gInt_intro e8 (gInt_intro e9 (gInt_intro e10 (gInt_intro e11 (gInt_intro e13 (gInt_intro e14 (gInt_intro e15 (gInt_intro e16 (g))))))))))
  obtain ⟨x2, e2, g⟩ := gInt_elim g
  obtain ⟨x8, e8, g⟩ := gInt_elim g
  obtain ⟨x9, e9, g⟩ := gInt_elim g
  obtain ⟨x10, e10, g⟩ := gInt_elim g
  obtain ⟨x11, e11, g⟩ := gInt_elim g
  obtain ⟨x13, e13, g⟩ := gInt_elim g
  obtain ⟨x14, e14, g⟩ := gInt_elim g
  obtain ⟨x15, e15, g⟩ := gInt_elim g
  obtain ⟨x16, e16, g⟩ := gInt_elim g
  exact g
theorem B14.ok (R : Rt) (fr : Fr) (h : Hp) (g : L11.g (fun x2 x8 x9 x10 x11 x13 x14 x15 x16 h => ∃ n, L11.t R n x2 x8 x9 x10 x11 x13 x14 x15 x16 h) fr h) : den prog E (cAt C [true, true, true, true, true, true, true, true, true, true, true, true, true, true, false]) (Ex.then (D4.g R) (retQ E [.tmp 6, .tmp 7] R)) fr h :=
  den_block (by kernel_rfl) (L11.ok R fr h g)
theorem W15.ok (R : Rt) (fr : Fr) (h : Hp) (g : L11.g (fun x2 x8 x9 x10 x11 x13 x14 x15 x16 h => ∃ n, L11.t R n x2 x8 x9 x10 x11 x13 x14 x15 x16 h) fr h) : den prog E (cAt C [true, true, true, true, true, true, true, true, true, true, true, true, true, true]) (retQ E [.tmp 6, .tmp 7] R) fr h :=
  den_then (by kernel_rfl) (D4.ok R) (B14.ok R fr h g)
def D3.t (R : Rt) (x0 : Int) (x1 : Int) (x2 : Int) (h : Hp) : Prop :=
  cond (x0 == 0) (x2 ≠ 0 ∧ letK (IntKind.u64.wrap (Int.tdiv x1 x2)) fun n1 =>
  x2 ≠ 0 ∧ letK (Int.tmod x1 x2) fun n2 =>
  R (.tuple #[.int .u64 n1, .int .u64 n2]) h) (HC bits_LeadingZeros64.id #[.int .u64 x2] h fun v3 h4 =>
  gInt .i64 v3 fun x_5 =>
  letK (IntKind.u64.wrap x_5) fun n6 =>
  0 ≤ n6 ∧ letK (shlI .u64 x2 n6) fun n7 =>
  0 ≤ (32 : Int) ∧ letK (shrI .u64 n7 32) fun n8 =>
  letK (andI .u64 n7 4294967295) fun n9 =>
  0 ≤ n6 ∧ letK (shlI .u64 x0 n6) fun n10 =>
  letK (IntKind.u64.wrap (64 - n6)) fun n11 =>
  0 ≤ n11 ∧ letK (shrI .u64 x1 n11) fun n12 =>
  letK (orI .u64 n10 n12) fun n13 =>
  0 ≤ n6 ∧ letK (shlI .u64 x1 n6) fun n14 =>
  0 ≤ (32 : Int) ∧ letK (shrI .u64 n14 32) fun n15 =>
  letK (andI .u64 n14 4294967295) fun n16 =>
  n8 ≠ 0 ∧ letK (IntKind.u64.wrap (Int.tdiv n13 n8)) fun n17 =>
  letK (IntKind.u64.wrap (n17 * n8)) fun n18 =>
  letK (IntKind.u64.wrap (n13 - n18)) fun n19 =>
  (∃ n, L11.t R n n7 n6 n8 n9 n13 n15 n16 n17 n19 h4))
def D3.g (R : Rt) (fr : Fr) (h : Hp) : Prop := gInt .u64 (fr 0) fun x0 => gInt .u64 (fr 1) fun x1 => gInt .u64 (fr 2) fun x2 => D3.t R x0 x1 x2 h
theorem D3.ok (R : Rt) (fr : Fr) (h : Hp) (g : D3.g R fr h) : den prog E (cAt C [true, true, true]) (retQ E [.tmp 6, .tmp 7] R) fr h := by
  obtain ⟨x0, e0, g⟩ := gInt_elim g
  obtain ⟨x1, e1, g⟩ := gInt_elim g
  obtain ⟨x2, e2, g⟩ := gInt_elim g
  exact den_cut 11 (r := (cAt C [true, true, true, true, true, true, true, true, true, true, true, true, true, true])) (by kernel_rfl) (W15.ok R) (den_enter [(0, .int .u64 x0), (1, .int .u64 x1), (2, .int .u64 x2)] ⟨e0, e1, e2, trivial⟩ (by kernel_rfl) g)
def D2.t (R : Rt) (x0 : Int) (x1 : Int) (x2 : Int) (h : Hp) : Prop :=
  cond (decide (x2 ≤ x0)) (False) (D3.t R x0 x1 x2 h)
def D2.g (R : Rt) (fr : Fr) (h : Hp) : Prop := gInt .u64 (fr 0) fun x0 => gInt .u64 (fr 1) fun x1 => gInt .u64 (fr 2) fun x2 => D2.t R x0 x1 x2 h
theorem D2.ok (R : Rt) (fr : Fr) (h : Hp) (g : D2.g R fr h) : den prog E (cAt C [true, true]) (retQ E [.tmp 6, .tmp 7] R) fr h := by
  obtain ⟨x0, e0, g⟩ := gInt_elim g
  obtain ⟨x1, e1, g⟩ := gInt_elim g
  obtain ⟨x2, e2, g⟩ := gInt_elim g
  exact den_cut 1 (r := (cAt C [true, true, true])) (by kernel_rfl) (D3.ok R) (den_enter [(0, .int .u64 x0), (1, .int .u64 x1), (2, .int .u64 x2)] ⟨e0, e1, e2, trivial⟩ (by kernel_rfl) g)
def D1.t (R : Rt) (x0 : Int) (x1 : Int) (x2 : Int) (h : Hp) : Prop :=
  cond (x2 == 0) (False) (D2.t R x0 x1 x2 h)
def D1.g (R : Rt) (fr : Fr) (h : Hp) : Prop := gInt .u64 (fr 0) fun x0 => gInt .u64 (fr 1) fun x1 => gInt .u64 (fr 2) fun x2 => D1.t R x0 x1 x2 h
theorem D1.ok (R : Rt) (fr : Fr) (h : Hp) (g : D1.g R fr h) : den prog E C (retQ E [.tmp 6, .tmp 7] R) fr h := by
  obtain ⟨x0, e0, g⟩ := gInt_elim g
  obtain ⟨x1, e1, g⟩ := gInt_elim g
  obtain ⟨x2, e2, g⟩ := gInt_elim g
  exact den_cut 2 (r := (cAt C [true, true])) (by kernel_rfl) (D2.ok R) (den_enter [(0, .int .u64 x0), (1, .int .u64 x1), (2, .int .u64 x2)] ⟨e0, e1, e2, trivial⟩ (by kernel_rfl) g)
def t (x0 : Int) (x1 : Int) (x2 : Int) (h : Hp) (R : Rt) : Prop := D1.t R x0 x1 x2 h
theorem ok {x0 : Int} {x1 : Int} {x2 : Int} {h : Hp} {R : Rt} (g : t x0 x1 x2 h R) : HC id #[.int .u64 x0, .int .u64 x1, .int .u64 x2] h R :=
  calls_of_den' envOk (c := C) (rs := [.tmp 6, .tmp 7]) Tryz.func102 (by kernel_rfl) (by kernel_rfl) (by kernel_rfl) (args := [.int .u64 x0, .int .u64 x1, .int .u64 x2]) (by kernel_rfl) (D1.ok R _ h (gInt_intro rfl (gInt_intro rfl (gInt_intro rfl (g)))))
end bits_Div64

namespace natdiv_trial
noncomputable def C : Code := bodyOf Tryz.f103
def D1.t (R : Rt) (x0 : Int) (x1 : Int) (x2 : Int) (h : Hp) : Prop :=
  cond (decide (x0 ≥ x2)) (R (.int .u64 18446744073709551615) h) (HC bits_Div64.id #[.int .u64 x0, .int .u64 x1, .int .u64 x2] h fun v1 h2 =>
  gTup v1 fun y3 =>
  uncons y3 fun v4 y4 =>
  gInt .u64 v4 fun x_5 =>
  uncons y4 fun v6 y6 =>
  gInt .u64 v6 fun x_7 =>
  unnil y6 <| R (.int .u64 x_5) h2)
def D1.g (R : Rt) (fr : Fr) (h : Hp) : Prop := gInt .u64 (fr 0) fun x0 => gInt .u64 (fr 1) fun x1 => gInt .u64 (fr 2) fun x2 => D1.t R x0 x1 x2 h
theorem D1.ok (R : Rt) (fr : Fr) (h : Hp) (g : D1.g R fr h) : den prog E C (retQ E [.tmp 6] R) fr h := by
  obtain ⟨x0, e0, g⟩ := gInt_elim g
  obtain ⟨x1, e1, g⟩ := gInt_elim g
  obtain ⟨x2, e2, g⟩ := gInt_elim g
  exact den_enter [(0, .int .u64 x0), (1, .int .u64 x1), (2, .int .u64 x2)] ⟨e0, e1, e2, trivial⟩ (by kernel_rfl) g
def t (x0 : Int) (x1 : Int) (x2 : Int) (h : Hp) (R : Rt) : Prop := D1.t R x0 x1 x2 h
theorem ok {x0 : Int} {x1 : Int} {x2 : Int} {h : Hp} {R : Rt} (g : t x0 x1 x2 h R) : HC id #[.int .u64 x0, .int .u64 x1, .int .u64 x2] h R :=
  calls_of_den' envOk (c := C) (rs := [.tmp 6]) Tryz.func103 (by kernel_rfl) (by kernel_rfl) (by kernel_rfl) (args := [.int .u64 x0, .int .u64 x1, .int .u64 x2]) (by kernel_rfl) (D1.ok R _ h (gInt_intro rfl (gInt_intro rfl (gInt_intro rfl (g)))))
end natdiv_trial

namespace natdiv_takeMul
noncomputable def C : Code := bodyOf Tryz.f104
def D2.t (R : Rt) (a0 : Option Addr) (l0 : Nat) (c0 : Nat) (a1 : Option Addr) (l1 : Nat) (c1 : Nat) (x7 : Int) (x8 : Int) (h : Hp) : Prop :=
  idxK a0 l0 (((l1 : Nat) : Int)) 1 fun q1 =>
  ldK h q1 fun v2 =>
  gInt .u64 v2 fun x_3 =>
  subK x_3 x7 x8 fun n4 m4 =>
  idxK a0 l0 (((l1 : Nat) : Int)) 1 fun q5 =>
  stK h q5 (.int .u64 n4) fun h6 =>
  R (.int .u64 m4) h6
def D2.g (R : Rt) (fr : Fr) (h : Hp) : Prop := gSlice (fr 0) fun a0 l0 c0 => gSlice (fr 1) fun a1 l1 c1 => gInt .u64 (fr 7) fun x7 => gInt .u64 (fr 8) fun x8 => D2.t R a0 l0 c0 a1 l1 c1 x7 x8 h
theorem D2.ok (R : Rt) (fr : Fr) (h : Hp) (g : D2.g R fr h) : den prog E (cAt C [true, true, true]) (retQ E [.tmp 6] R) fr h := by
  obtain ⟨a0, l0, c0, e0, g⟩ := gSlice_elim g
  obtain ⟨a1, l1, c1, e1, g⟩ := gSlice_elim g
  obtain ⟨x7, e7, g⟩ := gInt_elim g
  obtain ⟨x8, e8, g⟩ := gInt_elim g
  exact den_enter [(0, .slice a0 l0 c0), (1, .slice a1 l1 c1), (7, .int .u64 x7), (8, .int .u64 x8)] ⟨e0, e1, e7, e8, trivial⟩ (by kernel_rfl) g
def L4.g (N : Option Addr → Nat → Nat → Option Addr → Nat → Nat → Int → Int → Int → Int → Int → Hp → Prop) (fr : Fr) (h : Hp) : Prop := gSlice (fr 0) fun a0 l0 c0 => gSlice (fr 1) fun a1 l1 c1 => gInt .u64 (fr 2) fun x2 => gInt .u64 (fr 7) fun x7 => gInt .u64 (fr 8) fun x8 => gInt .i64 (fr 14) fun x14 => gInt .i64 (fr 15) fun x15 => N a0 l0 c0 a1 l1 c1 x2 x7 x8 x14 x15 h
def D5.t (R : Rt) (N4 : Option Addr → Nat → Nat → Option Addr → Nat → Nat → Int → Int → Int → Int → Int → Hp → Prop) (a0 : Option Addr) (l0 : Nat) (c0 : Nat) (a1 : Option Addr) (l1 : Nat) (c1 : Nat) (x2 : Int) (x7 : Int) (x8 : Int) (x14 : Int) (x15 : Int) (h : Hp) : Prop :=
  cond (decide (x15 < x14)) (idxK a1 l1 x15 1 fun q7 =>
  ldK h q7 fun v8 =>
  gInt .u64 v8 fun x_9 =>
  HC bits_Mul64.id #[.int .u64 x_9, .int .u64 x2] h fun v10 h11 =>
  gTup v10 fun y12 =>
  uncons y12 fun v13 y13 =>
  gInt .u64 v13 fun x_14 =>
  uncons y13 fun v15 y15 =>
  gInt .u64 v15 fun x_16 =>
  unnil y15 <| addK x_16 x7 0 fun n17 m17 =>
  letK (IntKind.u64.wrap (x_14 + m17)) fun n18 =>
  idxK a0 l0 x15 1 fun q19 =>
  ldK h11 q19 fun v20 =>
  gInt .u64 v20 fun x_21 =>
  subK x_21 n17 x8 fun n22 m22 =>
  idxK a0 l0 x15 1 fun q23 =>
  stK h11 q23 (.int .u64 n22) fun h24 =>
  letK (IntKind.i64.wrap (x15 + 1)) fun n25 =>
  N4 a0 l0 c0 a1 l1 c1 x2 n18 m22 x14 n25 h24) (D2.t R a0 l0 c0 a1 l1 c1 x7 x8 h)
def D5.g (R : Rt) (N4 : Option Addr → Nat → Nat → Option Addr → Nat → Nat → Int → Int → Int → Int → Int → Hp → Prop) (fr : Fr) (h : Hp) : Prop := gSlice (fr 0) fun a0 l0 c0 => gSlice (fr 1) fun a1 l1 c1 => gInt .u64 (fr 2) fun x2 => gInt .u64 (fr 7) fun x7 => gInt .u64 (fr 8) fun x8 => gInt .i64 (fr 14) fun x14 => gInt .i64 (fr 15) fun x15 => D5.t R N4 a0 l0 c0 a1 l1 c1 x2 x7 x8 x14 x15 h
theorem D5.ok (R : Rt) (N4 : Option Addr → Nat → Nat → Option Addr → Nat → Nat → Int → Int → Int → Int → Int → Hp → Prop) (fr : Fr) (h : Hp) (g : D5.g R N4 fr h) : den prog E (cAt C [true, true, false, true, false, false]) (Ex.then (L4.g N4) (Ex.inBlock 0 (Ex.then (D2.g R) (retQ E [.tmp 6] R)))) fr h := by
  obtain ⟨a0, l0, c0, e0, g⟩ := gSlice_elim g
  obtain ⟨a1, l1, c1, e1, g⟩ := gSlice_elim g
  obtain ⟨x2, e2, g⟩ := gInt_elim g
  obtain ⟨x7, e7, g⟩ := gInt_elim g
  obtain ⟨x8, e8, g⟩ := gInt_elim g
  obtain ⟨x14, e14, g⟩ := gInt_elim g
  obtain ⟨x15, e15, g⟩ := gInt_elim g
  exact den_enter [(0, .slice a0 l0 c0), (1, .slice a1 l1 c1), (2, .int .u64 x2), (7, .int .u64 x7), (8, .int .u64 x8), (14, .int .i64 x14), (15, .int .i64 x15)] ⟨e0, e1, e2, e7, e8, e14, e15, trivial⟩ (by kernel_rfl) g
def L4.t (R : Rt) : Nat → Option Addr → Nat → Nat → Option Addr → Nat → Nat → Int → Int → Int → Int → Int → Hp → Prop
  | 0 => fun _ _ _ _ _ _ _ _ _ _ _ _ => False
  | n + 1 => fun a0 l0 c0 a1 l1 c1 x2 x7 x8 x14 x15 h => D5.t R (L4.t R n) a0 l0 c0 a1 l1 c1 x2 x7 x8 x14 x15 h
theorem L4.ok (R : Rt) (fr : Fr) (h : Hp) (g : L4.g (fun a0 l0 c0 a1 l1 c1 x2 x7 x8 x14 x15 h => ∃ n, L4.t R n a0 l0 c0 a1 l1 c1 x2 x7 x8 x14 x15 h) fr h) : den prog E (cAt C [true, true, false, true, false]) (Ex.inBlock 0 (Ex.then (D2.g R) (retQ E [.tmp 6] R))) fr h := by
  obtain ⟨a0, l0, c0, e0, g⟩ := gSlice_elim g
  obtain ⟨a1, l1, c1, e1, g⟩ := gSlice_elim g
  obtain ⟨x2, e2, g⟩ := gInt_elim g
  obtain ⟨x7, e7, g⟩ := gInt_elim g
  obtain ⟨x8, e8, g⟩ := gInt_elim g
  obtain ⟨x14, e14, g⟩ := gInt_elim g
  obtain ⟨x15, e15, g⟩ := gInt_elim g
  obtain ⟨n, g⟩ := g
  refine loop_ok (fun n => L4.g (L4.t R n)) (b := (cAt C [true, true, false, true, false, false])) (by kernel_rfl) (fun fr h g => ?_) (fun n => D5.ok R (L4.t R n)) n fr h (gSlice_intro e0 (gSlice_intro e1 (gInt_intro e2 (gInt_intro e7 (gInt_intro e8 (gInt_intro e14 (gInt_intro e15 (g))))))))
  obtain ⟨a0, l0, c0, e0, g⟩ := gSlice_elim g
  obtain ⟨a1, l1, c1, e1, g⟩ := gSlice_elim g
  obtain ⟨x2, e2, g⟩ := gInt_elim g
  obtain ⟨x7, e7, g⟩ := gInt_elim g
  obtain ⟨x8, e8, g⟩ := gInt_elim g
  obtain ⟨x14, e14, g⟩ := gInt_elim g
  obtain ⟨x15, e15, g⟩ := gInt_elim g
  exact g
theorem B6.ok (R : Rt) (fr : Fr) (h : Hp) (g : L4.g (fun a0 l0 c0 a1 l1 c1 x2 x7 x8 x14 x15 h => ∃ n, L4.t R n a0 l0 c0 a1 l1 c1 x2 x7 x8 x14 x15 h) fr h) : den prog E (cAt C [true, true, false, true]) (Ex.then (D2.g R) (retQ E [.tmp 6] R)) fr h :=
  den_block (by kernel_rfl) (L4.ok R fr h g)
def D3.t (R : Rt) (a0 : Option Addr) (l0 : Nat) (c0 : Nat) (a1 : Option Addr) (l1 : Nat) (c1 : Nat) (x2 : Int) (x7 : Int) (x8 : Int) (h : Hp) : Prop :=
  (∃ n, L4.t R n a0 l0 c0 a1 l1 c1 x2 x7 x8 (((l1 : Nat) : Int)) 0 h)
def D3.g (R : Rt) (fr : Fr) (h : Hp) : Prop := gSlice (fr 0) fun a0 l0 c0 => gSlice (fr 1) fun a1 l1 c1 => gInt .u64 (fr 2) fun x2 => gInt .u64 (fr 7) fun x7 => gInt .u64 (fr 8) fun x8 => D3.t R a0 l0 c0 a1 l1 c1 x2 x7 x8 h
theorem D3.ok (R : Rt) (fr : Fr) (h : Hp) (g : D3.g R fr h) : den prog E (cAt C [true, true, false]) (Ex.then (D2.g R) (retQ E [.tmp 6] R)) fr h := by
  obtain ⟨a0, l0, c0, e0, g⟩ := gSlice_elim g
  obtain ⟨a1, l1, c1, e1, g⟩ := gSlice_elim g
  obtain ⟨x2, e2, g⟩ := gInt_elim g
  obtain ⟨x7, e7, g⟩ := gInt_elim g
  obtain ⟨x8, e8, g⟩ := gInt_elim g
  exact den_cut 1 (r := (cAt C [true, true, false, true])) (by kernel_rfl) (B6.ok R) (den_enter [(0, .slice a0 l0 c0), (1, .slice a1 l1 c1), (2, .int .u64 x2), (7, .int .u64 x7), (8, .int .u64 x8)] ⟨e0, e1, e2, e7, e8, trivial⟩ (by kernel_rfl) g)
theorem W7.ok (R : Rt) (fr : Fr) (h : Hp) (g : D3.g R fr h) : den prog E (cAt C [true, true]) (retQ E [.tmp 6] R) fr h :=
  den_then (by kernel_rfl) (D2.ok R) (D3.ok R fr h g)
def D1.t (R : Rt) (a0 : Option Addr) (l0 : Nat) (c0 : Nat) (a1 : Option Addr) (l1 : Nat) (c1 : Nat) (x2 : Int) (h : Hp) : Prop :=
  D3.t R a0 l0 c0 a1 l1 c1 x2 0 0 h
def D1.g (R : Rt) (fr : Fr) (h : Hp) : Prop := gSlice (fr 0) fun a0 l0 c0 => gSlice (fr 1) fun a1 l1 c1 => gInt .u64 (fr 2) fun x2 => D1.t R a0 l0 c0 a1 l1 c1 x2 h
theorem D1.ok (R : Rt) (fr : Fr) (h : Hp) (g : D1.g R fr h) : den prog E C (retQ E [.tmp 6] R) fr h := by
  obtain ⟨a0, l0, c0, e0, g⟩ := gSlice_elim g
  obtain ⟨a1, l1, c1, e1, g⟩ := gSlice_elim g
  obtain ⟨x2, e2, g⟩ := gInt_elim g
  exact den_cut 2 (r := (cAt C [true, true])) (by kernel_rfl) (W7.ok R) (den_enter [(0, .slice a0 l0 c0), (1, .slice a1 l1 c1), (2, .int .u64 x2)] ⟨e0, e1, e2, trivial⟩ (by kernel_rfl) g)
def t (a0 : Option Addr) (l0 : Nat) (c0 : Nat) (a1 : Option Addr) (l1 : Nat) (c1 : Nat) (x2 : Int) (h : Hp) (R : Rt) : Prop := D1.t R a0 l0 c0 a1 l1 c1 x2 h
theorem ok {a0 : Option Addr} {l0 : Nat} {c0 : Nat} {a1 : Option Addr} {l1 : Nat} {c1 : Nat} {x2 : Int} {h : Hp} {R : Rt} (g : t a0 l0 c0 a1 l1 c1 x2 h R) : HC id #[.slice a0 l0 c0, .slice a1 l1 c1, .int .u64 x2] h R :=
  calls_of_den' envOk (c := C) (rs := [.tmp 6]) Tryz.func104 (by kernel_rfl) (by kernel_rfl) (by kernel_rfl) (args := [.slice a0 l0 c0, .slice a1 l1 c1, .int .u64 x2]) (by kernel_rfl) (D1.ok R _ h (gSlice_intro rfl (gSlice_intro rfl (gInt_intro rfl (g)))))
end natdiv_takeMul

namespace natdiv_giveBack
noncomputable def C : Code := bodyOf Tryz.f105
def D2.t (R : Rt) (a0 : Option Addr) (l0 : Nat) (c0 : Nat) (a1 : Option Addr) (l1 : Nat) (c1 : Nat) (x5 : Int) (h : Hp) : Prop :=
  idxK a0 l0 (((l1 : Nat) : Int)) 1 fun q1 =>
  ldK h q1 fun v2 =>
  gInt .u64 v2 fun x_3 =>
  addK x_3 0 x5 fun n4 m4 =>
  idxK a0 l0 (((l1 : Nat) : Int)) 1 fun q5 =>
  stK h q5 (.int .u64 n4) fun h6 =>
  R (.int .u64 m4) h6
def D2.g (R : Rt) (fr : Fr) (h : Hp) : Prop := gSlice (fr 0) fun a0 l0 c0 => gSlice (fr 1) fun a1 l1 c1 => gInt .u64 (fr 5) fun x5 => D2.t R a0 l0 c0 a1 l1 c1 x5 h
theorem D2.ok (R : Rt) (fr : Fr) (h : Hp) (g : D2.g R fr h) : den prog E (cAt C [true, true, true]) (retQ E [.tmp 4] R) fr h := by
  obtain ⟨a0, l0, c0, e0, g⟩ := gSlice_elim g
  obtain ⟨a1, l1, c1, e1, g⟩ := gSlice_elim g
  obtain ⟨x5, e5, g⟩ := gInt_elim g
  exact den_enter [(0, .slice a0 l0 c0), (1, .slice a1 l1 c1), (5, .int .u64 x5)] ⟨e0, e1, e5, trivial⟩ (by kernel_rfl) g
def L4.g (N : Option Addr → Nat → Nat → Option Addr → Nat → Nat → Int → Int → Int → Hp → Prop) (fr : Fr) (h : Hp) : Prop := gSlice (fr 0) fun a0 l0 c0 => gSlice (fr 1) fun a1 l1 c1 => gInt .u64 (fr 5) fun x5 => gInt .i64 (fr 8) fun x8 => gInt .i64 (fr 9) fun x9 => N a0 l0 c0 a1 l1 c1 x5 x8 x9 h
def D5.t (R : Rt) (N4 : Option Addr → Nat → Nat → Option Addr → Nat → Nat → Int → Int → Int → Hp → Prop) (a0 : Option Addr) (l0 : Nat) (c0 : Nat) (a1 : Option Addr) (l1 : Nat) (c1 : Nat) (x5 : Int) (x8 : Int) (x9 : Int) (h : Hp) : Prop :=
  cond (decide (x9 < x8)) (idxK a0 l0 x9 1 fun q7 =>
  ldK h q7 fun v8 =>
  gInt .u64 v8 fun x_9 =>
  idxK a1 l1 x9 1 fun q10 =>
  ldK h q10 fun v11 =>
  gInt .u64 v11 fun x_12 =>
  addK x_9 x_12 x5 fun n13 m13 =>
  idxK a0 l0 x9 1 fun q14 =>
  stK h q14 (.int .u64 n13) fun h15 =>
  letK (IntKind.i64.wrap (x9 + 1)) fun n16 =>
  N4 a0 l0 c0 a1 l1 c1 m13 x8 n16 h15) (D2.t R a0 l0 c0 a1 l1 c1 x5 h)
def D5.g (R : Rt) (N4 : Option Addr → Nat → Nat → Option Addr → Nat → Nat → Int → Int → Int → Hp → Prop) (fr : Fr) (h : Hp) : Prop := gSlice (fr 0) fun a0 l0 c0 => gSlice (fr 1) fun a1 l1 c1 => gInt .u64 (fr 5) fun x5 => gInt .i64 (fr 8) fun x8 => gInt .i64 (fr 9) fun x9 => D5.t R N4 a0 l0 c0 a1 l1 c1 x5 x8 x9 h
theorem D5.ok (R : Rt) (N4 : Option Addr → Nat → Nat → Option Addr → Nat → Nat → Int → Int → Int → Hp → Prop) (fr : Fr) (h : Hp) (g : D5.g R N4 fr h) : den prog E (cAt C [true, true, false, true, false, false]) (Ex.then (L4.g N4) (Ex.inBlock 0 (Ex.then (D2.g R) (retQ E [.tmp 4] R)))) fr h := by
  obtain ⟨a0, l0, c0, e0, g⟩ := gSlice_elim g
  obtain ⟨a1, l1, c1, e1, g⟩ := gSlice_elim g
  obtain ⟨x5, e5, g⟩ := gInt_elim g
  obtain ⟨x8, e8, g⟩ := gInt_elim g
  obtain ⟨x9, e9, g⟩ := gInt_elim g
  exact den_enter [(0, .slice a0 l0 c0), (1, .slice a1 l1 c1), (5, .int .u64 x5), (8, .int .i64 x8), (9, .int .i64 x9)] ⟨e0, e1, e5, e8, e9, trivial⟩ (by kernel_rfl) g
def L4.t (R : Rt) : Nat → Option Addr → Nat → Nat → Option Addr → Nat → Nat → Int → Int → Int → Hp → Prop
  | 0 => fun _ _ _ _ _ _ _ _ _ _ => False
  | n + 1 => fun a0 l0 c0 a1 l1 c1 x5 x8 x9 h => D5.t R (L4.t R n) a0 l0 c0 a1 l1 c1 x5 x8 x9 h
theorem L4.ok (R : Rt) (fr : Fr) (h : Hp) (g : L4.g (fun a0 l0 c0 a1 l1 c1 x5 x8 x9 h => ∃ n, L4.t R n a0 l0 c0 a1 l1 c1 x5 x8 x9 h) fr h) : den prog E (cAt C [true, true, false, true, false]) (Ex.inBlock 0 (Ex.then (D2.g R) (retQ E [.tmp 4] R))) fr h := by
  obtain ⟨a0, l0, c0, e0, g⟩ := gSlice_elim g
  obtain ⟨a1, l1, c1, e1, g⟩ := gSlice_elim g
  obtain ⟨x5, e5, g⟩ := gInt_elim g
  obtain ⟨x8, e8, g⟩ := gInt_elim g
  obtain ⟨x9, e9, g⟩ := gInt_elim g
  obtain ⟨n, g⟩ := g
  refine loop_ok (fun n => L4.g (L4.t R n)) (b := (cAt C [true, true, false, true, false, false])) (by kernel_rfl) (fun fr h g => ?_) (fun n => D5.ok R (L4.t R n)) n fr h (gSlice_intro e0 (gSlice_intro e1 (gInt_intro e5 (gInt_intro e8 (gInt_intro e9 (g))))))
  obtain ⟨a0, l0, c0, e0, g⟩ := gSlice_elim g
  obtain ⟨a1, l1, c1, e1, g⟩ := gSlice_elim g
  obtain ⟨x5, e5, g⟩ := gInt_elim g
  obtain ⟨x8, e8, g⟩ := gInt_elim g
  obtain ⟨x9, e9, g⟩ := gInt_elim g
  exact g
theorem B6.ok (R : Rt) (fr : Fr) (h : Hp) (g : L4.g (fun a0 l0 c0 a1 l1 c1 x5 x8 x9 h => ∃ n, L4.t R n a0 l0 c0 a1 l1 c1 x5 x8 x9 h) fr h) : den prog E (cAt C [true, true, false, true]) (Ex.then (D2.g R) (retQ E [.tmp 4] R)) fr h :=
  den_block (by kernel_rfl) (L4.ok R fr h g)
def D3.t (R : Rt) (a0 : Option Addr) (l0 : Nat) (c0 : Nat) (a1 : Option Addr) (l1 : Nat) (c1 : Nat) (x5 : Int) (h : Hp) : Prop :=
  (∃ n, L4.t R n a0 l0 c0 a1 l1 c1 x5 (((l1 : Nat) : Int)) 0 h)
def D3.g (R : Rt) (fr : Fr) (h : Hp) : Prop := gSlice (fr 0) fun a0 l0 c0 => gSlice (fr 1) fun a1 l1 c1 => gInt .u64 (fr 5) fun x5 => D3.t R a0 l0 c0 a1 l1 c1 x5 h
theorem D3.ok (R : Rt) (fr : Fr) (h : Hp) (g : D3.g R fr h) : den prog E (cAt C [true, true, false]) (Ex.then (D2.g R) (retQ E [.tmp 4] R)) fr h := by
  obtain ⟨a0, l0, c0, e0, g⟩ := gSlice_elim g
  obtain ⟨a1, l1, c1, e1, g⟩ := gSlice_elim g
  obtain ⟨x5, e5, g⟩ := gInt_elim g
  exact den_cut 1 (r := (cAt C [true, true, false, true])) (by kernel_rfl) (B6.ok R) (den_enter [(0, .slice a0 l0 c0), (1, .slice a1 l1 c1), (5, .int .u64 x5)] ⟨e0, e1, e5, trivial⟩ (by kernel_rfl) g)
theorem W7.ok (R : Rt) (fr : Fr) (h : Hp) (g : D3.g R fr h) : den prog E (cAt C [true, true]) (retQ E [.tmp 4] R) fr h :=
  den_then (by kernel_rfl) (D2.ok R) (D3.ok R fr h g)
def D1.t (R : Rt) (a0 : Option Addr) (l0 : Nat) (c0 : Nat) (a1 : Option Addr) (l1 : Nat) (c1 : Nat) (h : Hp) : Prop :=
  D3.t R a0 l0 c0 a1 l1 c1 0 h
def D1.g (R : Rt) (fr : Fr) (h : Hp) : Prop := gSlice (fr 0) fun a0 l0 c0 => gSlice (fr 1) fun a1 l1 c1 => D1.t R a0 l0 c0 a1 l1 c1 h
theorem D1.ok (R : Rt) (fr : Fr) (h : Hp) (g : D1.g R fr h) : den prog E C (retQ E [.tmp 4] R) fr h := by
  obtain ⟨a0, l0, c0, e0, g⟩ := gSlice_elim g
  obtain ⟨a1, l1, c1, e1, g⟩ := gSlice_elim g
  exact den_cut 2 (r := (cAt C [true, true])) (by kernel_rfl) (W7.ok R) (den_enter [(0, .slice a0 l0 c0), (1, .slice a1 l1 c1)] ⟨e0, e1, trivial⟩ (by kernel_rfl) g)
def t (a0 : Option Addr) (l0 : Nat) (c0 : Nat) (a1 : Option Addr) (l1 : Nat) (c1 : Nat) (h : Hp) (R : Rt) : Prop := D1.t R a0 l0 c0 a1 l1 c1 h
theorem ok {a0 : Option Addr} {l0 : Nat} {c0 : Nat} {a1 : Option Addr} {l1 : Nat} {c1 : Nat} {h : Hp} {R : Rt} (g : t a0 l0 c0 a1 l1 c1 h R) : HC id #[.slice a0 l0 c0, .slice a1 l1 c1] h R :=
  calls_of_den' envOk (c := C) (rs := [.tmp 4]) Tryz.func105 (by kernel_rfl) (by kernel_rfl) (by kernel_rfl) (args := [.slice a0 l0 c0, .slice a1 l1 c1]) (by kernel_rfl) (D1.ok R _ h (gSlice_intro rfl (gSlice_intro rfl (g))))
end natdiv_giveBack

namespace gnomonref01_Norm
noncomputable def C : Code := bodyOf Tryz.f106
def D2.t (R : Rt) (a0 : Option Addr) (l0 : Nat) (c0 : Nat) (x3 : Int) (h : Hp) : Prop :=
  mkK h 108 T108 x3 x3 fun q1 h2 =>
  slK 1 a0 l0 c0 none (some (.int .i64 x3)) none fun a_3 l_3 c_3 =>
  cpK h2 1 (some q1) x3.toNat (.slice a_3 l_3 c_3) fun n4 h4 =>
  R (.slice (some q1) x3.toNat x3.toNat) h4
def D2.g (R : Rt) (fr : Fr) (h : Hp) : Prop := gSlice (fr 0) fun a0 l0 c0 => gInt .i64 (fr 3) fun x3 => D2.t R a0 l0 c0 x3 h
theorem D2.ok (R : Rt) (fr : Fr) (h : Hp) (g : D2.g R fr h) : den prog E (cAt C [true, true, true]) (retQ E [.tmp 2] R) fr h := by
  obtain ⟨a0, l0, c0, e0, g⟩ := gSlice_elim g
  obtain ⟨x3, e3, g⟩ := gInt_elim g
  exact den_enter [(0, .slice a0 l0 c0), (3, .int .i64 x3)] ⟨e0, e3, trivial⟩ (by kernel_rfl) g
def L3.g (N : Option Addr → Nat → Nat → Int → Hp → Prop) (fr : Fr) (h : Hp) : Prop := gSlice (fr 0) fun a0 l0 c0 => gInt .i64 (fr 3) fun x3 => N a0 l0 c0 x3 h
def D4.t (R : Rt) (N3 : Option Addr → Nat → Nat → Int → Hp → Prop) (a0 : Option Addr) (l0 : Nat) (c0 : Nat) (x3 : Int) (h : Hp) : Prop :=
  cond (decide (x3 > 0)) (letK (IntKind.i64.wrap (x3 - 1)) fun n5 =>
  idxK a0 l0 n5 1 fun q6 =>
  ldK h q6 fun v7 =>
  gInt .u32 v7 fun x_8 =>
  cond (x_8 == 0) (letK (IntKind.i64.wrap (x3 - 1)) fun n9 =>
  N3 a0 l0 c0 n9 h) (D2.t R a0 l0 c0 x3 h)) (D2.t R a0 l0 c0 x3 h)
def D4.g (R : Rt) (N3 : Option Addr → Nat → Nat → Int → Hp → Prop) (fr : Fr) (h : Hp) : Prop := gSlice (fr 0) fun a0 l0 c0 => gInt .i64 (fr 3) fun x3 => D4.t R N3 a0 l0 c0 x3 h
theorem D4.ok (R : Rt) (N3 : Option Addr → Nat → Nat → Int → Hp → Prop) (fr : Fr) (h : Hp) (g : D4.g R N3 fr h) : den prog E (cAt C [true, true, false, false, false]) (Ex.then (L3.g N3) (Ex.inBlock 0 (Ex.then (D2.g R) (retQ E [.tmp 2] R)))) fr h := by
  obtain ⟨a0, l0, c0, e0, g⟩ := gSlice_elim g
  obtain ⟨x3, e3, g⟩ := gInt_elim g
  exact den_enter [(0, .slice a0 l0 c0), (3, .int .i64 x3)] ⟨e0, e3, trivial⟩ (by kernel_rfl) g
def L3.t (R : Rt) : Nat → Option Addr → Nat → Nat → Int → Hp → Prop
  | 0 => fun _ _ _ _ _ => False
  | n + 1 => fun a0 l0 c0 x3 h => D4.t R (L3.t R n) a0 l0 c0 x3 h
theorem L3.ok (R : Rt) (fr : Fr) (h : Hp) (g : L3.g (fun a0 l0 c0 x3 h => ∃ n, L3.t R n a0 l0 c0 x3 h) fr h) : den prog E (cAt C [true, true, false, false]) (Ex.inBlock 0 (Ex.then (D2.g R) (retQ E [.tmp 2] R))) fr h := by
  obtain ⟨a0, l0, c0, e0, g⟩ := gSlice_elim g
  obtain ⟨x3, e3, g⟩ := gInt_elim g
  obtain ⟨n, g⟩ := g
  refine loop_ok (fun n => L3.g (L3.t R n)) (b := (cAt C [true, true, false, false, false])) (by kernel_rfl) (fun fr h g => ?_) (fun n => D4.ok R (L3.t R n)) n fr h (gSlice_intro e0 (gInt_intro e3 (g)))
  obtain ⟨a0, l0, c0, e0, g⟩ := gSlice_elim g
  obtain ⟨x3, e3, g⟩ := gInt_elim g
  exact g
theorem B5.ok (R : Rt) (fr : Fr) (h : Hp) (g : L3.g (fun a0 l0 c0 x3 h => ∃ n, L3.t R n a0 l0 c0 x3 h) fr h) : den prog E (cAt C [true, true, false]) (Ex.then (D2.g R) (retQ E [.tmp 2] R)) fr h :=
  den_block (by kernel_rfl) (L3.ok R fr h g)
theorem W6.ok (R : Rt) (fr : Fr) (h : Hp) (g : L3.g (fun a0 l0 c0 x3 h => ∃ n, L3.t R n a0 l0 c0 x3 h) fr h) : den prog E (cAt C [true, true]) (retQ E [.tmp 2] R) fr h :=
  den_then (by kernel_rfl) (D2.ok R) (B5.ok R fr h g)
def D1.t (R : Rt) (a0 : Option Addr) (l0 : Nat) (c0 : Nat) (h : Hp) : Prop :=
  (∃ n, L3.t R n a0 l0 c0 (((l0 : Nat) : Int)) h)
def D1.g (R : Rt) (fr : Fr) (h : Hp) : Prop := gSlice (fr 0) fun a0 l0 c0 => D1.t R a0 l0 c0 h
theorem D1.ok (R : Rt) (fr : Fr) (h : Hp) (g : D1.g R fr h) : den prog E C (retQ E [.tmp 2] R) fr h := by
  obtain ⟨a0, l0, c0, e0, g⟩ := gSlice_elim g
  exact den_cut 2 (r := (cAt C [true, true])) (by kernel_rfl) (W6.ok R) (den_enter [(0, .slice a0 l0 c0)] ⟨e0, trivial⟩ (by kernel_rfl) g)
def t (a0 : Option Addr) (l0 : Nat) (c0 : Nat) (h : Hp) (R : Rt) : Prop := D1.t R a0 l0 c0 h
theorem ok {a0 : Option Addr} {l0 : Nat} {c0 : Nat} {h : Hp} {R : Rt} (g : t a0 l0 c0 h R) : HC id #[.slice a0 l0 c0] h R :=
  calls_of_den' envOk (c := C) (rs := [.tmp 2]) Tryz.func106 (by kernel_rfl) (by kernel_rfl) (by kernel_rfl) (args := [.slice a0 l0 c0]) (by kernel_rfl) (D1.ok R _ h (gSlice_intro rfl (g)))
end gnomonref01_Norm




namespace gnomonref01_Cmp
noncomputable def C : Code := bodyOf Tryz.f110
def D2.t (R : Rt)  (h : Hp) : Prop :=
  R (.int .i64 0) h
def D2.g (R : Rt) (fr : Fr) (h : Hp) : Prop := D2.t R  h
theorem D2.ok (R : Rt) (fr : Fr) (h : Hp) (g : D2.g R fr h) : den prog E (cAt C [true, true, true]) (retQ E [.tmp 4] R) fr h := by
  exact den_enter [] trivial (by kernel_rfl) g
def L4.g (N : Option Addr → Nat → Nat → Option Addr → Nat → Nat → Int → Hp → Prop) (fr : Fr) (h : Hp) : Prop := gSlice (fr 0) fun a0 l0 c0 => gSlice (fr 1) fun a1 l1 c1 => gInt .i64 (fr 5) fun x5 => N a0 l0 c0 a1 l1 c1 x5 h
def D5.t (R : Rt) (N4 : Option Addr → Nat → Nat → Option Addr → Nat → Nat → Int → Hp → Prop) (a0 : Option Addr) (l0 : Nat) (c0 : Nat) (a1 : Option Addr) (l1 : Nat) (c1 : Nat) (x5 : Int) (h : Hp) : Prop :=
  cond (decide (x5 ≥ 0)) (idxK a0 l0 x5 1 fun q2 =>
  ldK h q2 fun v3 =>
  gInt .u32 v3 fun x_4 =>
  idxK a1 l1 x5 1 fun q5 =>
  ldK h q5 fun v6 =>
  gInt .u32 v6 fun x_7 =>
  cond (decide (x_4 < x_7)) (R (.int .i64 (-1)) h) (idxK a0 l0 x5 1 fun q8 =>
  ldK h q8 fun v9 =>
  gInt .u32 v9 fun x_10 =>
  idxK a1 l1 x5 1 fun q11 =>
  ldK h q11 fun v12 =>
  gInt .u32 v12 fun x_13 =>
  cond (decide (x_10 > x_13)) (R (.int .i64 1) h) (letK (IntKind.i64.wrap (x5 - 1)) fun n14 =>
  N4 a0 l0 c0 a1 l1 c1 n14 h))) (D2.t R h)
def D5.g (R : Rt) (N4 : Option Addr → Nat → Nat → Option Addr → Nat → Nat → Int → Hp → Prop) (fr : Fr) (h : Hp) : Prop := gSlice (fr 0) fun a0 l0 c0 => gSlice (fr 1) fun a1 l1 c1 => gInt .i64 (fr 5) fun x5 => D5.t R N4 a0 l0 c0 a1 l1 c1 x5 h
theorem D5.ok (R : Rt) (N4 : Option Addr → Nat → Nat → Option Addr → Nat → Nat → Int → Hp → Prop) (fr : Fr) (h : Hp) (g : D5.g R N4 fr h) : den prog E (cAt C [true, true, false, true, false, false]) (Ex.then (L4.g N4) (Ex.inBlock 0 (Ex.then (D2.g R) (retQ E [.tmp 4] R)))) fr h := by
  obtain ⟨a0, l0, c0, e0, g⟩ := gSlice_elim g
  obtain ⟨a1, l1, c1, e1, g⟩ := gSlice_elim g
  obtain ⟨x5, e5, g⟩ := gInt_elim g
  exact den_enter [(0, .slice a0 l0 c0), (1, .slice a1 l1 c1), (5, .int .i64 x5)] ⟨e0, e1, e5, trivial⟩ (by kernel_rfl) g
def L4.t (R : Rt) : Nat → Option Addr → Nat → Nat → Option Addr → Nat → Nat → Int → Hp → Prop
  | 0 => fun _ _ _ _ _ _ _ _ => False
  | n + 1 => fun a0 l0 c0 a1 l1 c1 x5 h => D5.t R (L4.t R n) a0 l0 c0 a1 l1 c1 x5 h
theorem L4.ok (R : Rt) (fr : Fr) (h : Hp) (g : L4.g (fun a0 l0 c0 a1 l1 c1 x5 h => ∃ n, L4.t R n a0 l0 c0 a1 l1 c1 x5 h) fr h) : den prog E (cAt C [true, true, false, true, false]) (Ex.inBlock 0 (Ex.then (D2.g R) (retQ E [.tmp 4] R))) fr h := by
  obtain ⟨a0, l0, c0, e0, g⟩ := gSlice_elim g
  obtain ⟨a1, l1, c1, e1, g⟩ := gSlice_elim g
  obtain ⟨x5, e5, g⟩ := gInt_elim g
  obtain ⟨n, g⟩ := g
  refine loop_ok (fun n => L4.g (L4.t R n)) (b := (cAt C [true, true, false, true, false, false])) (by kernel_rfl) (fun fr h g => ?_) (fun n => D5.ok R (L4.t R n)) n fr h (gSlice_intro e0 (gSlice_intro e1 (gInt_intro e5 (g))))
  obtain ⟨a0, l0, c0, e0, g⟩ := gSlice_elim g
  obtain ⟨a1, l1, c1, e1, g⟩ := gSlice_elim g
  obtain ⟨x5, e5, g⟩ := gInt_elim g
  exact g
theorem B6.ok (R : Rt) (fr : Fr) (h : Hp) (g : L4.g (fun a0 l0 c0 a1 l1 c1 x5 h => ∃ n, L4.t R n a0 l0 c0 a1 l1 c1 x5 h) fr h) : den prog E (cAt C [true, true, false, true]) (Ex.then (D2.g R) (retQ E [.tmp 4] R)) fr h :=
  den_block (by kernel_rfl) (L4.ok R fr h g)
def D3.t (R : Rt) (a0 : Option Addr) (l0 : Nat) (c0 : Nat) (a1 : Option Addr) (l1 : Nat) (c1 : Nat) (h : Hp) : Prop :=
  letK (IntKind.i64.wrap ((((l0 : Nat) : Int)) - 1)) fun n1 => (∃ n, L4.t R n a0 l0 c0 a1 l1 c1 n1 h)
def D3.g (R : Rt) (fr : Fr) (h : Hp) : Prop := gSlice (fr 0) fun a0 l0 c0 => gSlice (fr 1) fun a1 l1 c1 => D3.t R a0 l0 c0 a1 l1 c1 h
theorem D3.ok (R : Rt) (fr : Fr) (h : Hp) (g : D3.g R fr h) : den prog E (cAt C [true, true, false]) (Ex.then (D2.g R) (retQ E [.tmp 4] R)) fr h := by
  obtain ⟨a0, l0, c0, e0, g⟩ := gSlice_elim g
  obtain ⟨a1, l1, c1, e1, g⟩ := gSlice_elim g
  exact den_cut 1 (r := (cAt C [true, true, false, true])) (by kernel_rfl) (B6.ok R) (den_enter [(0, .slice a0 l0 c0), (1, .slice a1 l1 c1)] ⟨e0, e1, trivial⟩ (by kernel_rfl) g)
theorem W7.ok (R : Rt) (fr : Fr) (h : Hp) (g : D3.g R fr h) : den prog E (cAt C [true, true]) (retQ E [.tmp 4] R) fr h :=
  den_then (by kernel_rfl) (D2.ok R) (D3.ok R fr h g)
def D1.t (R : Rt) (a0 : Option Addr) (l0 : Nat) (c0 : Nat) (a1 : Option Addr) (l1 : Nat) (c1 : Nat) (h : Hp) : Prop :=
  cond ((((l0 : Nat) : Int)) != (((l1 : Nat) : Int))) (cond (decide ((((l0 : Nat) : Int)) < (((l1 : Nat) : Int)))) (R (.int .i64 (-1)) h) (R (.int .i64 1) h)) (D3.t R a0 l0 c0 a1 l1 c1 h)
def D1.g (R : Rt) (fr : Fr) (h : Hp) : Prop := gSlice (fr 0) fun a0 l0 c0 => gSlice (fr 1) fun a1 l1 c1 => D1.t R a0 l0 c0 a1 l1 c1 h
theorem D1.ok (R : Rt) (fr : Fr) (h : Hp) (g : D1.g R fr h) : den prog E C (retQ E [.tmp 4] R) fr h := by
  obtain ⟨a0, l0, c0, e0, g⟩ := gSlice_elim g
  obtain ⟨a1, l1, c1, e1, g⟩ := gSlice_elim g
  exact den_cut 2 (r := (cAt C [true, true])) (by kernel_rfl) (W7.ok R) (den_enter [(0, .slice a0 l0 c0), (1, .slice a1 l1 c1)] ⟨e0, e1, trivial⟩ (by kernel_rfl) g)
def t (a0 : Option Addr) (l0 : Nat) (c0 : Nat) (a1 : Option Addr) (l1 : Nat) (c1 : Nat) (h : Hp) (R : Rt) : Prop := D1.t R a0 l0 c0 a1 l1 c1 h
theorem ok {a0 : Option Addr} {l0 : Nat} {c0 : Nat} {a1 : Option Addr} {l1 : Nat} {c1 : Nat} {h : Hp} {R : Rt} (g : t a0 l0 c0 a1 l1 c1 h R) : HC id #[.slice a0 l0 c0, .slice a1 l1 c1] h R :=
  calls_of_den' envOk (c := C) (rs := [.tmp 4]) Tryz.func110 (by kernel_rfl) (by kernel_rfl) (by kernel_rfl) (args := [.slice a0 l0 c0, .slice a1 l1 c1]) (by kernel_rfl) (D1.ok R _ h (gSlice_intro rfl (gSlice_intro rfl (g))))
end gnomonref01_Cmp

namespace gnomonref01_Sub
noncomputable def C : Code := bodyOf Tryz.f111
def D2.t (R : Rt) (a5 : Option Addr) (l5 : Nat) (c5 : Nat) (h : Hp) : Prop :=
  HC gnomonref01_Norm.id #[.slice a5 l5 c5] h fun v9 h10 =>
  gSlice v9 fun a_11 l_11 c_11 =>
  R (.slice a_11 l_11 c_11) h10
def D2.g (R : Rt) (fr : Fr) (h : Hp) : Prop := gSlice (fr 5) fun a5 l5 c5 => D2.t R a5 l5 c5 h
theorem D2.ok (R : Rt) (fr : Fr) (h : Hp) (g : D2.g R fr h) : den prog E (cAt C [true, true, true, true, true]) (retQ E [.tmp 4] R) fr h := by
  obtain ⟨a5, l5, c5, e5, g⟩ := gSlice_elim g
  exact den_enter [(5, .slice a5 l5 c5)] ⟨e5, trivial⟩ (by kernel_rfl) g
def L4.g (N : Option Addr → Nat → Nat → Option Addr → Nat → Nat → Option Addr → Nat → Nat → Int → Int → Hp → Prop) (fr : Fr) (h : Hp) : Prop := gSlice (fr 0) fun a0 l0 c0 => gSlice (fr 1) fun a1 l1 c1 => gSlice (fr 5) fun a5 l5 c5 => gInt .u64 (fr 6) fun x6 => gInt .i64 (fr 7) fun x7 => N a0 l0 c0 a1 l1 c1 a5 l5 c5 x6 x7 h
def D5.t (R : Rt) (N4 : Option Addr → Nat → Nat → Option Addr → Nat → Nat → Option Addr → Nat → Nat → Int → Int → Hp → Prop) (a0 : Option Addr) (l0 : Nat) (c0 : Nat) (a1 : Option Addr) (l1 : Nat) (c1 : Nat) (a5 : Option Addr) (l5 : Nat) (c5 : Nat) (x6 : Int) (x7 : Int) (h : Hp) : Prop :=
  cond (decide (x7 < (((l0 : Nat) : Int)))) (cond (decide (x7 < (((l1 : Nat) : Int)))) (idxK a1 l1 x7 1 fun q12 =>
  ldK h q12 fun v13 =>
  gInt .u32 v13 fun x_14 =>
  letK (IntKind.u64.wrap x_14) fun n15 =>
  letK (IntKind.u64.wrap (x6 + n15)) fun n16 =>
  idxK a0 l0 x7 1 fun q17 =>
  ldK h q17 fun v18 =>
  gInt .u32 v18 fun x_19 =>
  letK (IntKind.u64.wrap x_19) fun n20 =>
  cond (decide (n20 < n16)) (letK (IntKind.u64.wrap (n20 + 4294967296)) fun n21 =>
  letK (IntKind.u64.wrap (n21 - n16)) fun n22 =>
  letK (IntKind.u32.wrap n22) fun n23 =>
  boxK h 108 [.int .u32 n23] fun q24 h25 =>
  apK h25 108 T108 a5 l5 c5 (.slice (some q24) 1 1) fun a_26 l_26 c_26 h26 =>
  letK (IntKind.i64.wrap (x7 + 1)) fun n27 =>
  N4 a0 l0 c0 a1 l1 c1 a_26 l_26 c_26 1 n27 h26) (letK (IntKind.u64.wrap (n20 - n16)) fun n28 =>
  letK (IntKind.u32.wrap n28) fun n29 =>
  boxK h 108 [.int .u32 n29] fun q30 h31 =>
  apK h31 108 T108 a5 l5 c5 (.slice (some q30) 1 1) fun a_32 l_32 c_32 h32 =>
  letK (IntKind.i64.wrap (x7 + 1)) fun n33 =>
  N4 a0 l0 c0 a1 l1 c1 a_32 l_32 c_32 0 n33 h32)) (idxK a0 l0 x7 1 fun q34 =>
  ldK h q34 fun v35 =>
  gInt .u32 v35 fun x_36 =>
  letK (IntKind.u64.wrap x_36) fun n37 =>
  cond (decide (n37 < x6)) (letK (IntKind.u64.wrap (n37 + 4294967296)) fun n38 =>
  letK (IntKind.u64.wrap (n38 - x6)) fun n39 =>
  letK (IntKind.u32.wrap n39) fun n40 =>
  boxK h 108 [.int .u32 n40] fun q41 h42 =>
  apK h42 108 T108 a5 l5 c5 (.slice (some q41) 1 1) fun a_43 l_43 c_43 h43 =>
  letK (IntKind.i64.wrap (x7 + 1)) fun n44 =>
  N4 a0 l0 c0 a1 l1 c1 a_43 l_43 c_43 1 n44 h43) (letK (IntKind.u64.wrap (n37 - x6)) fun n45 =>
  letK (IntKind.u32.wrap n45) fun n46 =>
  boxK h 108 [.int .u32 n46] fun q47 h48 =>
  apK h48 108 T108 a5 l5 c5 (.slice (some q47) 1 1) fun a_49 l_49 c_49 h49 =>
  letK (IntKind.i64.wrap (x7 + 1)) fun n50 =>
  N4 a0 l0 c0 a1 l1 c1 a_49 l_49 c_49 0 n50 h49))) (D2.t R a5 l5 c5 h)
def D5.g (R : Rt) (N4 : Option Addr → Nat → Nat → Option Addr → Nat → Nat → Option Addr → Nat → Nat → Int → Int → Hp → Prop) (fr : Fr) (h : Hp) : Prop := gSlice (fr 0) fun a0 l0 c0 => gSlice (fr 1) fun a1 l1 c1 => gSlice (fr 5) fun a5 l5 c5 => gInt .u64 (fr 6) fun x6 => gInt .i64 (fr 7) fun x7 => D5.t R N4 a0 l0 c0 a1 l1 c1 a5 l5 c5 x6 x7 h
theorem D5.ok (R : Rt) (N4 : Option Addr → Nat → Nat → Option Addr → Nat → Nat → Option Addr → Nat → Nat → Int → Int → Hp → Prop) (fr : Fr) (h : Hp) (g : D5.g R N4 fr h) : den prog E (cAt C [true, true, true, true, false, true, false, false]) (Ex.then (L4.g N4) (Ex.inBlock 0 (Ex.then (D2.g R) (retQ E [.tmp 4] R)))) fr h := by
  obtain ⟨a0, l0, c0, e0, g⟩ := gSlice_elim g
  obtain ⟨a1, l1, c1, e1, g⟩ := gSlice_elim g
  obtain ⟨a5, l5, c5, e5, g⟩ := gSlice_elim g
  obtain ⟨x6, e6, g⟩ := gInt_elim g
  obtain ⟨x7, e7, g⟩ := gInt_elim g
  exact den_enter [(0, .slice a0 l0 c0), (1, .slice a1 l1 c1), (5, .slice a5 l5 c5), (6, .int .u64 x6), (7, .int .i64 x7)] ⟨e0, e1, e5, e6, e7, trivial⟩ (by kernel_rfl) g
def L4.t (R : Rt) : Nat → Option Addr → Nat → Nat → Option Addr → Nat → Nat → Option Addr → Nat → Nat → Int → Int → Hp → Prop
  | 0 => fun _ _ _ _ _ _ _ _ _ _ _ _ => False
  | n + 1 => fun a0 l0 c0 a1 l1 c1 a5 l5 c5 x6 x7 h => D5.t R (L4.t R n) a0 l0 c0 a1 l1 c1 a5 l5 c5 x6 x7 h
theorem L4.ok (R : Rt) (fr : Fr) (h : Hp) (g : L4.g (fun a0 l0 c0 a1 l1 c1 a5 l5 c5 x6 x7 h => ∃ n, L4.t R n a0 l0 c0 a1 l1 c1 a5 l5 c5 x6 x7 h) fr h) : den prog E (cAt C [true, true, true, true, false, true, false]) (Ex.inBlock 0 (Ex.then (D2.g R) (retQ E [.tmp 4] R))) fr h := by
  obtain ⟨a0, l0, c0, e0, g⟩ := gSlice_elim g
  obtain ⟨a1, l1, c1, e1, g⟩ := gSlice_elim g
  obtain ⟨a5, l5, c5, e5, g⟩ := gSlice_elim g
  obtain ⟨x6, e6, g⟩ := gInt_elim g
  obtain ⟨x7, e7, g⟩ := gInt_elim g
  obtain ⟨n, g⟩ := g
  refine loop_ok (fun n => L4.g (L4.t R n)) (b := (cAt C [true, true, true, true, false, true, false, false])) (by kernel_rfl) (fun fr h g => ?_) (fun n => D5.ok R (L4.t R n)) n fr h (gSlice_intro e0 (gSlice_intro e1 (gSlice_intro e5 (gInt_intro e6 (gInt_intro e7 (g))))))
  obtain ⟨a0, l0, c0, e0, g⟩ := gSlice_elim g
  obtain ⟨a1, l1, c1, e1, g⟩ := gSlice_elim g
  obtain ⟨a5, l5, c5, e5, g⟩ := gSlice_elim g
  obtain ⟨x6, e6, g⟩ := gInt_elim g
  obtain ⟨x7, e7, g⟩ := gInt_elim g
  exact g
theorem B6.ok (R : Rt) (fr : Fr) (h : Hp) (g : L4.g (fun a0 l0 c0 a1 l1 c1 a5 l5 c5 x6 x7 h => ∃ n, L4.t R n a0 l0 c0 a1 l1 c1 a5 l5 c5 x6 x7 h) fr h) : den prog E (cAt C [true, true, true, true, false, true]) (Ex.then (D2.g R) (retQ E [.tmp 4] R)) fr h :=
  den_block (by kernel_rfl) (L4.ok R fr h g)
def D3.t (R : Rt) (a0 : Option Addr) (l0 : Nat) (c0 : Nat) (a1 : Option Addr) (l1 : Nat) (c1 : Nat) (a5 : Option Addr) (l5 : Nat) (c5 : Nat) (x6 : Int) (h : Hp) : Prop :=
  (∃ n, L4.t R n a0 l0 c0 a1 l1 c1 a5 l5 c5 x6 0 h)
def D3.g (R : Rt) (fr : Fr) (h : Hp) : Prop := gSlice (fr 0) fun a0 l0 c0 => gSlice (fr 1) fun a1 l1 c1 => gSlice (fr 5) fun a5 l5 c5 => gInt .u64 (fr 6) fun x6 => D3.t R a0 l0 c0 a1 l1 c1 a5 l5 c5 x6 h
theorem D3.ok (R : Rt) (fr : Fr) (h : Hp) (g : D3.g R fr h) : den prog E (cAt C [true, true, true, true, false]) (Ex.then (D2.g R) (retQ E [.tmp 4] R)) fr h := by
  obtain ⟨a0, l0, c0, e0, g⟩ := gSlice_elim g
  obtain ⟨a1, l1, c1, e1, g⟩ := gSlice_elim g
  obtain ⟨a5, l5, c5, e5, g⟩ := gSlice_elim g
  obtain ⟨x6, e6, g⟩ := gInt_elim g
  exact den_cut 1 (r := (cAt C [true, true, true, true, false, true])) (by kernel_rfl) (B6.ok R) (den_enter [(0, .slice a0 l0 c0), (1, .slice a1 l1 c1), (5, .slice a5 l5 c5), (6, .int .u64 x6)] ⟨e0, e1, e5, e6, trivial⟩ (by kernel_rfl) g)
theorem W7.ok (R : Rt) (fr : Fr) (h : Hp) (g : D3.g R fr h) : den prog E (cAt C [true, true, true, true]) (retQ E [.tmp 4] R) fr h :=
  den_then (by kernel_rfl) (D2.ok R) (D3.ok R fr h g)
def D1.t (R : Rt) (a0 : Option Addr) (l0 : Nat) (c0 : Nat) (a1 : Option Addr) (l1 : Nat) (c1 : Nat) (h : Hp) : Prop :=
  HC gnomonref01_Cmp.id #[.slice a0 l0 c0, .slice a1 l1 c1] h fun v1 h2 =>
  gInt .i64 v1 fun x_3 =>
  cond (decide (x_3 ≤ 0)) (HC gnomonref01_Word.id #[.int .u64 0] h2 fun v4 h5 =>
  gSlice v4 fun a_6 l_6 c_6 =>
  R (.slice a_6 l_6 c_6) h5) (mkK h2 108 T108 0 (((l0 : Nat) : Int)) fun q7 h8 =>
  D3.t R a0 l0 c0 a1 l1 c1 (some q7) ((0 : Int).toNat) ((((l0 : Nat) : Int)).toNat) 0 h8)
def D1.g (R : Rt) (fr : Fr) (h : Hp) : Prop := gSlice (fr 0) fun a0 l0 c0 => gSlice (fr 1) fun a1 l1 c1 => D1.t R a0 l0 c0 a1 l1 c1 h
theorem D1.ok (R : Rt) (fr : Fr) (h : Hp) (g : D1.g R fr h) : den prog E C (retQ E [.tmp 4] R) fr h := by
  obtain ⟨a0, l0, c0, e0, g⟩ := gSlice_elim g
  obtain ⟨a1, l1, c1, e1, g⟩ := gSlice_elim g
  exact den_cut 4 (r := (cAt C [true, true, true, true])) (by kernel_rfl) (W7.ok R) (den_enter [(0, .slice a0 l0 c0), (1, .slice a1 l1 c1)] ⟨e0, e1, trivial⟩ (by kernel_rfl) g)
def t (a0 : Option Addr) (l0 : Nat) (c0 : Nat) (a1 : Option Addr) (l1 : Nat) (c1 : Nat) (h : Hp) (R : Rt) : Prop := D1.t R a0 l0 c0 a1 l1 c1 h
theorem ok {a0 : Option Addr} {l0 : Nat} {c0 : Nat} {a1 : Option Addr} {l1 : Nat} {c1 : Nat} {h : Hp} {R : Rt} (g : t a0 l0 c0 a1 l1 c1 h R) : HC id #[.slice a0 l0 c0, .slice a1 l1 c1] h R :=
  calls_of_den' envOk (c := C) (rs := [.tmp 4]) Tryz.func111 (by kernel_rfl) (by kernel_rfl) (by kernel_rfl) (args := [.slice a0 l0 c0, .slice a1 l1 c1]) (by kernel_rfl) (D1.ok R _ h (gSlice_intro rfl (gSlice_intro rfl (g))))
end gnomonref01_Sub

namespace gnomonref01_Mul
noncomputable def C : Code := bodyOf Tryz.f112
def D2.t (R : Rt) (a5 : Option Addr) (l5 : Nat) (c5 : Nat) (h : Hp) : Prop :=
  HC gnomonref01_Norm.id #[.slice a5 l5 c5] h fun v4 h5 =>
  gSlice v4 fun a_6 l_6 c_6 =>
  R (.slice a_6 l_6 c_6) h5
def D2.g (R : Rt) (fr : Fr) (h : Hp) : Prop := gSlice (fr 5) fun a5 l5 c5 => D2.t R a5 l5 c5 h
theorem D2.ok (R : Rt) (fr : Fr) (h : Hp) (g : D2.g R fr h) : den prog E (cAt C [true, true, true]) (retQ E [.tmp 4] R) fr h := by
  obtain ⟨a5, l5, c5, e5, g⟩ := gSlice_elim g
  exact den_enter [(5, .slice a5 l5 c5)] ⟨e5, trivial⟩ (by kernel_rfl) g
def L4.g (N : Option Addr → Nat → Nat → Option Addr → Nat → Nat → Option Addr → Nat → Nat → Int → Hp → Prop) (fr : Fr) (h : Hp) : Prop := gSlice (fr 0) fun a0 l0 c0 => gSlice (fr 1) fun a1 l1 c1 => gSlice (fr 5) fun a5 l5 c5 => gInt .i64 (fr 6) fun x6 => N a0 l0 c0 a1 l1 c1 a5 l5 c5 x6 h
def D6.t (R : Rt) (N4 : Option Addr → Nat → Nat → Option Addr → Nat → Nat → Option Addr → Nat → Nat → Int → Hp → Prop) (a0 : Option Addr) (l0 : Nat) (c0 : Nat) (a1 : Option Addr) (l1 : Nat) (c1 : Nat) (a5 : Option Addr) (l5 : Nat) (c5 : Nat) (x6 : Int) (h : Hp) : Prop :=
  letK (IntKind.i64.wrap (x6 + 1)) fun n7 => N4 a0 l0 c0 a1 l1 c1 a5 l5 c5 n7 h
def D6.g (R : Rt) (N4 : Option Addr → Nat → Nat → Option Addr → Nat → Nat → Option Addr → Nat → Nat → Int → Hp → Prop) (fr : Fr) (h : Hp) : Prop := gSlice (fr 0) fun a0 l0 c0 => gSlice (fr 1) fun a1 l1 c1 => gSlice (fr 5) fun a5 l5 c5 => gInt .i64 (fr 6) fun x6 => D6.t R N4 a0 l0 c0 a1 l1 c1 a5 l5 c5 x6 h
theorem D6.ok (R : Rt) (N4 : Option Addr → Nat → Nat → Option Addr → Nat → Nat → Option Addr → Nat → Nat → Int → Hp → Prop) (fr : Fr) (h : Hp) (g : D6.g R N4 fr h) : den prog E (cAt C [true, true, false, true, false, false, true, true]) (Ex.then (L4.g N4) (Ex.inBlock 0 (Ex.then (D2.g R) (retQ E [.tmp 4] R)))) fr h := by
  obtain ⟨a0, l0, c0, e0, g⟩ := gSlice_elim g
  obtain ⟨a1, l1, c1, e1, g⟩ := gSlice_elim g
  obtain ⟨a5, l5, c5, e5, g⟩ := gSlice_elim g
  obtain ⟨x6, e6, g⟩ := gInt_elim g
  exact den_enter [(0, .slice a0 l0 c0), (1, .slice a1 l1 c1), (5, .slice a5 l5 c5), (6, .int .i64 x6)] ⟨e0, e1, e5, e6, trivial⟩ (by kernel_rfl) g
def D8.t (R : Rt) (N4 : Option Addr → Nat → Nat → Option Addr → Nat → Nat → Option Addr → Nat → Nat → Int → Hp → Prop) (a0 : Option Addr) (l0 : Nat) (c0 : Nat) (a1 : Option Addr) (l1 : Nat) (c1 : Nat) (a5 : Option Addr) (l5 : Nat) (c5 : Nat) (x6 : Int) (x7 : Int) (h : Hp) : Prop :=
  letK (IntKind.i64.wrap (x6 + (((l1 : Nat) : Int)))) fun n12 =>
  letK (IntKind.u32.wrap x7) fun n13 =>
  idxK a5 l5 n12 1 fun q14 =>
  stK h q14 (.int .u32 n13) fun h15 =>
  D6.t R N4 a0 l0 c0 a1 l1 c1 a5 l5 c5 x6 h15
def D8.g (R : Rt) (N4 : Option Addr → Nat → Nat → Option Addr → Nat → Nat → Option Addr → Nat → Nat → Int → Hp → Prop) (fr : Fr) (h : Hp) : Prop := gSlice (fr 0) fun a0 l0 c0 => gSlice (fr 1) fun a1 l1 c1 => gSlice (fr 5) fun a5 l5 c5 => gInt .i64 (fr 6) fun x6 => gInt .u64 (fr 7) fun x7 => D8.t R N4 a0 l0 c0 a1 l1 c1 a5 l5 c5 x6 x7 h
theorem D8.ok (R : Rt) (N4 : Option Addr → Nat → Nat → Option Addr → Nat → Nat → Option Addr → Nat → Nat → Int → Hp → Prop) (fr : Fr) (h : Hp) (g : D8.g R N4 fr h) : den prog E (cAt C [true, true, false, true, false, false, true, false, false, true, true, true]) (Ex.inBlock 1 (Ex.then (D6.g R N4) (Ex.then (L4.g N4) (Ex.inBlock 0 (Ex.then (D2.g R) (retQ E [.tmp 4] R)))))) fr h := by
  obtain ⟨a0, l0, c0, e0, g⟩ := gSlice_elim g
  obtain ⟨a1, l1, c1, e1, g⟩ := gSlice_elim g
  obtain ⟨a5, l5, c5, e5, g⟩ := gSlice_elim g
  obtain ⟨x6, e6, g⟩ := gInt_elim g
  obtain ⟨x7, e7, g⟩ := gInt_elim g
  exact den_enter [(0, .slice a0 l0 c0), (1, .slice a1 l1 c1), (5, .slice a5 l5 c5), (6, .int .i64 x6), (7, .int .u64 x7)] ⟨e0, e1, e5, e6, e7, trivial⟩ (by kernel_rfl) g
def L10.g (N : Option Addr → Nat → Nat → Option Addr → Nat → Nat → Option Addr → Nat → Nat → Int → Int → Int → Int → Hp → Prop) (fr : Fr) (h : Hp) : Prop := gSlice (fr 0) fun a0 l0 c0 => gSlice (fr 1) fun a1 l1 c1 => gSlice (fr 5) fun a5 l5 c5 => gInt .i64 (fr 6) fun x6 => gInt .u64 (fr 7) fun x7 => gInt .u64 (fr 8) fun x8 => gInt .i64 (fr 9) fun x9 => N a0 l0 c0 a1 l1 c1 a5 l5 c5 x6 x7 x8 x9 h
def D11.t (R : Rt) (N4 : Option Addr → Nat → Nat → Option Addr → Nat → Nat → Option Addr → Nat → Nat → Int → Hp → Prop) (N10 : Option Addr → Nat → Nat → Option Addr → Nat → Nat → Option Addr → Nat → Nat → Int → Int → Int → Int → Hp → Prop) (a0 : Option Addr) (l0 : Nat) (c0 : Nat) (a1 : Option Addr) (l1 : Nat) (c1 : Nat) (a5 : Option Addr) (l5 : Nat) (c5 : Nat) (x6 : Int) (x7 : Int) (x8 : Int) (x9 : Int) (h : Hp) : Prop :=
  cond (decide (x9 < (((l1 : Nat) : Int)))) (letK (IntKind.i64.wrap (x6 + x9)) fun n16 =>
  idxK a5 l5 n16 1 fun q17 =>
  ldK h q17 fun v18 =>
  gInt .u32 v18 fun x_19 =>
  letK (IntKind.u64.wrap x_19) fun n20 =>
  idxK a1 l1 x9 1 fun q21 =>
  ldK h q21 fun v22 =>
  gInt .u32 v22 fun x_23 =>
  letK (IntKind.u64.wrap x_23) fun n24 =>
  letK (IntKind.u64.wrap (x8 * n24)) fun n25 =>
  letK (IntKind.u64.wrap (n20 + n25)) fun n26 =>
  letK (IntKind.u64.wrap (x7 + n26)) fun n27 =>
  letK (IntKind.i64.wrap (x6 + x9)) fun n28 =>
  letK (andI .u64 n27 4294967295) fun n29 =>
  letK (IntKind.u32.wrap n29) fun n30 =>
  idxK a5 l5 n28 1 fun q31 =>
  stK h q31 (.int .u32 n30) fun h32 =>
  0 ≤ (32 : Int) ∧ letK (shrI .u64 n27 32) fun n33 =>
  letK (IntKind.i64.wrap (x9 + 1)) fun n34 =>
  N10 a0 l0 c0 a1 l1 c1 a5 l5 c5 x6 n33 x8 n34 h32) (D8.t R N4 a0 l0 c0 a1 l1 c1 a5 l5 c5 x6 x7 h)
def D11.g (R : Rt) (N4 : Option Addr → Nat → Nat → Option Addr → Nat → Nat → Option Addr → Nat → Nat → Int → Hp → Prop) (N10 : Option Addr → Nat → Nat → Option Addr → Nat → Nat → Option Addr → Nat → Nat → Int → Int → Int → Int → Hp → Prop) (fr : Fr) (h : Hp) : Prop := gSlice (fr 0) fun a0 l0 c0 => gSlice (fr 1) fun a1 l1 c1 => gSlice (fr 5) fun a5 l5 c5 => gInt .i64 (fr 6) fun x6 => gInt .u64 (fr 7) fun x7 => gInt .u64 (fr 8) fun x8 => gInt .i64 (fr 9) fun x9 => D11.t R N4 N10 a0 l0 c0 a1 l1 c1 a5 l5 c5 x6 x7 x8 x9 h
theorem D11.ok (R : Rt) (N4 : Option Addr → Nat → Nat → Option Addr → Nat → Nat → Option Addr → Nat → Nat → Int → Hp → Prop) (N10 : Option Addr → Nat → Nat → Option Addr → Nat → Nat → Option Addr → Nat → Nat → Int → Int → Int → Int → Hp → Prop) (fr : Fr) (h : Hp) (g : D11.g R N4 N10 fr h) : den prog E (cAt C [true, true, false, true, false, false, true, false, false, true, true, false, true, false, false]) (Ex.then (L10.g N10) (Ex.inBlock 2 (Ex.then (D8.g R N4) (Ex.inBlock 1 (Ex.then (D6.g R N4) (Ex.then (L4.g N4) (Ex.inBlock 0 (Ex.then (D2.g R) (retQ E [.tmp 4] R))))))))) fr h := by
  obtain ⟨a0, l0, c0, e0, g⟩ := gSlice_elim g
  obtain ⟨a1, l1, c1, e1, g⟩ := gSlice_elim g
  obtain ⟨a5, l5, c5, e5, g⟩ := gSlice_elim g
  obtain ⟨x6, e6, g⟩ := gInt_elim g
  obtain ⟨x7, e7, g⟩ := gInt_elim g
  obtain ⟨x8, e8, g⟩ := gInt_elim g
  obtain ⟨x9, e9, g⟩ := gInt_elim g
  exact den_enter [(0, .slice a0 l0 c0), (1, .slice a1 l1 c1), (5, .slice a5 l5 c5), (6, .int .i64 x6), (7, .int .u64 x7), (8, .int .u64 x8), (9, .int .i64 x9)] ⟨e0, e1, e5, e6, e7, e8, e9, trivial⟩ (by kernel_rfl) g
def L10.t (R : Rt) (N4 : Option Addr → Nat → Nat → Option Addr → Nat → Nat → Option Addr → Nat → Nat → Int → Hp → Prop) : Nat → Option Addr → Nat → Nat → Option Addr → Nat → Nat → Option Addr → Nat → Nat → Int → Int → Int → Int → Hp → Prop
  | 0 => fun _ _ _ _ _ _ _ _ _ _ _ _ _ _ => False
  | n + 1 => fun a0 l0 c0 a1 l1 c1 a5 l5 c5 x6 x7 x8 x9 h => D11.t R N4 (L10.t R N4 n) a0 l0 c0 a1 l1 c1 a5 l5 c5 x6 x7 x8 x9 h
theorem L10.ok (R : Rt) (N4 : Option Addr → Nat → Nat → Option Addr → Nat → Nat → Option Addr → Nat → Nat → Int → Hp → Prop) (fr : Fr) (h : Hp) (g : L10.g (fun a0 l0 c0 a1 l1 c1 a5 l5 c5 x6 x7 x8 x9 h => ∃ n, L10.t R N4 n a0 l0 c0 a1 l1 c1 a5 l5 c5 x6 x7 x8 x9 h) fr h) : den prog E (cAt C [true, true, false, true, false, false, true, false, false, true, true, false, true, false]) (Ex.inBlock 2 (Ex.then (D8.g R N4) (Ex.inBlock 1 (Ex.then (D6.g R N4) (Ex.then (L4.g N4) (Ex.inBlock 0 (Ex.then (D2.g R) (retQ E [.tmp 4] R)))))))) fr h := by
  obtain ⟨a0, l0, c0, e0, g⟩ := gSlice_elim g
  obtain ⟨a1, l1, c1, e1, g⟩ := gSlice_elim g
  obtain ⟨a5, l5, c5, e5, g⟩ := gSlice_elim g
  obtain ⟨x6, e6, g⟩ := gInt_elim g
  obtain ⟨x7, e7, g⟩ := gInt_elim g
  obtain ⟨x8, e8, g⟩ := gInt_elim g
  obtain ⟨x9, e9, g⟩ := gInt_elim g
  obtain ⟨n, g⟩ := g
  refine loop_ok (fun n => L10.g (L10.t R N4 n)) (b := (cAt C [true, true, false, true, false, false, true, false, false, true, true, false, true, false, false])) (by kernel_rfl) (fun fr h g => ?_) (fun n => D11.ok R N4 (L10.t R N4 n)) n fr h (gSlice_intro e0 (gSlice_intro e1 (gSlice_intro e5 (gInt_intro e6 (gInt_intro e7 (gInt_intro e8 (gInt_intro e9 (g))))))))
  obtain ⟨a0, l0, c0, e0, g⟩ := gSlice_elim g
  obtain ⟨a1, l1, c1, e1, g⟩ := gSlice_elim g
  obtain ⟨a5, l5, c5, e5, g⟩ := gSlice_elim g
  obtain ⟨x6, e6, g⟩ := gInt_elim g
  obtain ⟨x7, e7, g⟩ := gInt_elim g
  obtain ⟨x8, e8, g⟩ := gInt_elim g
  obtain ⟨x9, e9, g⟩ := gInt_elim g
  exact g
theorem B12.ok (R : Rt) (N4 : Option Addr → Nat → Nat → Option Addr → Nat → Nat → Option Addr → Nat → Nat → Int → Hp → Prop) (fr : Fr) (h : Hp) (g : L10.g (fun a0 l0 c0 a1 l1 c1 a5 l5 c5 x6 x7 x8 x9 h => ∃ n, L10.t R N4 n a0 l0 c0 a1 l1 c1 a5 l5 c5 x6 x7 x8 x9 h) fr h) : den prog E (cAt C [true, true, false, true, false, false, true, false, false, true, true, false, true]) (Ex.then (D8.g R N4) (Ex.inBlock 1 (Ex.then (D6.g R N4) (Ex.then (L4.g N4) (Ex.inBlock 0 (Ex.then (D2.g R) (retQ E [.tmp 4] R))))))) fr h :=
  den_block (by kernel_rfl) (L10.ok R N4 fr h g)
def D9.t (R : Rt) (N4 : Option Addr → Nat → Nat → Option Addr → Nat → Nat → Option Addr → Nat → Nat → Int → Hp → Prop) (a0 : Option Addr) (l0 : Nat) (c0 : Nat) (a1 : Option Addr) (l1 : Nat) (c1 : Nat) (a5 : Option Addr) (l5 : Nat) (c5 : Nat) (x6 : Int) (x7 : Int) (x8 : Int) (h : Hp) : Prop :=
  (∃ n, L10.t R N4 n a0 l0 c0 a1 l1 c1 a5 l5 c5 x6 x7 x8 0 h)
def D9.g (R : Rt) (N4 : Option Addr → Nat → Nat → Option Addr → Nat → Nat → Option Addr → Nat → Nat → Int → Hp → Prop) (fr : Fr) (h : Hp) : Prop := gSlice (fr 0) fun a0 l0 c0 => gSlice (fr 1) fun a1 l1 c1 => gSlice (fr 5) fun a5 l5 c5 => gInt .i64 (fr 6) fun x6 => gInt .u64 (fr 7) fun x7 => gInt .u64 (fr 8) fun x8 => D9.t R N4 a0 l0 c0 a1 l1 c1 a5 l5 c5 x6 x7 x8 h
theorem D9.ok (R : Rt) (N4 : Option Addr → Nat → Nat → Option Addr → Nat → Nat → Option Addr → Nat → Nat → Int → Hp → Prop) (fr : Fr) (h : Hp) (g : D9.g R N4 fr h) : den prog E (cAt C [true, true, false, true, false, false, true, false, false, true, true, false]) (Ex.then (D8.g R N4) (Ex.inBlock 1 (Ex.then (D6.g R N4) (Ex.then (L4.g N4) (Ex.inBlock 0 (Ex.then (D2.g R) (retQ E [.tmp 4] R))))))) fr h := by
  obtain ⟨a0, l0, c0, e0, g⟩ := gSlice_elim g
  obtain ⟨a1, l1, c1, e1, g⟩ := gSlice_elim g
  obtain ⟨a5, l5, c5, e5, g⟩ := gSlice_elim g
  obtain ⟨x6, e6, g⟩ := gInt_elim g
  obtain ⟨x7, e7, g⟩ := gInt_elim g
  obtain ⟨x8, e8, g⟩ := gInt_elim g
  exact den_cut 1 (r := (cAt C [true, true, false, true, false, false, true, false, false, true, true, false, true])) (by kernel_rfl) (B12.ok R N4) (den_enter [(0, .slice a0 l0 c0), (1, .slice a1 l1 c1), (5, .slice a5 l5 c5), (6, .int .i64 x6), (7, .int .u64 x7), (8, .int .u64 x8)] ⟨e0, e1, e5, e6, e7, e8, trivial⟩ (by kernel_rfl) g)
theorem W13.ok (R : Rt) (N4 : Option Addr → Nat → Nat → Option Addr → Nat → Nat → Option Addr → Nat → Nat → Int → Hp → Prop) (fr : Fr) (h : Hp) (g : D9.g R N4 fr h) : den prog E (cAt C [true, true, false, true, false, false, true, false, false, true, true]) (Ex.inBlock 1 (Ex.then (D6.g R N4) (Ex.then (L4.g N4) (Ex.inBlock 0 (Ex.then (D2.g R) (retQ E [.tmp 4] R)))))) fr h :=
  den_then (by kernel_rfl) (D8.ok R N4) (D9.ok R N4 fr h g)
def D7.t (R : Rt) (N4 : Option Addr → Nat → Nat → Option Addr → Nat → Nat → Option Addr → Nat → Nat → Int → Hp → Prop) (a0 : Option Addr) (l0 : Nat) (c0 : Nat) (a1 : Option Addr) (l1 : Nat) (c1 : Nat) (a5 : Option Addr) (l5 : Nat) (c5 : Nat) (x6 : Int) (h : Hp) : Prop :=
  idxK a0 l0 x6 1 fun q8 =>
  ldK h q8 fun v9 =>
  gInt .u32 v9 fun x_10 =>
  letK (IntKind.u64.wrap x_10) fun n11 =>
  D9.t R N4 a0 l0 c0 a1 l1 c1 a5 l5 c5 x6 0 n11 h
def D7.g (R : Rt) (N4 : Option Addr → Nat → Nat → Option Addr → Nat → Nat → Option Addr → Nat → Nat → Int → Hp → Prop) (fr : Fr) (h : Hp) : Prop := gSlice (fr 0) fun a0 l0 c0 => gSlice (fr 1) fun a1 l1 c1 => gSlice (fr 5) fun a5 l5 c5 => gInt .i64 (fr 6) fun x6 => D7.t R N4 a0 l0 c0 a1 l1 c1 a5 l5 c5 x6 h
theorem D7.ok (R : Rt) (N4 : Option Addr → Nat → Nat → Option Addr → Nat → Nat → Option Addr → Nat → Nat → Int → Hp → Prop) (fr : Fr) (h : Hp) (g : D7.g R N4 fr h) : den prog E (cAt C [true, true, false, true, false, false, true, false, false]) (Ex.inBlock 1 (Ex.then (D6.g R N4) (Ex.then (L4.g N4) (Ex.inBlock 0 (Ex.then (D2.g R) (retQ E [.tmp 4] R)))))) fr h := by
  obtain ⟨a0, l0, c0, e0, g⟩ := gSlice_elim g
  obtain ⟨a1, l1, c1, e1, g⟩ := gSlice_elim g
  obtain ⟨a5, l5, c5, e5, g⟩ := gSlice_elim g
  obtain ⟨x6, e6, g⟩ := gInt_elim g
  exact den_cut 2 (r := (cAt C [true, true, false, true, false, false, true, false, false, true, true])) (by kernel_rfl) (W13.ok R N4) (den_enter [(0, .slice a0 l0 c0), (1, .slice a1 l1 c1), (5, .slice a5 l5 c5), (6, .int .i64 x6)] ⟨e0, e1, e5, e6, trivial⟩ (by kernel_rfl) g)
theorem B14.ok (R : Rt) (N4 : Option Addr → Nat → Nat → Option Addr → Nat → Nat → Option Addr → Nat → Nat → Int → Hp → Prop) (fr : Fr) (h : Hp) (g : D7.g R N4 fr h) : den prog E (cAt C [true, true, false, true, false, false, true, false]) (Ex.then (D6.g R N4) (Ex.then (L4.g N4) (Ex.inBlock 0 (Ex.then (D2.g R) (retQ E [.tmp 4] R))))) fr h :=
  den_block (by kernel_rfl) (D7.ok R N4 fr h g)
theorem W15.ok (R : Rt) (N4 : Option Addr → Nat → Nat → Option Addr → Nat → Nat → Option Addr → Nat → Nat → Int → Hp → Prop) (fr : Fr) (h : Hp) (g : D7.g R N4 fr h) : den prog E (cAt C [true, true, false, true, false, false, true]) (Ex.then (L4.g N4) (Ex.inBlock 0 (Ex.then (D2.g R) (retQ E [.tmp 4] R)))) fr h :=
  den_then (by kernel_rfl) (D6.ok R N4) (B14.ok R N4 fr h g)
def D5.t (R : Rt) (N4 : Option Addr → Nat → Nat → Option Addr → Nat → Nat → Option Addr → Nat → Nat → Int → Hp → Prop) (a0 : Option Addr) (l0 : Nat) (c0 : Nat) (a1 : Option Addr) (l1 : Nat) (c1 : Nat) (a5 : Option Addr) (l5 : Nat) (c5 : Nat) (x6 : Int) (h : Hp) : Prop :=
  cond (decide (x6 < (((l0 : Nat) : Int)))) (D7.t R N4 a0 l0 c0 a1 l1 c1 a5 l5 c5 x6 h) (D2.t R a5 l5 c5 h)
def D5.g (R : Rt) (N4 : Option Addr → Nat → Nat → Option Addr → Nat → Nat → Option Addr → Nat → Nat → Int → Hp → Prop) (fr : Fr) (h : Hp) : Prop := gSlice (fr 0) fun a0 l0 c0 => gSlice (fr 1) fun a1 l1 c1 => gSlice (fr 5) fun a5 l5 c5 => gInt .i64 (fr 6) fun x6 => D5.t R N4 a0 l0 c0 a1 l1 c1 a5 l5 c5 x6 h
theorem D5.ok (R : Rt) (N4 : Option Addr → Nat → Nat → Option Addr → Nat → Nat → Option Addr → Nat → Nat → Int → Hp → Prop) (fr : Fr) (h : Hp) (g : D5.g R N4 fr h) : den prog E (cAt C [true, true, false, true, false, false]) (Ex.then (L4.g N4) (Ex.inBlock 0 (Ex.then (D2.g R) (retQ E [.tmp 4] R)))) fr h := by
  obtain ⟨a0, l0, c0, e0, g⟩ := gSlice_elim g
  obtain ⟨a1, l1, c1, e1, g⟩ := gSlice_elim g
  obtain ⟨a5, l5, c5, e5, g⟩ := gSlice_elim g
  obtain ⟨x6, e6, g⟩ := gInt_elim g
  exact den_cut 1 (r := (cAt C [true, true, false, true, false, false, true])) (by kernel_rfl) (W15.ok R N4) (den_enter [(0, .slice a0 l0 c0), (1, .slice a1 l1 c1), (5, .slice a5 l5 c5), (6, .int .i64 x6)] ⟨e0, e1, e5, e6, trivial⟩ (by kernel_rfl) g)
def L4.t (R : Rt) : Nat → Option Addr → Nat → Nat → Option Addr → Nat → Nat → Option Addr → Nat → Nat → Int → Hp → Prop
  | 0 => fun _ _ _ _ _ _ _ _ _ _ _ => False
  | n + 1 => fun a0 l0 c0 a1 l1 c1 a5 l5 c5 x6 h => D5.t R (L4.t R n) a0 l0 c0 a1 l1 c1 a5 l5 c5 x6 h
theorem L4.ok (R : Rt) (fr : Fr) (h : Hp) (g : L4.g (fun a0 l0 c0 a1 l1 c1 a5 l5 c5 x6 h => ∃ n, L4.t R n a0 l0 c0 a1 l1 c1 a5 l5 c5 x6 h) fr h) : den prog E (cAt C [true, true, false, true, false]) (Ex.inBlock 0 (Ex.then (D2.g R) (retQ E [.tmp 4] R))) fr h := by
  obtain ⟨a0, l0, c0, e0, g⟩ := gSlice_elim g
  obtain ⟨a1, l1, c1, e1, g⟩ := gSlice_elim g
  obtain ⟨a5, l5, c5, e5, g⟩ := gSlice_elim g
  obtain ⟨x6, e6, g⟩ := gInt_elim g
  obtain ⟨n, g⟩ := g
  refine loop_ok (fun n => L4.g (L4.t R n)) (b := (cAt C [true, true, false, true, false, false])) (by kernel_rfl) (fun fr h g => ?_) (fun n => D5.ok R (L4.t R n)) n fr h (gSlice_intro e0 (gSlice_intro e1 (gSlice_intro e5 (gInt_intro e6 (g)))))
  obtain ⟨a0, l0, c0, e0, g⟩ := gSlice_elim g
  obtain ⟨a1, l1, c1, e1, g⟩ := gSlice_elim g
  obtain ⟨a5, l5, c5, e5, g⟩ := gSlice_elim g
  obtain ⟨x6, e6, g⟩ := gInt_elim g
  exact g
theorem B16.ok (R : Rt) (fr : Fr) (h : Hp) (g : L4.g (fun a0 l0 c0 a1 l1 c1 a5 l5 c5 x6 h => ∃ n, L4.t R n a0 l0 c0 a1 l1 c1 a5 l5 c5 x6 h) fr h) : den prog E (cAt C [true, true, false, true]) (Ex.then (D2.g R) (retQ E [.tmp 4] R)) fr h :=
  den_block (by kernel_rfl) (L4.ok R fr h g)
def D3.t (R : Rt) (a0 : Option Addr) (l0 : Nat) (c0 : Nat) (a1 : Option Addr) (l1 : Nat) (c1 : Nat) (a5 : Option Addr) (l5 : Nat) (c5 : Nat) (h : Hp) : Prop :=
  (∃ n, L4.t R n a0 l0 c0 a1 l1 c1 a5 l5 c5 0 h)
def D3.g (R : Rt) (fr : Fr) (h : Hp) : Prop := gSlice (fr 0) fun a0 l0 c0 => gSlice (fr 1) fun a1 l1 c1 => gSlice (fr 5) fun a5 l5 c5 => D3.t R a0 l0 c0 a1 l1 c1 a5 l5 c5 h
theorem D3.ok (R : Rt) (fr : Fr) (h : Hp) (g : D3.g R fr h) : den prog E (cAt C [true, true, false]) (Ex.then (D2.g R) (retQ E [.tmp 4] R)) fr h := by
  obtain ⟨a0, l0, c0, e0, g⟩ := gSlice_elim g
  obtain ⟨a1, l1, c1, e1, g⟩ := gSlice_elim g
  obtain ⟨a5, l5, c5, e5, g⟩ := gSlice_elim g
  exact den_cut 1 (r := (cAt C [true, true, false, true])) (by kernel_rfl) (B16.ok R) (den_enter [(0, .slice a0 l0 c0), (1, .slice a1 l1 c1), (5, .slice a5 l5 c5)] ⟨e0, e1, e5, trivial⟩ (by kernel_rfl) g)
theorem W17.ok (R : Rt) (fr : Fr) (h : Hp) (g : D3.g R fr h) : den prog E (cAt C [true, true]) (retQ E [.tmp 4] R) fr h :=
  den_then (by kernel_rfl) (D2.ok R) (D3.ok R fr h g)
def D1.t (R : Rt) (a0 : Option Addr) (l0 : Nat) (c0 : Nat) (a1 : Option Addr) (l1 : Nat) (c1 : Nat) (h : Hp) : Prop :=
  letK (IntKind.i64.wrap ((((l0 : Nat) : Int)) + (((l1 : Nat) : Int)))) fun n1 =>
  mkK h 108 T108 n1 n1 fun q2 h3 =>
  D3.t R a0 l0 c0 a1 l1 c1 (some q2) n1.toNat n1.toNat h3
def D1.g (R : Rt) (fr : Fr) (h : Hp) : Prop := gSlice (fr 0) fun a0 l0 c0 => gSlice (fr 1) fun a1 l1 c1 => D1.t R a0 l0 c0 a1 l1 c1 h
theorem D1.ok (R : Rt) (fr : Fr) (h : Hp) (g : D1.g R fr h) : den prog E C (retQ E [.tmp 4] R) fr h := by
  obtain ⟨a0, l0, c0, e0, g⟩ := gSlice_elim g
  obtain ⟨a1, l1, c1, e1, g⟩ := gSlice_elim g
  exact den_cut 2 (r := (cAt C [true, true])) (by kernel_rfl) (W17.ok R) (den_enter [(0, .slice a0 l0 c0), (1, .slice a1 l1 c1)] ⟨e0, e1, trivial⟩ (by kernel_rfl) g)
def t (a0 : Option Addr) (l0 : Nat) (c0 : Nat) (a1 : Option Addr) (l1 : Nat) (c1 : Nat) (h : Hp) (R : Rt) : Prop := D1.t R a0 l0 c0 a1 l1 c1 h
theorem ok {a0 : Option Addr} {l0 : Nat} {c0 : Nat} {a1 : Option Addr} {l1 : Nat} {c1 : Nat} {h : Hp} {R : Rt} (g : t a0 l0 c0 a1 l1 c1 h R) : HC id #[.slice a0 l0 c0, .slice a1 l1 c1] h R :=
  calls_of_den' envOk (c := C) (rs := [.tmp 4]) Tryz.func112 (by kernel_rfl) (by kernel_rfl) (by kernel_rfl) (args := [.slice a0 l0 c0, .slice a1 l1 c1]) (by kernel_rfl) (D1.ok R _ h (gSlice_intro rfl (gSlice_intro rfl (g))))
end gnomonref01_Mul

namespace gnomonref04_Floor
noncomputable def C : Code := bodyOf Tryz.f113
def D2.t (R : Rt) (q3 : Addr) (q4 : Addr) (q5 : Addr) (a6 : Option Addr) (l6 : Nat) (c6 : Nat) (a7 : Option Addr) (l7 : Nat) (c7 : Nat) (h : Hp) : Prop :=
  HC gnomonref01_Word.id #[.int .u64 1] h fun v97 h98 =>
  gSlice v97 fun a_99 l_99 c_99 =>
  (Pre h.size h h98) ∧ HC gnomonref01_Add.id #[.slice a6 l6 c6, .slice a_99 l_99 c_99] h98 fun v100 h101 =>
  gSlice v100 fun a_102 l_102 c_102 =>
  (Pre h.size h98 h101) ∧ HC gnomonref04_Mk.id #[.bool true, .slice a_102 l_102 c_102] h101 fun v103 h104 =>
  gAgg v103 fun y105 =>
  uncons y105 fun v106 y106 =>
  gBool v106 fun b_107 =>
  uncons y106 fun v108 y108 =>
  gSlice v108 fun a_109 l_109 c_109 =>
  unnil y108 <| (Pre h.size h101 h104) ∧ (q3.add 1).block < h.size ∧ ldK h104 (q3.add 1) fun v110 =>
  gSlice v110 fun a_111 l_111 c_111 =>
  HC gnomonref01_Sub.id #[.slice a_111 l_111 c_111, .slice a7 l7 c7] h104 fun v112 h113 =>
  gSlice v112 fun a_114 l_114 c_114 =>
  (Pre h.size h104 h113) ∧ HC gnomonref04_Mk.id #[.bool false, .slice a_114 l_114 c_114] h113 fun v115 h116 =>
  gAgg v115 fun y117 =>
  uncons y117 fun v118 y118 =>
  gBool v118 fun b_119 =>
  uncons y118 fun v120 y120 =>
  gSlice v120 fun a_121 l_121 c_121 =>
  unnil y120 <| (Pre h.size h113 h116) ∧ stK h116 (q4.add 0) (.bool b_107) fun h122 =>
  stK h122 (q4.add 1) (.slice a_109 l_109 c_109) fun h123 =>
  stK h123 (q5.add 0) (.bool b_119) fun h124 =>
  stK h124 (q5.add 1) (.slice a_121 l_121 c_121) fun h125 =>
  ldK h125 (q4.add 0) fun v126 =>
  gBool v126 fun b_127 =>
  ldK h125 (q4.add 1) fun v128 =>
  gSlice v128 fun a_129 l_129 c_129 =>
  ldK h125 (q5.add 0) fun v130 =>
  gBool v130 fun b_131 =>
  ldK h125 (q5.add 1) fun v132 =>
  gSlice v132 fun a_133 l_133 c_133 =>
  R (.tuple #[.agg #[.bool b_127, .slice a_129 l_129 c_129], .agg #[.bool b_131, .slice a_133 l_133 c_133]]) h125
def D2.g (R : Rt) (fr : Fr) (h : Hp) : Prop := gPtrS (fr 3) fun q3 => gPtrS (fr 4) fun q4 => gPtrS (fr 5) fun q5 => gSlice (fr 6) fun a6 l6 c6 => gSlice (fr 7) fun a7 l7 c7 => D2.t R q3 q4 q5 a6 l6 c6 a7 l7 c7 h
theorem D2.ok (R : Rt) (fr : Fr) (h : Hp) (g : D2.g R fr h) : den prog E (cAt C [true, true, true, true]) (retQ E [.cell 4 67, .cell 5 67] R) fr h := by
  obtain ⟨q3, e3, g⟩ := gPtrS_elim g
  obtain ⟨q4, e4, g⟩ := gPtrS_elim g
  obtain ⟨q5, e5, g⟩ := gPtrS_elim g
  obtain ⟨a6, l6, c6, e6, g⟩ := gSlice_elim g
  obtain ⟨a7, l7, c7, e7, g⟩ := gSlice_elim g
  exact den_enter [(3, .pointer (some q3)), (4, .pointer (some q4)), (5, .pointer (some q5)), (6, .slice a6 l6 c6), (7, .slice a7 l7 c7)] ⟨e3, e4, e5, e6, e7, trivial⟩ (by kernel_rfl) g
def D1.t (R : Rt) (b0_0 : Bool) (a0_1 : Option Addr) (l0_1 : Nat) (c0_1 : Nat) (b1_0 : Bool) (a1_1 : Option Addr) (l1_1 : Nat) (c1_1 : Nat) (h : Hp) : Prop :=
  boxK h 67 [.bool b0_0, .slice a0_1 l0_1 c0_1] fun q1 h2 =>
  boxK h2 67 [.bool b1_0, .slice a1_1 l1_1 c1_1] fun q3 h4 =>
  boxK h4 67 T67.zs fun q5 h6 =>
  boxK h6 67 T67.zs fun q7 h8 =>
  ldK h8 (q3.add 0) fun v9 =>
  gBool v9 fun b_10 =>
  ldK h8 (q3.add 1) fun v11 =>
  gSlice v11 fun a_12 l_12 c_12 =>
  HC gnomonref04_Sign.id #[.agg #[.bool b_10, .slice a_12 l_12 c_12]] h8 fun v13 h14 =>
  gInt .i64 v13 fun x_15 =>
  cond (decide (x_15 ≤ 0)) (stK h14 (q5.add 0) (.bool false) fun h16 =>
  stK h16 (q5.add 1) (.slice none 0 0) fun h17 =>
  stK h17 (q7.add 0) (.bool false) fun h18 =>
  stK h18 (q7.add 1) (.slice none 0 0) fun h19 =>
  ldK h19 (q5.add 0) fun v20 =>
  gBool v20 fun b_21 =>
  ldK h19 (q5.add 1) fun v22 =>
  gSlice v22 fun a_23 l_23 c_23 =>
  ldK h19 (q7.add 0) fun v24 =>
  gBool v24 fun b_25 =>
  ldK h19 (q7.add 1) fun v26 =>
  gSlice v26 fun a_27 l_27 c_27 =>
  R (.tuple #[.agg #[.bool b_21, .slice a_23 l_23 c_23], .agg #[.bool b_25, .slice a_27 l_27 c_27]]) h19) (ldK h14 (q1.add 1) fun v28 =>
  gSlice v28 fun a_29 l_29 c_29 =>
  ldK h14 (q3.add 1) fun v30 =>
  gSlice v30 fun a_31 l_31 c_31 =>
  HC gnomonref01_DivMod.id #[.slice a_29 l_29 c_29, .slice a_31 l_31 c_31] h14 fun v32 h33 =>
  gTup v32 fun y34 =>
  uncons y34 fun v35 y35 =>
  gSlice v35 fun a_36 l_36 c_36 =>
  uncons y35 fun v37 y37 =>
  gSlice v37 fun a_38 l_38 c_38 =>
  unnil y37 <| ldK h33 (q1.add 0) fun v39 =>
  gBool v39 fun b_40 =>
  cond (!b_40) (ldK h33 (q1.add 0) fun v41 =>
  gBool v41 fun b_42 =>
  HC gnomonref04_Mk.id #[.bool b_42, .slice a_36 l_36 c_36] h33 fun v43 h44 =>
  gAgg v43 fun y45 =>
  uncons y45 fun v46 y46 =>
  gBool v46 fun b_47 =>
  uncons y46 fun v48 y48 =>
  gSlice v48 fun a_49 l_49 c_49 =>
  unnil y48 <| HC gnomonref04_Mk.id #[.bool false, .slice a_38 l_38 c_38] h44 fun v50 h51 =>
  gAgg v50 fun y52 =>
  uncons y52 fun v53 y53 =>
  gBool v53 fun b_54 =>
  uncons y53 fun v55 y55 =>
  gSlice v55 fun a_56 l_56 c_56 =>
  unnil y55 <| stK h51 (q5.add 0) (.bool b_47) fun h57 =>
  stK h57 (q5.add 1) (.slice a_49 l_49 c_49) fun h58 =>
  stK h58 (q7.add 0) (.bool b_54) fun h59 =>
  stK h59 (q7.add 1) (.slice a_56 l_56 c_56) fun h60 =>
  ldK h60 (q5.add 0) fun v61 =>
  gBool v61 fun b_62 =>
  ldK h60 (q5.add 1) fun v63 =>
  gSlice v63 fun a_64 l_64 c_64 =>
  ldK h60 (q7.add 0) fun v65 =>
  gBool v65 fun b_66 =>
  ldK h60 (q7.add 1) fun v67 =>
  gSlice v67 fun a_68 l_68 c_68 =>
  R (.tuple #[.agg #[.bool b_62, .slice a_64 l_64 c_64], .agg #[.bool b_66, .slice a_68 l_68 c_68]]) h60) (cond ((((l_38 : Nat) : Int)) == 0) (ldK h33 (q1.add 0) fun v69 =>
  gBool v69 fun b_70 =>
  HC gnomonref04_Mk.id #[.bool b_70, .slice a_36 l_36 c_36] h33 fun v71 h72 =>
  gAgg v71 fun y73 =>
  uncons y73 fun v74 y74 =>
  gBool v74 fun b_75 =>
  uncons y74 fun v76 y76 =>
  gSlice v76 fun a_77 l_77 c_77 =>
  unnil y76 <| HC gnomonref04_Mk.id #[.bool false, .slice a_38 l_38 c_38] h72 fun v78 h79 =>
  gAgg v78 fun y80 =>
  uncons y80 fun v81 y81 =>
  gBool v81 fun b_82 =>
  uncons y81 fun v83 y83 =>
  gSlice v83 fun a_84 l_84 c_84 =>
  unnil y83 <| stK h79 (q5.add 0) (.bool b_75) fun h85 =>
  stK h85 (q5.add 1) (.slice a_77 l_77 c_77) fun h86 =>
  stK h86 (q7.add 0) (.bool b_82) fun h87 =>
  stK h87 (q7.add 1) (.slice a_84 l_84 c_84) fun h88 =>
  ldK h88 (q5.add 0) fun v89 =>
  gBool v89 fun b_90 =>
  ldK h88 (q5.add 1) fun v91 =>
  gSlice v91 fun a_92 l_92 c_92 =>
  ldK h88 (q7.add 0) fun v93 =>
  gBool v93 fun b_94 =>
  ldK h88 (q7.add 1) fun v95 =>
  gSlice v95 fun a_96 l_96 c_96 =>
  R (.tuple #[.agg #[.bool b_90, .slice a_92 l_92 c_92], .agg #[.bool b_94, .slice a_96 l_96 c_96]]) h88) (D2.t R q3 q5 q7 a_36 l_36 c_36 a_38 l_38 c_38 h33)))
def D1.g (R : Rt) (fr : Fr) (h : Hp) : Prop := gAgg (fr 0) fun z0 => uncons z0 fun w0_0 z0_0 => gBool w0_0 fun b0_0 => uncons z0_0 fun w0_1 z0_1 => gSlice w0_1 fun a0_1 l0_1 c0_1 => unnil z0_1 <| gAgg (fr 1) fun z1 => uncons z1 fun w1_0 z1_0 => gBool w1_0 fun b1_0 => uncons z1_0 fun w1_1 z1_1 => gSlice w1_1 fun a1_1 l1_1 c1_1 => unnil z1_1 <| D1.t R b0_0 a0_1 l0_1 c0_1 b1_0 a1_1 l1_1 c1_1 h
theorem D1.ok (R : Rt) (fr : Fr) (h : Hp) (g : D1.g R fr h) : den prog E C (retQ E [.cell 4 67, .cell 5 67] R) fr h := by
  obtain ⟨z0, e0, g0_0⟩ := gAgg_elim' g
  obtain ⟨w0_0, z0_0, rfl, g0_0x⟩ := uncons_elim g0_0
  obtain ⟨b0_0, rfl, g0_1⟩ := gBool_elim g0_0x
  obtain ⟨w0_1, z0_1, rfl, g0_1x⟩ := uncons_elim g0_1
  obtain ⟨a0_1, l0_1, c0_1, rfl, g0_2⟩ := gSlice_elim g0_1x
  obtain ⟨rfl, g⟩ := unnil_elim g0_2
  obtain ⟨z1, e1, g1_0⟩ := gAgg_elim' g
  obtain ⟨w1_0, z1_0, rfl, g1_0x⟩ := uncons_elim g1_0
  obtain ⟨b1_0, rfl, g1_1⟩ := gBool_elim g1_0x
  obtain ⟨w1_1, z1_1, rfl, g1_1x⟩ := uncons_elim g1_1
  obtain ⟨a1_1, l1_1, c1_1, rfl, g1_2⟩ := gSlice_elim g1_1x
  obtain ⟨rfl, g⟩ := unnil_elim g1_2
  exact den_cut 4 (r := (cAt C [true, true, true, true])) (by kernel_rfl) (D2.ok R) (den_enter [(0, .agg #[.bool b0_0, .slice a0_1 l0_1 c0_1]), (1, .agg #[.bool b1_0, .slice a1_1 l1_1 c1_1])] ⟨e0, e1, trivial⟩ (by kernel_rfl) g)
def t (b0_0 : Bool) (a0_1 : Option Addr) (l0_1 : Nat) (c0_1 : Nat) (b1_0 : Bool) (a1_1 : Option Addr) (l1_1 : Nat) (c1_1 : Nat) (h : Hp) (R : Rt) : Prop := D1.t R b0_0 a0_1 l0_1 c0_1 b1_0 a1_1 l1_1 c1_1 h
theorem ok {b0_0 : Bool} {a0_1 : Option Addr} {l0_1 : Nat} {c0_1 : Nat} {b1_0 : Bool} {a1_1 : Option Addr} {l1_1 : Nat} {c1_1 : Nat} {h : Hp} {R : Rt} (g : t b0_0 a0_1 l0_1 c0_1 b1_0 a1_1 l1_1 c1_1 h R) : HC id #[.agg #[.bool b0_0, .slice a0_1 l0_1 c0_1], .agg #[.bool b1_0, .slice a1_1 l1_1 c1_1]] h R :=
  calls_of_den' envOk (c := C) (rs := [.cell 4 67, .cell 5 67]) Tryz.func113 (by kernel_rfl) (by kernel_rfl) (by kernel_rfl) (args := [.agg #[.bool b0_0, .slice a0_1 l0_1 c0_1], .agg #[.bool b1_0, .slice a1_1 l1_1 c1_1]]) (by kernel_rfl) (D1.ok R _ h (gAgg_intro rfl (uncons_intro (gBool_intro rfl (uncons_intro (gSlice_intro rfl (unnil_intro (gAgg_intro rfl (uncons_intro (gBool_intro rfl (uncons_intro (gSlice_intro rfl (unnil_intro (g))))))))))))))
end gnomonref04_Floor

end Go.Proofs.YtanlcacaihdceaaGreatDoor.G
