/- Functions of the translation as predicates over heaps, and that their calls do so. Written by a program of this work. -/
import Derived.Test.YtnbpbojcjihboaaDoorEnv
namespace Go.Proofs.YtnbpbojcjihboaaDoor.G
open Go.Gv
set_option linter.unusedVariables false
set_option maxRecDepth 100000
namespace gnomonlaw01_NatForms
noncomputable def C : Code := bodyOf Tryd.f3
def D1.t (R : Rt) (a0 : Option Addr) (l0 : Nat) (c0 : Nat) (h : Hp) : Prop :=
  boxK h 27 [.int .u64 5, .int .u64 0] fun q1 h2 =>
  HC nat_Norm.id #[.slice (some q1) 2 2] h2 fun v3 h4 =>
  gTup v3 fun y5 =>
  uncons y5 fun v6 y6 =>
  gSlice v6 fun a_7 l_7 c_7 =>
  uncons y6 fun v8 y8 =>
  gInt .i64 v8 fun x_9 =>
  unnil y8 <| boxK h4 27 [.int .u64 5] fun q10 h11 =>
  HC gnomonlaw01_told.id #[.slice a_7 l_7 c_7, .int .i64 x_9, .slice (some q10) 1 1, .int .i64 0] h11 fun v12 h13 =>
  gBool v12 fun b_14 =>
  cond (!b_14) (R (.bool false) h13) (HC nat_Word.id #[.int .u64 7] h13 fun v15 h16 =>
  gSlice v15 fun a_17 l_17 c_17 =>
  boxK h16 27 [.int .u64 7] fun q18 h19 =>
  HQC gnomonref01_Same.id #[.slice a_17 l_17 c_17, .slice (some q18) 1 1] h19 fun v20 =>
  gBool v20 fun b_21 =>
  cond (!b_21) (R (.bool false) h19) (boxK h19 27 [.int .u64 0, .int .u64 1] fun q22 h23 =>
  HC nat_Form.id #[.slice (some q22) 2 2] h23 fun v24 h25 =>
  gBool v24 fun b_26 =>
  cond (!b_26) (R (.bool false) h25) (HC gnomonlaw01_all.id #[.slice a0 l0 c0, .int .i64 1, .int .i64 3] h25 fun v27 h28 =>
  gBool v27 fun b_29 =>
  R (.bool b_29) h28)))
def D1.g (R : Rt) (fr : Fr) (h : Hp) : Prop := gSlice (fr 0) fun a0 l0 c0 => D1.t R a0 l0 c0 h
theorem D1.ok (R : Rt) (fr : Fr) (h : Hp) (g : D1.g R fr h) : den prog E C (retQ E [.tmp 2] R) fr h := by
  obtain ⟨a0, l0, c0, e0, g⟩ := gSlice_elim g
  exact den_enter [(0, .slice a0 l0 c0)] ⟨e0, trivial⟩ (by kernel_rfl) g
def t (a0 : Option Addr) (l0 : Nat) (c0 : Nat) (h : Hp) (R : Rt) : Prop := D1.t R a0 l0 c0 h
theorem ok {a0 : Option Addr} {l0 : Nat} {c0 : Nat} {h : Hp} {R : Rt} (g : t a0 l0 c0 h R) : HC id #[.slice a0 l0 c0] h R :=
  calls_of_den' envOk (c := C) (rs := [.tmp 2]) Tryd.func3 (by kernel_rfl) (by kernel_rfl) (by kernel_rfl) (args := [.slice a0 l0 c0]) (by kernel_rfl) (D1.ok R _ h (gSlice_intro rfl (g)))
end gnomonlaw01_NatForms

namespace gnomonlaw01_NatAsks
noncomputable def C : Code := bodyOf Tryd.f4
def D1.t (R : Rt) (a0 : Option Addr) (l0 : Nat) (c0 : Nat) (h : Hp) : Prop :=
  boxK h 27 [.int .u64 0, .int .u64 6] fun q1 h2 =>
  HC nat_Bits.id #[.slice (some q1) 2 2] h2 fun v3 h4 =>
  gInt .i64 v3 fun x_5 =>
  cond (x_5 != 67) (R (.bool false) h4) (HC nat_Trail.id #[.slice (some q1) 2 2] h4 fun v6 h7 =>
  gInt .i64 v6 fun x_8 =>
  cond (x_8 != 65) (R (.bool false) h7) (HC nat_Bit.id #[.slice (some q1) 2 2, .int .i64 66] h7 fun v9 h10 =>
  gBool v9 fun b_11 =>
  cond (!b_11) (R (.bool false) h10) (boxK h10 27 [.int .u64 9] fun q12 h13 =>
  HC nat_Cmp.id #[.slice (some q1) 2 2, .slice (some q12) 1 1] h13 fun v14 h15 =>
  gInt .i64 v14 fun x_16 =>
  cond (x_16 != 1) (R (.bool false) h15) (HC gnomonlaw01_all.id #[.slice a0 l0 c0, .int .i64 4, .int .i64 7] h15 fun v17 h18 =>
  gBool v17 fun b_19 =>
  R (.bool b_19) h18))))
def D1.g (R : Rt) (fr : Fr) (h : Hp) : Prop := gSlice (fr 0) fun a0 l0 c0 => D1.t R a0 l0 c0 h
theorem D1.ok (R : Rt) (fr : Fr) (h : Hp) (g : D1.g R fr h) : den prog E C (retQ E [.tmp 2] R) fr h := by
  obtain ⟨a0, l0, c0, e0, g⟩ := gSlice_elim g
  exact den_enter [(0, .slice a0 l0 c0)] ⟨e0, trivial⟩ (by kernel_rfl) g
def t (a0 : Option Addr) (l0 : Nat) (c0 : Nat) (h : Hp) (R : Rt) : Prop := D1.t R a0 l0 c0 h
theorem ok {a0 : Option Addr} {l0 : Nat} {c0 : Nat} {h : Hp} {R : Rt} (g : t a0 l0 c0 h R) : HC id #[.slice a0 l0 c0] h R :=
  calls_of_den' envOk (c := C) (rs := [.tmp 2]) Tryd.func4 (by kernel_rfl) (by kernel_rfl) (by kernel_rfl) (args := [.slice a0 l0 c0]) (by kernel_rfl) (D1.ok R _ h (gSlice_intro rfl (g)))
end gnomonlaw01_NatAsks

namespace gnomonlaw01_NatSums
noncomputable def C : Code := bodyOf Tryd.f5
def D1.t (R : Rt) (a0 : Option Addr) (l0 : Nat) (c0 : Nat) (h : Hp) : Prop :=
  HC gnomonlaw01_awake.id #[] h fun v1 h2 =>
  gBool v1 fun b_3 =>
  cond b_3 (HC gnomonlaw01_all.id #[.slice a0 l0 c0, .int .i64 8, .int .i64 9] h2 fun v4 h5 =>
  gBool v4 fun b_6 =>
  R (.bool b_6) h5) (R (.bool false) h2)
def D1.g (R : Rt) (fr : Fr) (h : Hp) : Prop := gSlice (fr 0) fun a0 l0 c0 => D1.t R a0 l0 c0 h
theorem D1.ok (R : Rt) (fr : Fr) (h : Hp) (g : D1.g R fr h) : den prog E C (retQ E [.tmp 2] R) fr h := by
  obtain ⟨a0, l0, c0, e0, g⟩ := gSlice_elim g
  exact den_enter [(0, .slice a0 l0 c0)] ⟨e0, trivial⟩ (by kernel_rfl) g
def t (a0 : Option Addr) (l0 : Nat) (c0 : Nat) (h : Hp) (R : Rt) : Prop := D1.t R a0 l0 c0 h
theorem ok {a0 : Option Addr} {l0 : Nat} {c0 : Nat} {h : Hp} {R : Rt} (g : t a0 l0 c0 h R) : HC id #[.slice a0 l0 c0] h R :=
  calls_of_den' envOk (c := C) (rs := [.tmp 2]) Tryd.func5 (by kernel_rfl) (by kernel_rfl) (by kernel_rfl) (args := [.slice a0 l0 c0]) (by kernel_rfl) (D1.ok R _ h (gSlice_intro rfl (g)))
end gnomonlaw01_NatSums

namespace gnomonlaw01_NatShifts
noncomputable def C : Code := bodyOf Tryd.f6
def D1.t (R : Rt) (a0 : Option Addr) (l0 : Nat) (c0 : Nat) (h : Hp) : Prop :=
  boxK h 27 [.int .u64 1] fun q1 h2 =>
  HC nat_Shl.id #[.slice (some q1) 1 1, .int .i64 65] h2 fun v3 h4 =>
  gTup v3 fun y5 =>
  uncons y5 fun v6 y6 =>
  gSlice v6 fun a_7 l_7 c_7 =>
  uncons y6 fun v8 y8 =>
  gInt .i64 v8 fun x_9 =>
  unnil y8 <| boxK h4 27 [.int .u64 0, .int .u64 6] fun q10 h11 =>
  HC nat_Shr.id #[.slice (some q10) 2 2, .int .i64 65] h11 fun v12 h13 =>
  gTup v12 fun y14 =>
  uncons y14 fun v15 y15 =>
  gSlice v15 fun a_16 l_16 c_16 =>
  uncons y15 fun v17 y17 =>
  gInt .i64 v17 fun x_18 =>
  unnil y17 <| boxK h13 27 [.int .u64 13] fun q19 h20 =>
  HC nat_Low.id #[.slice (some q19) 1 1, .int .i64 3] h20 fun v21 h22 =>
  gTup v21 fun y23 =>
  uncons y23 fun v24 y24 =>
  gSlice v24 fun a_25 l_25 c_25 =>
  uncons y24 fun v26 y26 =>
  gInt .i64 v26 fun x_27 =>
  unnil y26 <| boxK h22 27 [.int .u64 0, .int .u64 2] fun q28 h29 =>
  HC gnomonlaw01_told.id #[.slice a_7 l_7 c_7, .int .i64 x_9, .slice (some q28) 2 2, .int .i64 0] h29 fun v30 h31 =>
  gBool v30 fun b_32 =>
  cond (!b_32) (R (.bool false) h31) (boxK h31 27 [.int .u64 3] fun q33 h34 =>
  HC gnomonlaw01_told.id #[.slice a_16 l_16 c_16, .int .i64 x_18, .slice (some q33) 1 1, .int .i64 0] h34 fun v35 h36 =>
  gBool v35 fun b_37 =>
  cond (!b_37) (R (.bool false) h36) (boxK h36 27 [.int .u64 5] fun q38 h39 =>
  HC gnomonlaw01_told.id #[.slice a_25 l_25 c_25, .int .i64 x_27, .slice (some q38) 1 1, .int .i64 0] h39 fun v40 h41 =>
  gBool v40 fun b_42 =>
  cond (!b_42) (R (.bool false) h41) (HC gnomonlaw01_all.id #[.slice a0 l0 c0, .int .i64 10, .int .i64 12] h41 fun v43 h44 =>
  gBool v43 fun b_45 =>
  R (.bool b_45) h44)))
def D1.g (R : Rt) (fr : Fr) (h : Hp) : Prop := gSlice (fr 0) fun a0 l0 c0 => D1.t R a0 l0 c0 h
theorem D1.ok (R : Rt) (fr : Fr) (h : Hp) (g : D1.g R fr h) : den prog E C (retQ E [.tmp 2] R) fr h := by
  obtain ⟨a0, l0, c0, e0, g⟩ := gSlice_elim g
  exact den_enter [(0, .slice a0 l0 c0)] ⟨e0, trivial⟩ (by kernel_rfl) g
def t (a0 : Option Addr) (l0 : Nat) (c0 : Nat) (h : Hp) (R : Rt) : Prop := D1.t R a0 l0 c0 h
theorem ok {a0 : Option Addr} {l0 : Nat} {c0 : Nat} {h : Hp} {R : Rt} (g : t a0 l0 c0 h R) : HC id #[.slice a0 l0 c0] h R :=
  calls_of_den' envOk (c := C) (rs := [.tmp 2]) Tryd.func6 (by kernel_rfl) (by kernel_rfl) (by kernel_rfl) (args := [.slice a0 l0 c0]) (by kernel_rfl) (D1.ok R _ h (gSlice_intro rfl (g)))
end gnomonlaw01_NatShifts

namespace gnomonlaw01_NatWords
noncomputable def C : Code := bodyOf Tryd.f7
def D1.t (R : Rt) (a0 : Option Addr) (l0 : Nat) (c0 : Nat) (h : Hp) : Prop :=
  boxK h 27 [.int .u64 18446744073709551615] fun q1 h2 =>
  HC nat_MulWord.id #[.slice (some q1) 1 1, .int .u64 18446744073709551615] h2 fun v3 h4 =>
  gTup v3 fun y5 =>
  uncons y5 fun v6 y6 =>
  gSlice v6 fun a_7 l_7 c_7 =>
  uncons y6 fun v8 y8 =>
  gInt .i64 v8 fun x_9 =>
  unnil y8 <| boxK h4 27 [.int .u64 0, .int .u64 1] fun q10 h11 =>
  HC nat_DivWord.id #[.slice (some q10) 2 2, .int .u64 10] h11 fun v12 h13 =>
  gTup v12 fun y14 =>
  uncons y14 fun v15 y15 =>
  gSlice v15 fun a_16 l_16 c_16 =>
  uncons y15 fun v17 y17 =>
  gInt .u64 v17 fun x_18 =>
  uncons y17 fun v19 y19 =>
  gInt .i64 v19 fun x_20 =>
  unnil y19 <| boxK h13 27 [.int .u64 1, .int .u64 18446744073709551614] fun q21 h22 =>
  HC gnomonlaw01_told.id #[.slice a_7 l_7 c_7, .int .i64 x_9, .slice (some q21) 2 2, .int .i64 0] h22 fun v23 h24 =>
  gBool v23 fun b_25 =>
  cond (!b_25) (R (.bool false) h24) (boxK h24 27 [.int .u64 1844674407370955161] fun q26 h27 =>
  HC gnomonlaw01_told.id #[.slice a_16 l_16 c_16, .int .i64 x_20, .slice (some q26) 1 1, .int .i64 0] h27 fun v28 h29 =>
  gBool v28 fun b_30 =>
  cond (!b_30) (R (.bool false) h29) (cond (x_18 != 6) (R (.bool false) h29) (HC gnomonlaw01_all.id #[.slice a0 l0 c0, .int .i64 13, .int .i64 14] h29 fun v31 h32 =>
  gBool v31 fun b_33 =>
  R (.bool b_33) h32)))
def D1.g (R : Rt) (fr : Fr) (h : Hp) : Prop := gSlice (fr 0) fun a0 l0 c0 => D1.t R a0 l0 c0 h
theorem D1.ok (R : Rt) (fr : Fr) (h : Hp) (g : D1.g R fr h) : den prog E C (retQ E [.tmp 2] R) fr h := by
  obtain ⟨a0, l0, c0, e0, g⟩ := gSlice_elim g
  exact den_enter [(0, .slice a0 l0 c0)] ⟨e0, trivial⟩ (by kernel_rfl) g
def t (a0 : Option Addr) (l0 : Nat) (c0 : Nat) (h : Hp) (R : Rt) : Prop := D1.t R a0 l0 c0 h
theorem ok {a0 : Option Addr} {l0 : Nat} {c0 : Nat} {h : Hp} {R : Rt} (g : t a0 l0 c0 h R) : HC id #[.slice a0 l0 c0] h R :=
  calls_of_den' envOk (c := C) (rs := [.tmp 2]) Tryd.func7 (by kernel_rfl) (by kernel_rfl) (by kernel_rfl) (args := [.slice a0 l0 c0]) (by kernel_rfl) (D1.ok R _ h (gSlice_intro rfl (g)))
end gnomonlaw01_NatWords

namespace gnomonlaw01_NatKeeps
noncomputable def C : Code := bodyOf Tryd.f8
def D3.t (R : Rt)  (h : Hp) : Prop :=
  R (.bool true) h
def D3.g (R : Rt) (fr : Fr) (h : Hp) : Prop := D3.t R  h
theorem D3.ok (R : Rt) (fr : Fr) (h : Hp) (g : D3.g R fr h) : den prog E (cAt C [true, true, true, true, true]) (retQ E [.tmp 2] R) fr h := by
  exact den_enter [] trivial (by kernel_rfl) g
def L5.g (N : Addr → Option Addr → Nat → Nat → Int → Int → Hp → Prop) (fr : Fr) (h : Hp) : Prop := gPtrS (fr 4) fun q4 => gSlice (fr 22) fun a22 l22 c22 => gInt .i64 (fr 23) fun x23 => gInt .i64 (fr 24) fun x24 => N q4 a22 l22 c22 x23 x24 h
def D6.t (R : Rt) (N5 : Addr → Option Addr → Nat → Nat → Int → Int → Hp → Prop) (q4 : Addr) (a22 : Option Addr) (l22 : Nat) (c22 : Nat) (x23 : Int) (x24 : Int) (h : Hp) : Prop :=
  cond (decide (x24 < x23)) (idxK a22 l22 x24 5 fun q49 =>
  ldK h (q49.add 0) fun v50 =>
  gInt .i64 v50 fun x_51 =>
  ldK h (q49.add 1) fun v52 =>
  gSlice v52 fun a_53 l_53 c_53 =>
  ldK h (q49.add 2) fun v54 =>
  gSlice v54 fun a_55 l_55 c_55 =>
  ldK h (q49.add 3) fun v56 =>
  gInt .i64 v56 fun x_57 =>
  ldK h (q49.add 4) fun v58 =>
  gInt .u64 v58 fun x_59 =>
  boxK h 43 T43.zs fun q60 h61 =>
  stK h61 (q60.add 0) (.int .i64 x_51) fun h62 =>
  stK h62 (q60.add 1) (.slice a_53 l_53 c_53) fun h63 =>
  stK h63 (q60.add 2) (.slice a_55 l_55 c_55) fun h64 =>
  stK h64 (q60.add 3) (.int .i64 x_57) fun h65 =>
  stK h65 (q60.add 4) (.int .u64 x_59) fun h66 =>
  ldK h66 (q60.add 0) fun v67 =>
  gInt .i64 v67 fun x_68 =>
  cond (decide (x_68 < 2)) (ldK h66 (q60.add 0) fun v69 =>
  gInt .i64 v69 fun x_70 =>
  ldK h66 (q60.add 1) fun v71 =>
  gSlice v71 fun a_72 l_72 c_72 =>
  ldK h66 (q60.add 2) fun v73 =>
  gSlice v73 fun a_74 l_74 c_74 =>
  ldK h66 (q60.add 3) fun v75 =>
  gInt .i64 v75 fun x_76 =>
  ldK h66 (q60.add 4) fun v77 =>
  gInt .u64 v77 fun x_78 =>
  HC gnomonlaw01_leaves.id #[.agg #[.int .i64 x_70, .slice a_72 l_72 c_72, .slice a_74 l_74 c_74, .int .i64 x_76, .int .u64 x_78]] h66 fun v79 h80 =>
  gBool v79 fun b_81 =>
  cond (!b_81) (R (.bool false) h80) (letK (IntKind.i64.wrap (x24 + 1)) fun n82 =>
  N5 q4 a22 l22 c22 x23 n82 h80)) (ldK h66 (q60.add 0) fun v83 =>
  gInt .i64 v83 fun x_84 =>
  cond (decide (x_84 > 14)) (ldK h66 (q60.add 0) fun v85 =>
  gInt .i64 v85 fun x_86 =>
  ldK h66 (q60.add 1) fun v87 =>
  gSlice v87 fun a_88 l_88 c_88 =>
  ldK h66 (q60.add 2) fun v89 =>
  gSlice v89 fun a_90 l_90 c_90 =>
  ldK h66 (q60.add 3) fun v91 =>
  gInt .i64 v91 fun x_92 =>
  ldK h66 (q60.add 4) fun v93 =>
  gInt .u64 v93 fun x_94 =>
  HC gnomonlaw01_leaves.id #[.agg #[.int .i64 x_86, .slice a_88 l_88 c_88, .slice a_90 l_90 c_90, .int .i64 x_92, .int .u64 x_94]] h66 fun v95 h96 =>
  gBool v95 fun b_97 =>
  cond (!b_97) (R (.bool false) h96) (letK (IntKind.i64.wrap (x24 + 1)) fun n98 =>
  N5 q4 a22 l22 c22 x23 n98 h96)) (ldK h66 (q60.add 0) fun v99 =>
  gInt .i64 v99 fun x_100 =>
  cond (decide (x_100 ≥ 4)) (ldK h66 (q60.add 0) fun v101 =>
  gInt .i64 v101 fun x_102 =>
  cond (decide (x_102 ≤ 7)) (ldK h66 (q60.add 0) fun v103 =>
  gInt .i64 v103 fun x_104 =>
  ldK h66 (q60.add 1) fun v105 =>
  gSlice v105 fun a_106 l_106 c_106 =>
  ldK h66 (q60.add 2) fun v107 =>
  gSlice v107 fun a_108 l_108 c_108 =>
  ldK h66 (q60.add 3) fun v109 =>
  gInt .i64 v109 fun x_110 =>
  ldK h66 (q60.add 4) fun v111 =>
  gInt .u64 v111 fun x_112 =>
  HC gnomonlaw01_leaves.id #[.agg #[.int .i64 x_104, .slice a_106 l_106 c_106, .slice a_108 l_108 c_108, .int .i64 x_110, .int .u64 x_112]] h66 fun v113 h114 =>
  gBool v113 fun b_115 =>
  cond (!b_115) (R (.bool false) h114) (letK (IntKind.i64.wrap (x24 + 1)) fun n116 =>
  N5 q4 a22 l22 c22 x23 n116 h114)) (ldK h66 (q4.add 0) fun v117 =>
  gInt .i64 v117 fun x_118 =>
  ldK h66 (q4.add 1) fun v119 =>
  gSlice v119 fun a_120 l_120 c_120 =>
  ldK h66 (q4.add 2) fun v121 =>
  gSlice v121 fun a_122 l_122 c_122 =>
  ldK h66 (q4.add 3) fun v123 =>
  gInt .i64 v123 fun x_124 =>
  ldK h66 (q4.add 4) fun v125 =>
  gInt .u64 v125 fun x_126 =>
  boxK h66 43 T43.zs fun q127 h128 =>
  stK h128 (q127.add 0) (.int .i64 x_118) fun h129 =>
  stK h129 (q127.add 1) (.slice a_120 l_120 c_120) fun h130 =>
  stK h130 (q127.add 2) (.slice a_122 l_122 c_122) fun h131 =>
  stK h131 (q127.add 3) (.int .i64 x_124) fun h132 =>
  stK h132 (q127.add 4) (.int .u64 x_126) fun h133 =>
  ldK h133 (q60.add 0) fun v134 =>
  gInt .i64 v134 fun x_135 =>
  stK h133 (q127.add 0) (.int .i64 x_135) fun h136 =>
  ldK h136 (q60.add 0) fun v137 =>
  gInt .i64 v137 fun x_138 =>
  ldK h136 (q60.add 1) fun v139 =>
  gSlice v139 fun a_140 l_140 c_140 =>
  ldK h136 (q60.add 2) fun v141 =>
  gSlice v141 fun a_142 l_142 c_142 =>
  ldK h136 (q60.add 3) fun v143 =>
  gInt .i64 v143 fun x_144 =>
  ldK h136 (q60.add 4) fun v145 =>
  gInt .u64 v145 fun x_146 =>
  ldK h136 (q4.add 0) fun v147 =>
  gInt .i64 v147 fun x_148 =>
  ldK h136 (q4.add 1) fun v149 =>
  gSlice v149 fun a_150 l_150 c_150 =>
  ldK h136 (q4.add 2) fun v151 =>
  gSlice v151 fun a_152 l_152 c_152 =>
  ldK h136 (q4.add 3) fun v153 =>
  gInt .i64 v153 fun x_154 =>
  ldK h136 (q4.add 4) fun v155 =>
  gInt .u64 v155 fun x_156 =>
  HC gnomonlaw01_keeps.id #[.agg #[.int .i64 x_138, .slice a_140 l_140 c_140, .slice a_142 l_142 c_142, .int .i64 x_144, .int .u64 x_146], .agg #[.int .i64 x_148, .slice a_150 l_150 c_150, .slice a_152 l_152 c_152, .int .i64 x_154, .int .u64 x_156]] h136 fun v157 h158 =>
  gBool v157 fun b_159 =>
  cond (!b_159) (R (.bool false) h158) (ldK h158 (q60.add 0) fun v160 =>
  gInt .i64 v160 fun x_161 =>
  ldK h158 (q60.add 1) fun v162 =>
  gSlice v162 fun a_163 l_163 c_163 =>
  ldK h158 (q60.add 2) fun v164 =>
  gSlice v164 fun a_165 l_165 c_165 =>
  ldK h158 (q60.add 3) fun v166 =>
  gInt .i64 v166 fun x_167 =>
  ldK h158 (q60.add 4) fun v168 =>
  gInt .u64 v168 fun x_169 =>
  ldK h158 (q127.add 0) fun v170 =>
  gInt .i64 v170 fun x_171 =>
  ldK h158 (q127.add 1) fun v172 =>
  gSlice v172 fun a_173 l_173 c_173 =>
  ldK h158 (q127.add 2) fun v174 =>
  gSlice v174 fun a_175 l_175 c_175 =>
  ldK h158 (q127.add 3) fun v176 =>
  gInt .i64 v176 fun x_177 =>
  ldK h158 (q127.add 4) fun v178 =>
  gInt .u64 v178 fun x_179 =>
  HC gnomonlaw01_keeps.id #[.agg #[.int .i64 x_161, .slice a_163 l_163 c_163, .slice a_165 l_165 c_165, .int .i64 x_167, .int .u64 x_169], .agg #[.int .i64 x_171, .slice a_173 l_173 c_173, .slice a_175 l_175 c_175, .int .i64 x_177, .int .u64 x_179]] h158 fun v180 h181 =>
  gBool v180 fun b_182 =>
  cond (!b_182) (R (.bool false) h181) (ldK h181 (q60.add 0) fun v183 =>
  gInt .i64 v183 fun x_184 =>
  ldK h181 (q60.add 1) fun v185 =>
  gSlice v185 fun a_186 l_186 c_186 =>
  ldK h181 (q60.add 2) fun v187 =>
  gSlice v187 fun a_188 l_188 c_188 =>
  ldK h181 (q60.add 3) fun v189 =>
  gInt .i64 v189 fun x_190 =>
  ldK h181 (q60.add 4) fun v191 =>
  gInt .u64 v191 fun x_192 =>
  stK h181 (q4.add 0) (.int .i64 x_184) fun h193 =>
  stK h193 (q4.add 1) (.slice a_186 l_186 c_186) fun h194 =>
  stK h194 (q4.add 2) (.slice a_188 l_188 c_188) fun h195 =>
  stK h195 (q4.add 3) (.int .i64 x_190) fun h196 =>
  stK h196 (q4.add 4) (.int .u64 x_192) fun h197 =>
  letK (IntKind.i64.wrap (x24 + 1)) fun n198 =>
  N5 q4 a22 l22 c22 x23 n198 h197)))) (ldK h66 (q4.add 0) fun v199 =>
  gInt .i64 v199 fun x_200 =>
  ldK h66 (q4.add 1) fun v201 =>
  gSlice v201 fun a_202 l_202 c_202 =>
  ldK h66 (q4.add 2) fun v203 =>
  gSlice v203 fun a_204 l_204 c_204 =>
  ldK h66 (q4.add 3) fun v205 =>
  gInt .i64 v205 fun x_206 =>
  ldK h66 (q4.add 4) fun v207 =>
  gInt .u64 v207 fun x_208 =>
  boxK h66 43 T43.zs fun q209 h210 =>
  stK h210 (q209.add 0) (.int .i64 x_200) fun h211 =>
  stK h211 (q209.add 1) (.slice a_202 l_202 c_202) fun h212 =>
  stK h212 (q209.add 2) (.slice a_204 l_204 c_204) fun h213 =>
  stK h213 (q209.add 3) (.int .i64 x_206) fun h214 =>
  stK h214 (q209.add 4) (.int .u64 x_208) fun h215 =>
  ldK h215 (q60.add 0) fun v216 =>
  gInt .i64 v216 fun x_217 =>
  stK h215 (q209.add 0) (.int .i64 x_217) fun h218 =>
  ldK h218 (q60.add 0) fun v219 =>
  gInt .i64 v219 fun x_220 =>
  ldK h218 (q60.add 1) fun v221 =>
  gSlice v221 fun a_222 l_222 c_222 =>
  ldK h218 (q60.add 2) fun v223 =>
  gSlice v223 fun a_224 l_224 c_224 =>
  ldK h218 (q60.add 3) fun v225 =>
  gInt .i64 v225 fun x_226 =>
  ldK h218 (q60.add 4) fun v227 =>
  gInt .u64 v227 fun x_228 =>
  ldK h218 (q4.add 0) fun v229 =>
  gInt .i64 v229 fun x_230 =>
  ldK h218 (q4.add 1) fun v231 =>
  gSlice v231 fun a_232 l_232 c_232 =>
  ldK h218 (q4.add 2) fun v233 =>
  gSlice v233 fun a_234 l_234 c_234 =>
  ldK h218 (q4.add 3) fun v235 =>
  gInt .i64 v235 fun x_236 =>
  ldK h218 (q4.add 4) fun v237 =>
  gInt .u64 v237 fun x_238 =>
  HC gnomonlaw01_keeps.id #[.agg #[.int .i64 x_220, .slice a_222 l_222 c_222, .slice a_224 l_224 c_224, .int .i64 x_226, .int .u64 x_228], .agg #[.int .i64 x_230, .slice a_232 l_232 c_232, .slice a_234 l_234 c_234, .int .i64 x_236, .int .u64 x_238]] h218 fun v239 h240 =>
  gBool v239 fun b_241 =>
  cond (!b_241) (R (.bool false) h240) (ldK h240 (q60.add 0) fun v242 =>
  gInt .i64 v242 fun x_243 =>
  ldK h240 (q60.add 1) fun v244 =>
  gSlice v244 fun a_245 l_245 c_245 =>
  ldK h240 (q60.add 2) fun v246 =>
  gSlice v246 fun a_247 l_247 c_247 =>
  ldK h240 (q60.add 3) fun v248 =>
  gInt .i64 v248 fun x_249 =>
  ldK h240 (q60.add 4) fun v250 =>
  gInt .u64 v250 fun x_251 =>
  ldK h240 (q209.add 0) fun v252 =>
  gInt .i64 v252 fun x_253 =>
  ldK h240 (q209.add 1) fun v254 =>
  gSlice v254 fun a_255 l_255 c_255 =>
  ldK h240 (q209.add 2) fun v256 =>
  gSlice v256 fun a_257 l_257 c_257 =>
  ldK h240 (q209.add 3) fun v258 =>
  gInt .i64 v258 fun x_259 =>
  ldK h240 (q209.add 4) fun v260 =>
  gInt .u64 v260 fun x_261 =>
  HC gnomonlaw01_keeps.id #[.agg #[.int .i64 x_243, .slice a_245 l_245 c_245, .slice a_247 l_247 c_247, .int .i64 x_249, .int .u64 x_251], .agg #[.int .i64 x_253, .slice a_255 l_255 c_255, .slice a_257 l_257 c_257, .int .i64 x_259, .int .u64 x_261]] h240 fun v262 h263 =>
  gBool v262 fun b_264 =>
  cond (!b_264) (R (.bool false) h263) (ldK h263 (q60.add 0) fun v265 =>
  gInt .i64 v265 fun x_266 =>
  ldK h263 (q60.add 1) fun v267 =>
  gSlice v267 fun a_268 l_268 c_268 =>
  ldK h263 (q60.add 2) fun v269 =>
  gSlice v269 fun a_270 l_270 c_270 =>
  ldK h263 (q60.add 3) fun v271 =>
  gInt .i64 v271 fun x_272 =>
  ldK h263 (q60.add 4) fun v273 =>
  gInt .u64 v273 fun x_274 =>
  stK h263 (q4.add 0) (.int .i64 x_266) fun h275 =>
  stK h275 (q4.add 1) (.slice a_268 l_268 c_268) fun h276 =>
  stK h276 (q4.add 2) (.slice a_270 l_270 c_270) fun h277 =>
  stK h277 (q4.add 3) (.int .i64 x_272) fun h278 =>
  stK h278 (q4.add 4) (.int .u64 x_274) fun h279 =>
  letK (IntKind.i64.wrap (x24 + 1)) fun n280 =>
  N5 q4 a22 l22 c22 x23 n280 h279)))))) (D3.t R h)
def D6.g (R : Rt) (N5 : Addr → Option Addr → Nat → Nat → Int → Int → Hp → Prop) (fr : Fr) (h : Hp) : Prop := gPtrS (fr 4) fun q4 => gSlice (fr 22) fun a22 l22 c22 => gInt .i64 (fr 23) fun x23 => gInt .i64 (fr 24) fun x24 => D6.t R N5 q4 a22 l22 c22 x23 x24 h
theorem D6.ok (R : Rt) (N5 : Addr → Option Addr → Nat → Nat → Int → Int → Hp → Prop) (fr : Fr) (h : Hp) (g : D6.g R N5 fr h) : den prog E (cAt C [true, true, true, true, false, true, false, false]) (Ex.then (L5.g N5) (Ex.inBlock 0 (Ex.then (D3.g R) (retQ E [.tmp 2] R)))) fr h := by
  obtain ⟨q4, e4, g⟩ := gPtrS_elim g
  obtain ⟨a22, l22, c22, e22, g⟩ := gSlice_elim g
  obtain ⟨x23, e23, g⟩ := gInt_elim g
  obtain ⟨x24, e24, g⟩ := gInt_elim g
  exact den_enter [(4, .pointer (some q4)), (22, .slice a22 l22 c22), (23, .int .i64 x23), (24, .int .i64 x24)] ⟨e4, e22, e23, e24, trivial⟩ (by kernel_rfl) g
def L5.t (R : Rt) : Nat → Addr → Option Addr → Nat → Nat → Int → Int → Hp → Prop
  | 0 => fun _ _ _ _ _ _ _ => False
  | n + 1 => fun q4 a22 l22 c22 x23 x24 h => D6.t R (L5.t R n) q4 a22 l22 c22 x23 x24 h
theorem L5.ok (R : Rt) (fr : Fr) (h : Hp) (g : L5.g (fun q4 a22 l22 c22 x23 x24 h => ∃ n, L5.t R n q4 a22 l22 c22 x23 x24 h) fr h) : den prog E (cAt C [true, true, true, true, false, true, false]) (Ex.inBlock 0 (Ex.then (D3.g R) (retQ E [.tmp 2] R))) fr h := by
  obtain ⟨q4, e4, g⟩ := gPtrS_elim g
  obtain ⟨a22, l22, c22, e22, g⟩ := gSlice_elim g
  obtain ⟨x23, e23, g⟩ := gInt_elim g
  obtain ⟨x24, e24, g⟩ := gInt_elim g
  obtain ⟨n, g⟩ := g
  refine loop_ok (fun n => L5.g (L5.t R n)) (b := (cAt C [true, true, true, true, false, true, false, false])) (by kernel_rfl) (fun fr h g => ?_) (fun n => D6.ok R (L5.t R n)) n fr h (gPtrS_intro e4 (gSlice_intro e22 (gInt_intro e23 (gInt_intro e24 (g)))))
  obtain ⟨q4, e4, g⟩ := gPtrS_elim g
  obtain ⟨a22, l22, c22, e22, g⟩ := gSlice_elim g
  obtain ⟨x23, e23, g⟩ := gInt_elim g
  obtain ⟨x24, e24, g⟩ := gInt_elim g
  exact g
theorem B7.ok (R : Rt) (fr : Fr) (h : Hp) (g : L5.g (fun q4 a22 l22 c22 x23 x24 h => ∃ n, L5.t R n q4 a22 l22 c22 x23 x24 h) fr h) : den prog E (cAt C [true, true, true, true, false, true]) (Ex.then (D3.g R) (retQ E [.tmp 2] R)) fr h :=
  den_block (by kernel_rfl) (L5.ok R fr h g)
def D4.t (R : Rt) (a0 : Option Addr) (l0 : Nat) (c0 : Nat) (q4 : Addr) (h : Hp) : Prop :=
  (∃ n, L5.t R n q4 a0 l0 c0 (((l0 : Nat) : Int)) 0 h)
def D4.g (R : Rt) (fr : Fr) (h : Hp) : Prop := gSlice (fr 0) fun a0 l0 c0 => gPtrS (fr 4) fun q4 => D4.t R a0 l0 c0 q4 h
theorem D4.ok (R : Rt) (fr : Fr) (h : Hp) (g : D4.g R fr h) : den prog E (cAt C [true, true, true, true, false]) (Ex.then (D3.g R) (retQ E [.tmp 2] R)) fr h := by
  obtain ⟨a0, l0, c0, e0, g⟩ := gSlice_elim g
  obtain ⟨q4, e4, g⟩ := gPtrS_elim g
  exact den_cut 1 (r := (cAt C [true, true, true, true, false, true])) (by kernel_rfl) (B7.ok R) (den_enter [(0, .slice a0 l0 c0), (4, .pointer (some q4))] ⟨e0, e4, trivial⟩ (by kernel_rfl) g)
theorem W8.ok (R : Rt) (fr : Fr) (h : Hp) (g : D4.g R fr h) : den prog E (cAt C [true, true, true, true]) (retQ E [.tmp 2] R) fr h :=
  den_then (by kernel_rfl) (D3.ok R) (D4.ok R fr h g)
def D2.t (R : Rt) (a0 : Option Addr) (l0 : Nat) (c0 : Nat) (q3 : Addr) (h : Hp) : Prop :=
  ldK h (q3.add 0) fun v32 =>
  gInt .i64 v32 fun x_33 =>
  ldK h (q3.add 1) fun v34 =>
  gSlice v34 fun a_35 l_35 c_35 =>
  ldK h (q3.add 2) fun v36 =>
  gSlice v36 fun a_37 l_37 c_37 =>
  ldK h (q3.add 3) fun v38 =>
  gInt .i64 v38 fun x_39 =>
  ldK h (q3.add 4) fun v40 =>
  gInt .u64 v40 fun x_41 =>
  boxK h 43 T43.zs fun q42 h43 =>
  stK h43 (q42.add 0) (.int .i64 x_33) fun h44 =>
  stK h44 (q42.add 1) (.slice a_35 l_35 c_35) fun h45 =>
  stK h45 (q42.add 2) (.slice a_37 l_37 c_37) fun h46 =>
  stK h46 (q42.add 3) (.int .i64 x_39) fun h47 =>
  stK h47 (q42.add 4) (.int .u64 x_41) fun h48 =>
  D4.t R a0 l0 c0 q42 h48
def D2.g (R : Rt) (fr : Fr) (h : Hp) : Prop := gSlice (fr 0) fun a0 l0 c0 => gPtrS (fr 3) fun q3 => D2.t R a0 l0 c0 q3 h
theorem D2.ok (R : Rt) (fr : Fr) (h : Hp) (g : D2.g R fr h) : den prog E (cAt C [true, true, true]) (retQ E [.tmp 2] R) fr h := by
  obtain ⟨a0, l0, c0, e0, g⟩ := gSlice_elim g
  obtain ⟨q3, e3, g⟩ := gPtrS_elim g
  exact den_cut 1 (r := (cAt C [true, true, true, true])) (by kernel_rfl) (W8.ok R) (den_enter [(0, .slice a0 l0 c0), (3, .pointer (some q3))] ⟨e0, e3, trivial⟩ (by kernel_rfl) g)
def D1.t (R : Rt) (a0 : Option Addr) (l0 : Nat) (c0 : Nat) (h : Hp) : Prop :=
  boxK h 27 [.int .u64 18446744073709551615, .int .u64 3] fun q1 h2 =>
  boxK h2 27 [.int .u64 1] fun q3 h4 =>
  boxK h4 43 T43.zs fun q5 h6 =>
  stK h6 (q5.add 0) (.int .i64 8) fun h7 =>
  stK h7 (q5.add 1) (.slice (some q1) 2 2) fun h8 =>
  stK h8 (q5.add 2) (.slice (some q3) 1 1) fun h9 =>
  stK h9 (q5.add 3) (.int .i64 0) fun h10 =>
  stK h10 (q5.add 4) (.int .u64 0) fun h11 =>
  HC gnomonlaw01_awake.id #[] h11 fun v12 h13 =>
  gBool v12 fun b_14 =>
  cond (!b_14) (R (.bool false) h13) (ldK h13 (q5.add 0) fun v15 =>
  gInt .i64 v15 fun x_16 =>
  ldK h13 (q5.add 1) fun v17 =>
  gSlice v17 fun a_18 l_18 c_18 =>
  ldK h13 (q5.add 2) fun v19 =>
  gSlice v19 fun a_20 l_20 c_20 =>
  ldK h13 (q5.add 3) fun v21 =>
  gInt .i64 v21 fun x_22 =>
  ldK h13 (q5.add 4) fun v23 =>
  gInt .u64 v23 fun x_24 =>
  boxK h13 27 [.int .u64 9, .int .u64 9] fun q25 h26 =>
  boxK h26 27 [.int .u64 4] fun q27 h28 =>
  HC gnomonlaw01_keeps.id #[.agg #[.int .i64 x_16, .slice a_18 l_18 c_18, .slice a_20 l_20 c_20, .int .i64 x_22, .int .u64 x_24], .agg #[.int .i64 9, .slice (some q25) 2 2, .slice (some q27) 1 1, .int .i64 0, .int .u64 0]] h28 fun v29 h30 =>
  gBool v29 fun b_31 =>
  cond (!b_31) (R (.bool false) h30) (D2.t R a0 l0 c0 q5 h30))
def D1.g (R : Rt) (fr : Fr) (h : Hp) : Prop := gSlice (fr 0) fun a0 l0 c0 => D1.t R a0 l0 c0 h
theorem D1.ok (R : Rt) (fr : Fr) (h : Hp) (g : D1.g R fr h) : den prog E C (retQ E [.tmp 2] R) fr h := by
  obtain ⟨a0, l0, c0, e0, g⟩ := gSlice_elim g
  exact den_cut 3 (r := (cAt C [true, true, true])) (by kernel_rfl) (D2.ok R) (den_enter [(0, .slice a0 l0 c0)] ⟨e0, trivial⟩ (by kernel_rfl) g)
def t (a0 : Option Addr) (l0 : Nat) (c0 : Nat) (h : Hp) (R : Rt) : Prop := D1.t R a0 l0 c0 h
theorem ok {a0 : Option Addr} {l0 : Nat} {c0 : Nat} {h : Hp} {R : Rt} (g : t a0 l0 c0 h R) : HC id #[.slice a0 l0 c0] h R :=
  calls_of_den' envOk (c := C) (rs := [.tmp 2]) Tryd.func8 (by kernel_rfl) (by kernel_rfl) (by kernel_rfl) (args := [.slice a0 l0 c0]) (by kernel_rfl) (D1.ok R _ h (gSlice_intro rfl (g)))
end gnomonlaw01_NatKeeps

namespace nat_Norm
noncomputable def C : Code := bodyOf Tryd.f9
def D1.t (R : Rt) (a0 : Option Addr) (l0 : Nat) (c0 : Nat) (h : Hp) : Prop :=
  HC nat_trim.id #[.slice a0 l0 c0] h fun v1 h2 =>
  gSlice v1 fun a_3 l_3 c_3 =>
  cond (decide ((((l_3 : Nat) : Int)) > 8192)) (R (.tuple #[.slice none 0 0, .int .i64 5]) h2) (mkK h2 27 T27 (((l_3 : Nat) : Int)) (((l_3 : Nat) : Int)) fun q4 h5 =>
  cpK h5 1 (some q4) ((((l_3 : Nat) : Int)).toNat) (.slice a_3 l_3 c_3) fun n6 h6 =>
  R (.tuple #[.slice (some q4) ((((l_3 : Nat) : Int)).toNat) ((((l_3 : Nat) : Int)).toNat), .int .i64 0]) h6)
def D1.g (R : Rt) (fr : Fr) (h : Hp) : Prop := gSlice (fr 0) fun a0 l0 c0 => D1.t R a0 l0 c0 h
theorem D1.ok (R : Rt) (fr : Fr) (h : Hp) (g : D1.g R fr h) : den prog E C (retQ E [.tmp 2, .tmp 3] R) fr h := by
  obtain ⟨a0, l0, c0, e0, g⟩ := gSlice_elim g
  exact den_enter [(0, .slice a0 l0 c0)] ⟨e0, trivial⟩ (by kernel_rfl) g
def t (a0 : Option Addr) (l0 : Nat) (c0 : Nat) (h : Hp) (R : Rt) : Prop := D1.t R a0 l0 c0 h
theorem ok {a0 : Option Addr} {l0 : Nat} {c0 : Nat} {h : Hp} {R : Rt} (g : t a0 l0 c0 h R) : HC id #[.slice a0 l0 c0] h R :=
  calls_of_den' envOk (c := C) (rs := [.tmp 2, .tmp 3]) Tryd.func9 (by kernel_rfl) (by kernel_rfl) (by kernel_rfl) (args := [.slice a0 l0 c0]) (by kernel_rfl) (D1.ok R _ h (gSlice_intro rfl (g)))
end nat_Norm

namespace gnomonlaw01_told
noncomputable def C : Code := bodyOf Tryd.f10
def D1.t (R : Rt) (a0 : Option Addr) (l0 : Nat) (c0 : Nat) (x1 : Int) (a2 : Option Addr) (l2 : Nat) (c2 : Nat) (x3 : Int) (h : Hp) : Prop :=
  HQC gnomonref01_Same.id #[.slice a0 l0 c0, .slice a2 l2 c2] h fun v1 =>
  gBool v1 fun b_2 =>
  cond b_2 (R (.bool (x1 == x3)) h) (R (.bool false) h)
def D1.g (R : Rt) (fr : Fr) (h : Hp) : Prop := gSlice (fr 0) fun a0 l0 c0 => gInt .i64 (fr 1) fun x1 => gSlice (fr 2) fun a2 l2 c2 => gInt .i64 (fr 3) fun x3 => D1.t R a0 l0 c0 x1 a2 l2 c2 x3 h
theorem D1.ok (R : Rt) (fr : Fr) (h : Hp) (g : D1.g R fr h) : den prog E C (retQ E [.tmp 8] R) fr h := by
  obtain ⟨a0, l0, c0, e0, g⟩ := gSlice_elim g
  obtain ⟨x1, e1, g⟩ := gInt_elim g
  obtain ⟨a2, l2, c2, e2, g⟩ := gSlice_elim g
  obtain ⟨x3, e3, g⟩ := gInt_elim g
  exact den_enter [(0, .slice a0 l0 c0), (1, .int .i64 x1), (2, .slice a2 l2 c2), (3, .int .i64 x3)] ⟨e0, e1, e2, e3, trivial⟩ (by kernel_rfl) g
def t (a0 : Option Addr) (l0 : Nat) (c0 : Nat) (x1 : Int) (a2 : Option Addr) (l2 : Nat) (c2 : Nat) (x3 : Int) (h : Hp) (R : Rt) : Prop := D1.t R a0 l0 c0 x1 a2 l2 c2 x3 h
theorem ok {a0 : Option Addr} {l0 : Nat} {c0 : Nat} {x1 : Int} {a2 : Option Addr} {l2 : Nat} {c2 : Nat} {x3 : Int} {h : Hp} {R : Rt} (g : t a0 l0 c0 x1 a2 l2 c2 x3 h R) : HC id #[.slice a0 l0 c0, .int .i64 x1, .slice a2 l2 c2, .int .i64 x3] h R :=
  calls_of_den' envOk (c := C) (rs := [.tmp 8]) Tryd.func10 (by kernel_rfl) (by kernel_rfl) (by kernel_rfl) (args := [.slice a0 l0 c0, .int .i64 x1, .slice a2 l2 c2, .int .i64 x3]) (by kernel_rfl) (D1.ok R _ h (gSlice_intro rfl (gInt_intro rfl (gSlice_intro rfl (gInt_intro rfl (g))))))
end gnomonlaw01_told

namespace gnomonref01_Same
noncomputable def C : Code := bodyOf Tryd.f11
def D2.t (R : Rt)  (h : Hp) : Prop :=
  R (.bool true) h
def D2.g (R : Rt) (fr : Fr) (h : Hp) : Prop := D2.t R  h
theorem D2.ok (R : Rt) (fr : Fr) (h : Hp) (g : D2.g R fr h) : den prog E (cAt C [true, true, true]) (retQ E [.tmp 4] R) fr h := by
  exact den_enter [] trivial (by kernel_rfl) g
def L4.g (N : Option Addr → Nat → Nat → Option Addr → Nat → Nat → Int → Hp → Prop) (fr : Fr) (h : Hp) : Prop := gSlice (fr 0) fun a0 l0 c0 => gSlice (fr 1) fun a1 l1 c1 => gInt .i64 (fr 5) fun x5 => N a0 l0 c0 a1 l1 c1 x5 h
def D5.t (R : Rt) (N4 : Option Addr → Nat → Nat → Option Addr → Nat → Nat → Int → Hp → Prop) (a0 : Option Addr) (l0 : Nat) (c0 : Nat) (a1 : Option Addr) (l1 : Nat) (c1 : Nat) (x5 : Int) (h : Hp) : Prop :=
  cond (decide (x5 < (((l0 : Nat) : Int)))) (idxK a0 l0 x5 1 fun q1 =>
  ldK h q1 fun v2 =>
  gInt .u64 v2 fun x_3 =>
  idxK a1 l1 x5 1 fun q4 =>
  ldK h q4 fun v5 =>
  gInt .u64 v5 fun x_6 =>
  cond (x_3 != x_6) (R (.bool false) h) (letK (IntKind.i64.wrap (x5 + 1)) fun n7 =>
  N4 a0 l0 c0 a1 l1 c1 n7 h)) (D2.t R h)
def D5.g (R : Rt) (N4 : Option Addr → Nat → Nat → Option Addr → Nat → Nat → Int → Hp → Prop) (fr : Fr) (h : Hp) : Prop := gSlice (fr 0) fun a0 l0 c0 => gSlice (fr 1) fun a1 l1 c1 => gInt .i64 (fr 5) fun x5 => D5.t R N4 a0 l0 c0 a1 l1 c1 x5 h
theorem D5.ok (R : Rt) (N4 : Option Addr → Nat → Nat → Option Addr → Nat → Nat → Int → Hp → Prop) (fr : Fr) (h : Hp) (g : D5.g R N4 fr h) : den prog E (cAt C [true, true, false, true, false, false]) (Ex.then (L4.g N4) (Ex.inBlock 0 (Ex.then (D2.g R) (retQ E [.tmp 4] R)))) fr h := by
  obtain ⟨a0, l0, c0, e0, g⟩ := gSlice_elim g
  obtain ⟨a1, l1, c1, e1, g⟩ := gSlice_elim g
  obtain ⟨x5, e5, g⟩ := gInt_elim g
  exact den_enter [(0, .slice a0 l0 c0), (1, .slice a1 l1 c1), (5, .int .i64 x5)] ⟨e0, e1, e5, trivial⟩ (by kernel_rfl) g
def L4.t (R : Rt) : Nat → Option Addr → Nat → Nat → Option Addr → Nat → Nat → Int → Hp → Prop
  | 0 => fun _ _ _ _ _ _ _ _ => False
  | n + 1 => fun a0 l0 c0 a1 l1 c1 x5 h => D5.t R (L4.t R n) a0 l0 c0 a1 l1 c1 x5 h
theorem L4.ok (R : Rt) (fr : Fr) (h : Hp) (g : L4.g (fun a0 l0 c0 a1 l1 c1 x5 h => ∃ n, L4.t R n a0 l0 c0 a1 l1 c1 x5 h) fr h) : den prog E (cAt C [true, true, false, true, false]) (Ex.inBlock 0 (Ex.then (D2.g R) (retQ E [.tmp 4] R))) fr h := by
  obtain ⟨a0, l0, c0, e0, g⟩ := gSlice_elim g
  obtain ⟨a1, l1, c1, e1, g⟩ := gSlice_elim g
  obtain ⟨x5, e5, g⟩ := gInt_elim g
  obtain ⟨n, g⟩ := g
  refine loop_ok (fun n => L4.g (L4.t R n)) (b := (cAt C [true, true, false, true, false, false])) (by kernel_rfl) (fun fr h g => ?_) (fun n => D5.ok R (L4.t R n)) n fr h (gSlice_intro e0 (gSlice_intro e1 (gInt_intro e5 (g))))
  obtain ⟨a0, l0, c0, e0, g⟩ := gSlice_elim g
  obtain ⟨a1, l1, c1, e1, g⟩ := gSlice_elim g
  obtain ⟨x5, e5, g⟩ := gInt_elim g
  exact g
theorem B6.ok (R : Rt) (fr : Fr) (h : Hp) (g : L4.g (fun a0 l0 c0 a1 l1 c1 x5 h => ∃ n, L4.t R n a0 l0 c0 a1 l1 c1 x5 h) fr h) : den prog E (cAt C [true, true, false, true]) (Ex.then (D2.g R) (retQ E [.tmp 4] R)) fr h :=
  den_block (by kernel_rfl) (L4.ok R fr h g)
def D3.t (R : Rt) (a0 : Option Addr) (l0 : Nat) (c0 : Nat) (a1 : Option Addr) (l1 : Nat) (c1 : Nat) (h : Hp) : Prop :=
  (∃ n, L4.t R n a0 l0 c0 a1 l1 c1 0 h)
def D3.g (R : Rt) (fr : Fr) (h : Hp) : Prop := gSlice (fr 0) fun a0 l0 c0 => gSlice (fr 1) fun a1 l1 c1 => D3.t R a0 l0 c0 a1 l1 c1 h
theorem D3.ok (R : Rt) (fr : Fr) (h : Hp) (g : D3.g R fr h) : den prog E (cAt C [true, true, false]) (Ex.then (D2.g R) (retQ E [.tmp 4] R)) fr h := by
  obtain ⟨a0, l0, c0, e0, g⟩ := gSlice_elim g
  obtain ⟨a1, l1, c1, e1, g⟩ := gSlice_elim g
  exact den_cut 1 (r := (cAt C [true, true, false, true])) (by kernel_rfl) (B6.ok R) (den_enter [(0, .slice a0 l0 c0), (1, .slice a1 l1 c1)] ⟨e0, e1, trivial⟩ (by kernel_rfl) g)
theorem W7.ok (R : Rt) (fr : Fr) (h : Hp) (g : D3.g R fr h) : den prog E (cAt C [true, true]) (retQ E [.tmp 4] R) fr h :=
  den_then (by kernel_rfl) (D2.ok R) (D3.ok R fr h g)
def D1.t (R : Rt) (a0 : Option Addr) (l0 : Nat) (c0 : Nat) (a1 : Option Addr) (l1 : Nat) (c1 : Nat) (h : Hp) : Prop :=
  cond ((((l0 : Nat) : Int)) != (((l1 : Nat) : Int))) (R (.bool false) h) (D3.t R a0 l0 c0 a1 l1 c1 h)
def D1.g (R : Rt) (fr : Fr) (h : Hp) : Prop := gSlice (fr 0) fun a0 l0 c0 => gSlice (fr 1) fun a1 l1 c1 => D1.t R a0 l0 c0 a1 l1 c1 h
theorem D1.ok (R : Rt) (fr : Fr) (h : Hp) (g : D1.g R fr h) : den prog E C (retQ E [.tmp 4] R) fr h := by
  obtain ⟨a0, l0, c0, e0, g⟩ := gSlice_elim g
  obtain ⟨a1, l1, c1, e1, g⟩ := gSlice_elim g
  exact den_cut 2 (r := (cAt C [true, true])) (by kernel_rfl) (W7.ok R) (den_enter [(0, .slice a0 l0 c0), (1, .slice a1 l1 c1)] ⟨e0, e1, trivial⟩ (by kernel_rfl) g)
def t (a0 : Option Addr) (l0 : Nat) (c0 : Nat) (a1 : Option Addr) (l1 : Nat) (c1 : Nat) (h : Hp) (R : Rt) : Prop := D1.t R a0 l0 c0 a1 l1 c1 h
theorem ok {a0 : Option Addr} {l0 : Nat} {c0 : Nat} {a1 : Option Addr} {l1 : Nat} {c1 : Nat} {h : Hp} {R : Rt} (g : t a0 l0 c0 a1 l1 c1 h R) : HC id #[.slice a0 l0 c0, .slice a1 l1 c1] h R :=
  calls_of_den' envOk (c := C) (rs := [.tmp 4]) Tryd.func11 (by kernel_rfl) (by kernel_rfl) (by kernel_rfl) (args := [.slice a0 l0 c0, .slice a1 l1 c1]) (by kernel_rfl) (D1.ok R _ h (gSlice_intro rfl (gSlice_intro rfl (g))))
end gnomonref01_Same

namespace nat_Word
noncomputable def C : Code := bodyOf Tryd.f12
def D1.t (R : Rt) (x0 : Int) (h : Hp) : Prop :=
  cond (x0 == 0) (R (.slice none 0 0) h) (boxK h 27 [.int .u64 x0] fun q1 h2 => R (.slice (some q1) 1 1) h2)
def D1.g (R : Rt) (fr : Fr) (h : Hp) : Prop := gInt .u64 (fr 0) fun x0 => D1.t R x0 h
theorem D1.ok (R : Rt) (fr : Fr) (h : Hp) (g : D1.g R fr h) : den prog E C (retQ E [.tmp 2] R) fr h := by
  obtain ⟨x0, e0, g⟩ := gInt_elim g
  exact den_enter [(0, .int .u64 x0)] ⟨e0, trivial⟩ (by kernel_rfl) g
def t (x0 : Int) (h : Hp) (R : Rt) : Prop := D1.t R x0 h
theorem ok {x0 : Int} {h : Hp} {R : Rt} (g : t x0 h R) : HC id #[.int .u64 x0] h R :=
  calls_of_den' envOk (c := C) (rs := [.tmp 2]) Tryd.func12 (by kernel_rfl) (by kernel_rfl) (by kernel_rfl) (args := [.int .u64 x0]) (by kernel_rfl) (D1.ok R _ h (gInt_intro rfl (g)))
end nat_Word

namespace nat_Form
noncomputable def C : Code := bodyOf Tryd.f13
def D1.t (R : Rt) (a0 : Option Addr) (l0 : Nat) (c0 : Nat) (h : Hp) : Prop :=
  cond (decide ((((l0 : Nat) : Int)) ≤ 8192)) (cond ((((l0 : Nat) : Int)) == 0) (R (.bool true) h) (letK (IntKind.i64.wrap ((((l0 : Nat) : Int)) - 1)) fun n1 =>
  idxK a0 l0 n1 1 fun q2 =>
  ldK h q2 fun v3 =>
  gInt .u64 v3 fun x_4 =>
  R (.bool (x_4 != 0)) h)) (R (.bool false) h)
def D1.g (R : Rt) (fr : Fr) (h : Hp) : Prop := gSlice (fr 0) fun a0 l0 c0 => D1.t R a0 l0 c0 h
theorem D1.ok (R : Rt) (fr : Fr) (h : Hp) (g : D1.g R fr h) : den prog E C (retQ E [.tmp 2] R) fr h := by
  obtain ⟨a0, l0, c0, e0, g⟩ := gSlice_elim g
  exact den_enter [(0, .slice a0 l0 c0)] ⟨e0, trivial⟩ (by kernel_rfl) g
def t (a0 : Option Addr) (l0 : Nat) (c0 : Nat) (h : Hp) (R : Rt) : Prop := D1.t R a0 l0 c0 h
theorem ok {a0 : Option Addr} {l0 : Nat} {c0 : Nat} {h : Hp} {R : Rt} (g : t a0 l0 c0 h R) : HC id #[.slice a0 l0 c0] h R :=
  calls_of_den' envOk (c := C) (rs := [.tmp 2]) Tryd.func13 (by kernel_rfl) (by kernel_rfl) (by kernel_rfl) (args := [.slice a0 l0 c0]) (by kernel_rfl) (D1.ok R _ h (gSlice_intro rfl (g)))
end nat_Form

namespace gnomonlaw01_all
noncomputable def C : Code := bodyOf Tryd.f14
def D2.t (R : Rt)  (h : Hp) : Prop :=
  R (.bool true) h
def D2.g (R : Rt) (fr : Fr) (h : Hp) : Prop := D2.t R  h
theorem D2.ok (R : Rt) (fr : Fr) (h : Hp) (g : D2.g R fr h) : den prog E (cAt C [true, true]) (retQ E [.tmp 6] R) fr h := by
  exact den_enter [] trivial (by kernel_rfl) g
def L4.g (N : Int → Int → Option Addr → Nat → Nat → Int → Int → Hp → Prop) (fr : Fr) (h : Hp) : Prop := gInt .i64 (fr 1) fun x1 => gInt .i64 (fr 2) fun x2 => gSlice (fr 9) fun a9 l9 c9 => gInt .i64 (fr 10) fun x10 => gInt .i64 (fr 11) fun x11 => N x1 x2 a9 l9 c9 x10 x11 h
def D5.t (R : Rt) (N4 : Int → Int → Option Addr → Nat → Nat → Int → Int → Hp → Prop) (x1 : Int) (x2 : Int) (a9 : Option Addr) (l9 : Nat) (c9 : Nat) (x10 : Int) (x11 : Int) (h : Hp) : Prop :=
  cond (decide (x11 < x10)) (idxK a9 l9 x11 5 fun q1 =>
  ldK h (q1.add 0) fun v2 =>
  gInt .i64 v2 fun x_3 =>
  ldK h (q1.add 1) fun v4 =>
  gSlice v4 fun a_5 l_5 c_5 =>
  ldK h (q1.add 2) fun v6 =>
  gSlice v6 fun a_7 l_7 c_7 =>
  ldK h (q1.add 3) fun v8 =>
  gInt .i64 v8 fun x_9 =>
  ldK h (q1.add 4) fun v10 =>
  gInt .u64 v10 fun x_11 =>
  boxK h 43 T43.zs fun q12 h13 =>
  stK h13 (q12.add 0) (.int .i64 x_3) fun h14 =>
  stK h14 (q12.add 1) (.slice a_5 l_5 c_5) fun h15 =>
  stK h15 (q12.add 2) (.slice a_7 l_7 c_7) fun h16 =>
  stK h16 (q12.add 3) (.int .i64 x_9) fun h17 =>
  stK h17 (q12.add 4) (.int .u64 x_11) fun h18 =>
  ldK h18 (q12.add 0) fun v19 =>
  gInt .i64 v19 fun x_20 =>
  cond (decide (x_20 ≥ x1)) (ldK h18 (q12.add 0) fun v21 =>
  gInt .i64 v21 fun x_22 =>
  cond (decide (x_22 ≤ x2)) (ldK h18 (q12.add 0) fun v23 =>
  gInt .i64 v23 fun x_24 =>
  ldK h18 (q12.add 1) fun v25 =>
  gSlice v25 fun a_26 l_26 c_26 =>
  ldK h18 (q12.add 2) fun v27 =>
  gSlice v27 fun a_28 l_28 c_28 =>
  ldK h18 (q12.add 3) fun v29 =>
  gInt .i64 v29 fun x_30 =>
  ldK h18 (q12.add 4) fun v31 =>
  gInt .u64 v31 fun x_32 =>
  HC gnomonlaw01_plays.id #[.agg #[.int .i64 x_24, .slice a_26 l_26 c_26, .slice a_28 l_28 c_28, .int .i64 x_30, .int .u64 x_32]] h18 fun v33 h34 =>
  gBool v33 fun b_35 =>
  cond (!b_35) (R (.bool false) h34) (letK (IntKind.i64.wrap (x11 + 1)) fun n36 =>
  N4 x1 x2 a9 l9 c9 x10 n36 h34)) (letK (IntKind.i64.wrap (x11 + 1)) fun n37 =>
  N4 x1 x2 a9 l9 c9 x10 n37 h18)) (letK (IntKind.i64.wrap (x11 + 1)) fun n38 =>
  N4 x1 x2 a9 l9 c9 x10 n38 h18)) (D2.t R h)
def D5.g (R : Rt) (N4 : Int → Int → Option Addr → Nat → Nat → Int → Int → Hp → Prop) (fr : Fr) (h : Hp) : Prop := gInt .i64 (fr 1) fun x1 => gInt .i64 (fr 2) fun x2 => gSlice (fr 9) fun a9 l9 c9 => gInt .i64 (fr 10) fun x10 => gInt .i64 (fr 11) fun x11 => D5.t R N4 x1 x2 a9 l9 c9 x10 x11 h
theorem D5.ok (R : Rt) (N4 : Int → Int → Option Addr → Nat → Nat → Int → Int → Hp → Prop) (fr : Fr) (h : Hp) (g : D5.g R N4 fr h) : den prog E (cAt C [true, false, true, false, false]) (Ex.then (L4.g N4) (Ex.inBlock 0 (Ex.then (D2.g R) (retQ E [.tmp 6] R)))) fr h := by
  obtain ⟨x1, e1, g⟩ := gInt_elim g
  obtain ⟨x2, e2, g⟩ := gInt_elim g
  obtain ⟨a9, l9, c9, e9, g⟩ := gSlice_elim g
  obtain ⟨x10, e10, g⟩ := gInt_elim g
  obtain ⟨x11, e11, g⟩ := gInt_elim g
  exact den_enter [(1, .int .i64 x1), (2, .int .i64 x2), (9, .slice a9 l9 c9), (10, .int .i64 x10), (11, .int .i64 x11)] ⟨e1, e2, e9, e10, e11, trivial⟩ (by kernel_rfl) g
def L4.t (R : Rt) : Nat → Int → Int → Option Addr → Nat → Nat → Int → Int → Hp → Prop
  | 0 => fun _ _ _ _ _ _ _ _ => False
  | n + 1 => fun x1 x2 a9 l9 c9 x10 x11 h => D5.t R (L4.t R n) x1 x2 a9 l9 c9 x10 x11 h
theorem L4.ok (R : Rt) (fr : Fr) (h : Hp) (g : L4.g (fun x1 x2 a9 l9 c9 x10 x11 h => ∃ n, L4.t R n x1 x2 a9 l9 c9 x10 x11 h) fr h) : den prog E (cAt C [true, false, true, false]) (Ex.inBlock 0 (Ex.then (D2.g R) (retQ E [.tmp 6] R))) fr h := by
  obtain ⟨x1, e1, g⟩ := gInt_elim g
  obtain ⟨x2, e2, g⟩ := gInt_elim g
  obtain ⟨a9, l9, c9, e9, g⟩ := gSlice_elim g
  obtain ⟨x10, e10, g⟩ := gInt_elim g
  obtain ⟨x11, e11, g⟩ := gInt_elim g
  obtain ⟨n, g⟩ := g
  refine loop_ok (fun n => L4.g (L4.t R n)) (b := (cAt C [true, false, true, false, false])) (by kernel_rfl) (fun fr h g => ?_) (fun n => D5.ok R (L4.t R n)) n fr h (gInt_intro e1 (gInt_intro e2 (gSlice_intro e9 (gInt_intro e10 (gInt_intro e11 (g))))))
  obtain ⟨x1, e1, g⟩ := gInt_elim g
  obtain ⟨x2, e2, g⟩ := gInt_elim g
  obtain ⟨a9, l9, c9, e9, g⟩ := gSlice_elim g
  obtain ⟨x10, e10, g⟩ := gInt_elim g
  obtain ⟨x11, e11, g⟩ := gInt_elim g
  exact g
theorem B6.ok (R : Rt) (fr : Fr) (h : Hp) (g : L4.g (fun x1 x2 a9 l9 c9 x10 x11 h => ∃ n, L4.t R n x1 x2 a9 l9 c9 x10 x11 h) fr h) : den prog E (cAt C [true, false, true]) (Ex.then (D2.g R) (retQ E [.tmp 6] R)) fr h :=
  den_block (by kernel_rfl) (L4.ok R fr h g)
def D3.t (R : Rt) (a0 : Option Addr) (l0 : Nat) (c0 : Nat) (x1 : Int) (x2 : Int) (h : Hp) : Prop :=
  (∃ n, L4.t R n x1 x2 a0 l0 c0 (((l0 : Nat) : Int)) 0 h)
def D3.g (R : Rt) (fr : Fr) (h : Hp) : Prop := gSlice (fr 0) fun a0 l0 c0 => gInt .i64 (fr 1) fun x1 => gInt .i64 (fr 2) fun x2 => D3.t R a0 l0 c0 x1 x2 h
theorem D3.ok (R : Rt) (fr : Fr) (h : Hp) (g : D3.g R fr h) : den prog E (cAt C [true, false]) (Ex.then (D2.g R) (retQ E [.tmp 6] R)) fr h := by
  obtain ⟨a0, l0, c0, e0, g⟩ := gSlice_elim g
  obtain ⟨x1, e1, g⟩ := gInt_elim g
  obtain ⟨x2, e2, g⟩ := gInt_elim g
  exact den_cut 1 (r := (cAt C [true, false, true])) (by kernel_rfl) (B6.ok R) (den_enter [(0, .slice a0 l0 c0), (1, .int .i64 x1), (2, .int .i64 x2)] ⟨e0, e1, e2, trivial⟩ (by kernel_rfl) g)
theorem W7.ok (R : Rt) (fr : Fr) (h : Hp) (g : D3.g R fr h) : den prog E (cAt C [true]) (retQ E [.tmp 6] R) fr h :=
  den_then (by kernel_rfl) (D2.ok R) (D3.ok R fr h g)
def D1.t (R : Rt) (a0 : Option Addr) (l0 : Nat) (c0 : Nat) (x1 : Int) (x2 : Int) (h : Hp) : Prop :=
  D3.t R a0 l0 c0 x1 x2 h
def D1.g (R : Rt) (fr : Fr) (h : Hp) : Prop := gSlice (fr 0) fun a0 l0 c0 => gInt .i64 (fr 1) fun x1 => gInt .i64 (fr 2) fun x2 => D1.t R a0 l0 c0 x1 x2 h
theorem D1.ok (R : Rt) (fr : Fr) (h : Hp) (g : D1.g R fr h) : den prog E C (retQ E [.tmp 6] R) fr h := by
  obtain ⟨a0, l0, c0, e0, g⟩ := gSlice_elim g
  obtain ⟨x1, e1, g⟩ := gInt_elim g
  obtain ⟨x2, e2, g⟩ := gInt_elim g
  exact den_cut 1 (r := (cAt C [true])) (by kernel_rfl) (W7.ok R) (den_enter [(0, .slice a0 l0 c0), (1, .int .i64 x1), (2, .int .i64 x2)] ⟨e0, e1, e2, trivial⟩ (by kernel_rfl) g)
def t (a0 : Option Addr) (l0 : Nat) (c0 : Nat) (x1 : Int) (x2 : Int) (h : Hp) (R : Rt) : Prop := D1.t R a0 l0 c0 x1 x2 h
theorem ok {a0 : Option Addr} {l0 : Nat} {c0 : Nat} {x1 : Int} {x2 : Int} {h : Hp} {R : Rt} (g : t a0 l0 c0 x1 x2 h R) : HC id #[.slice a0 l0 c0, .int .i64 x1, .int .i64 x2] h R :=
  calls_of_den' envOk (c := C) (rs := [.tmp 6]) Tryd.func14 (by kernel_rfl) (by kernel_rfl) (by kernel_rfl) (args := [.slice a0 l0 c0, .int .i64 x1, .int .i64 x2]) (by kernel_rfl) (D1.ok R _ h (gSlice_intro rfl (gInt_intro rfl (gInt_intro rfl (g)))))
end gnomonlaw01_all

namespace nat_Bits
noncomputable def C : Code := bodyOf Tryd.f15
def D1.t (R : Rt) (a0 : Option Addr) (l0 : Nat) (c0 : Nat) (h : Hp) : Prop :=
  HC nat_trim.id #[.slice a0 l0 c0] h fun v1 h2 =>
  gSlice v1 fun a_3 l_3 c_3 =>
  cond ((((l_3 : Nat) : Int)) == 0) (R (.int .i64 0) h2) (letK (IntKind.i64.wrap ((((l_3 : Nat) : Int)) - 1)) fun n4 =>
  letK (IntKind.i64.wrap (64 * n4)) fun n5 =>
  letK (IntKind.i64.wrap ((((l_3 : Nat) : Int)) - 1)) fun n6 =>
  idxK a_3 l_3 n6 1 fun q7 =>
  ldK h2 q7 fun v8 =>
  gInt .u64 v8 fun x_9 =>
  HC bits_Len64.id #[.int .u64 x_9] h2 fun v10 h11 =>
  gInt .i64 v10 fun x_12 =>
  letK (IntKind.i64.wrap (n5 + x_12)) fun n13 =>
  R (.int .i64 n13) h11)
def D1.g (R : Rt) (fr : Fr) (h : Hp) : Prop := gSlice (fr 0) fun a0 l0 c0 => D1.t R a0 l0 c0 h
theorem D1.ok (R : Rt) (fr : Fr) (h : Hp) (g : D1.g R fr h) : den prog E C (retQ E [.tmp 2] R) fr h := by
  obtain ⟨a0, l0, c0, e0, g⟩ := gSlice_elim g
  exact den_enter [(0, .slice a0 l0 c0)] ⟨e0, trivial⟩ (by kernel_rfl) g
def t (a0 : Option Addr) (l0 : Nat) (c0 : Nat) (h : Hp) (R : Rt) : Prop := D1.t R a0 l0 c0 h
theorem ok {a0 : Option Addr} {l0 : Nat} {c0 : Nat} {h : Hp} {R : Rt} (g : t a0 l0 c0 h R) : HC id #[.slice a0 l0 c0] h R :=
  calls_of_den' envOk (c := C) (rs := [.tmp 2]) Tryd.func15 (by kernel_rfl) (by kernel_rfl) (by kernel_rfl) (args := [.slice a0 l0 c0]) (by kernel_rfl) (D1.ok R _ h (gSlice_intro rfl (g)))
end nat_Bits

namespace nat_Trail
noncomputable def C : Code := bodyOf Tryd.f16
def D2.t (R : Rt)  (h : Hp) : Prop :=
  R (.int .i64 0) h
def D2.g (R : Rt) (fr : Fr) (h : Hp) : Prop := D2.t R  h
theorem D2.ok (R : Rt) (fr : Fr) (h : Hp) (g : D2.g R fr h) : den prog E (cAt C [true, true]) (retQ E [.tmp 2] R) fr h := by
  exact den_enter [] trivial (by kernel_rfl) g
def L4.g (N : Option Addr → Nat → Nat → Int → Int → Hp → Prop) (fr : Fr) (h : Hp) : Prop := gSlice (fr 0) fun a0 l0 c0 => gInt .i64 (fr 5) fun x5 => gInt .i64 (fr 6) fun x6 => N a0 l0 c0 x5 x6 h
def D5.t (R : Rt) (N4 : Option Addr → Nat → Nat → Int → Int → Hp → Prop) (a0 : Option Addr) (l0 : Nat) (c0 : Nat) (x5 : Int) (x6 : Int) (h : Hp) : Prop :=
  cond (decide (x6 < x5)) (idxK a0 l0 x6 1 fun q1 =>
  ldK h q1 fun v2 =>
  gInt .u64 v2 fun x_3 =>
  cond (x_3 != 0) (letK (IntKind.i64.wrap (64 * x6)) fun n4 =>
  idxK a0 l0 x6 1 fun q5 =>
  ldK h q5 fun v6 =>
  gInt .u64 v6 fun x_7 =>
  HC bits_TrailingZeros64.id #[.int .u64 x_7] h fun v8 h9 =>
  gInt .i64 v8 fun x_10 =>
  letK (IntKind.i64.wrap (n4 + x_10)) fun n11 =>
  R (.int .i64 n11) h9) (letK (IntKind.i64.wrap (x6 + 1)) fun n12 =>
  N4 a0 l0 c0 x5 n12 h)) (D2.t R h)
def D5.g (R : Rt) (N4 : Option Addr → Nat → Nat → Int → Int → Hp → Prop) (fr : Fr) (h : Hp) : Prop := gSlice (fr 0) fun a0 l0 c0 => gInt .i64 (fr 5) fun x5 => gInt .i64 (fr 6) fun x6 => D5.t R N4 a0 l0 c0 x5 x6 h
theorem D5.ok (R : Rt) (N4 : Option Addr → Nat → Nat → Int → Int → Hp → Prop) (fr : Fr) (h : Hp) (g : D5.g R N4 fr h) : den prog E (cAt C [true, false, true, false, false]) (Ex.then (L4.g N4) (Ex.inBlock 0 (Ex.then (D2.g R) (retQ E [.tmp 2] R)))) fr h := by
  obtain ⟨a0, l0, c0, e0, g⟩ := gSlice_elim g
  obtain ⟨x5, e5, g⟩ := gInt_elim g
  obtain ⟨x6, e6, g⟩ := gInt_elim g
  exact den_enter [(0, .slice a0 l0 c0), (5, .int .i64 x5), (6, .int .i64 x6)] ⟨e0, e5, e6, trivial⟩ (by kernel_rfl) g
def L4.t (R : Rt) : Nat → Option Addr → Nat → Nat → Int → Int → Hp → Prop
  | 0 => fun _ _ _ _ _ _ => False
  | n + 1 => fun a0 l0 c0 x5 x6 h => D5.t R (L4.t R n) a0 l0 c0 x5 x6 h
theorem L4.ok (R : Rt) (fr : Fr) (h : Hp) (g : L4.g (fun a0 l0 c0 x5 x6 h => ∃ n, L4.t R n a0 l0 c0 x5 x6 h) fr h) : den prog E (cAt C [true, false, true, false]) (Ex.inBlock 0 (Ex.then (D2.g R) (retQ E [.tmp 2] R))) fr h := by
  obtain ⟨a0, l0, c0, e0, g⟩ := gSlice_elim g
  obtain ⟨x5, e5, g⟩ := gInt_elim g
  obtain ⟨x6, e6, g⟩ := gInt_elim g
  obtain ⟨n, g⟩ := g
  refine loop_ok (fun n => L4.g (L4.t R n)) (b := (cAt C [true, false, true, false, false])) (by kernel_rfl) (fun fr h g => ?_) (fun n => D5.ok R (L4.t R n)) n fr h (gSlice_intro e0 (gInt_intro e5 (gInt_intro e6 (g))))
  obtain ⟨a0, l0, c0, e0, g⟩ := gSlice_elim g
  obtain ⟨x5, e5, g⟩ := gInt_elim g
  obtain ⟨x6, e6, g⟩ := gInt_elim g
  exact g
theorem B6.ok (R : Rt) (fr : Fr) (h : Hp) (g : L4.g (fun a0 l0 c0 x5 x6 h => ∃ n, L4.t R n a0 l0 c0 x5 x6 h) fr h) : den prog E (cAt C [true, false, true]) (Ex.then (D2.g R) (retQ E [.tmp 2] R)) fr h :=
  den_block (by kernel_rfl) (L4.ok R fr h g)
def D3.t (R : Rt) (a0 : Option Addr) (l0 : Nat) (c0 : Nat) (h : Hp) : Prop :=
  (∃ n, L4.t R n a0 l0 c0 (((l0 : Nat) : Int)) 0 h)
def D3.g (R : Rt) (fr : Fr) (h : Hp) : Prop := gSlice (fr 0) fun a0 l0 c0 => D3.t R a0 l0 c0 h
theorem D3.ok (R : Rt) (fr : Fr) (h : Hp) (g : D3.g R fr h) : den prog E (cAt C [true, false]) (Ex.then (D2.g R) (retQ E [.tmp 2] R)) fr h := by
  obtain ⟨a0, l0, c0, e0, g⟩ := gSlice_elim g
  exact den_cut 1 (r := (cAt C [true, false, true])) (by kernel_rfl) (B6.ok R) (den_enter [(0, .slice a0 l0 c0)] ⟨e0, trivial⟩ (by kernel_rfl) g)
theorem W7.ok (R : Rt) (fr : Fr) (h : Hp) (g : D3.g R fr h) : den prog E (cAt C [true]) (retQ E [.tmp 2] R) fr h :=
  den_then (by kernel_rfl) (D2.ok R) (D3.ok R fr h g)
def D1.t (R : Rt) (a0 : Option Addr) (l0 : Nat) (c0 : Nat) (h : Hp) : Prop :=
  D3.t R a0 l0 c0 h
def D1.g (R : Rt) (fr : Fr) (h : Hp) : Prop := gSlice (fr 0) fun a0 l0 c0 => D1.t R a0 l0 c0 h
theorem D1.ok (R : Rt) (fr : Fr) (h : Hp) (g : D1.g R fr h) : den prog E C (retQ E [.tmp 2] R) fr h := by
  obtain ⟨a0, l0, c0, e0, g⟩ := gSlice_elim g
  exact den_cut 1 (r := (cAt C [true])) (by kernel_rfl) (W7.ok R) (den_enter [(0, .slice a0 l0 c0)] ⟨e0, trivial⟩ (by kernel_rfl) g)
def t (a0 : Option Addr) (l0 : Nat) (c0 : Nat) (h : Hp) (R : Rt) : Prop := D1.t R a0 l0 c0 h
theorem ok {a0 : Option Addr} {l0 : Nat} {c0 : Nat} {h : Hp} {R : Rt} (g : t a0 l0 c0 h R) : HC id #[.slice a0 l0 c0] h R :=
  calls_of_den' envOk (c := C) (rs := [.tmp 2]) Tryd.func16 (by kernel_rfl) (by kernel_rfl) (by kernel_rfl) (args := [.slice a0 l0 c0]) (by kernel_rfl) (D1.ok R _ h (gSlice_intro rfl (g)))
end nat_Trail

namespace nat_Bit
noncomputable def C : Code := bodyOf Tryd.f17
def D2.t (R : Rt) (a0 : Option Addr) (l0 : Nat) (c0 : Nat) (x1 : Int) (h : Hp) : Prop :=
  (64 : Int) ≠ 0 ∧ letK (IntKind.i64.wrap (Int.tdiv x1 64)) fun n2 =>
  idxK a0 l0 n2 1 fun q3 =>
  ldK h q3 fun v4 =>
  gInt .u64 v4 fun x_5 =>
  (64 : Int) ≠ 0 ∧ letK (Int.tmod x1 64) fun n6 =>
  0 ≤ n6 ∧ letK (shrI .u64 x_5 n6) fun n7 =>
  letK (andI .u64 n7 1) fun n8 =>
  R (.bool (n8 == 1)) h
def D2.g (R : Rt) (fr : Fr) (h : Hp) : Prop := gSlice (fr 0) fun a0 l0 c0 => gInt .i64 (fr 1) fun x1 => D2.t R a0 l0 c0 x1 h
theorem D2.ok (R : Rt) (fr : Fr) (h : Hp) (g : D2.g R fr h) : den prog E (cAt C [true, true]) (retQ E [.tmp 4] R) fr h := by
  obtain ⟨a0, l0, c0, e0, g⟩ := gSlice_elim g
  obtain ⟨x1, e1, g⟩ := gInt_elim g
  exact den_enter [(0, .slice a0 l0 c0), (1, .int .i64 x1)] ⟨e0, e1, trivial⟩ (by kernel_rfl) g
def D1.t (R : Rt) (a0 : Option Addr) (l0 : Nat) (c0 : Nat) (x1 : Int) (h : Hp) : Prop :=
  cond (decide (x1 < 0)) (R (.bool false) h) ((64 : Int) ≠ 0 ∧ letK (IntKind.i64.wrap (Int.tdiv x1 64)) fun n1 =>
  cond (decide (n1 ≥ (((l0 : Nat) : Int)))) (R (.bool false) h) (D2.t R a0 l0 c0 x1 h))
def D1.g (R : Rt) (fr : Fr) (h : Hp) : Prop := gSlice (fr 0) fun a0 l0 c0 => gInt .i64 (fr 1) fun x1 => D1.t R a0 l0 c0 x1 h
theorem D1.ok (R : Rt) (fr : Fr) (h : Hp) (g : D1.g R fr h) : den prog E C (retQ E [.tmp 4] R) fr h := by
  obtain ⟨a0, l0, c0, e0, g⟩ := gSlice_elim g
  obtain ⟨x1, e1, g⟩ := gInt_elim g
  exact den_cut 2 (r := (cAt C [true, true])) (by kernel_rfl) (D2.ok R) (den_enter [(0, .slice a0 l0 c0), (1, .int .i64 x1)] ⟨e0, e1, trivial⟩ (by kernel_rfl) g)
def t (a0 : Option Addr) (l0 : Nat) (c0 : Nat) (x1 : Int) (h : Hp) (R : Rt) : Prop := D1.t R a0 l0 c0 x1 h
theorem ok {a0 : Option Addr} {l0 : Nat} {c0 : Nat} {x1 : Int} {h : Hp} {R : Rt} (g : t a0 l0 c0 x1 h R) : HC id #[.slice a0 l0 c0, .int .i64 x1] h R :=
  calls_of_den' envOk (c := C) (rs := [.tmp 4]) Tryd.func17 (by kernel_rfl) (by kernel_rfl) (by kernel_rfl) (args := [.slice a0 l0 c0, .int .i64 x1]) (by kernel_rfl) (D1.ok R _ h (gSlice_intro rfl (gInt_intro rfl (g))))
end nat_Bit

namespace nat_Cmp
noncomputable def C : Code := bodyOf Tryd.f18
def D2.t (R : Rt)  (h : Hp) : Prop :=
  R (.int .i64 0) h
def D2.g (R : Rt) (fr : Fr) (h : Hp) : Prop := D2.t R  h
theorem D2.ok (R : Rt) (fr : Fr) (h : Hp) (g : D2.g R fr h) : den prog E (cAt C [true, true, true, true]) (retQ E [.tmp 4] R) fr h := by
  exact den_enter [] trivial (by kernel_rfl) g
def L4.g (N : Option Addr → Nat → Nat → Option Addr → Nat → Nat → Int → Hp → Prop) (fr : Fr) (h : Hp) : Prop := gSlice (fr 5) fun a5 l5 c5 => gSlice (fr 6) fun a6 l6 c6 => gInt .i64 (fr 7) fun x7 => N a5 l5 c5 a6 l6 c6 x7 h
def D5.t (R : Rt) (N4 : Option Addr → Nat → Nat → Option Addr → Nat → Nat → Int → Hp → Prop) (a5 : Option Addr) (l5 : Nat) (c5 : Nat) (a6 : Option Addr) (l6 : Nat) (c6 : Nat) (x7 : Int) (h : Hp) : Prop :=
  cond (decide (x7 ≥ 0)) (idxK a5 l5 x7 1 fun q8 =>
  ldK h q8 fun v9 =>
  gInt .u64 v9 fun x_10 =>
  idxK a6 l6 x7 1 fun q11 =>
  ldK h q11 fun v12 =>
  gInt .u64 v12 fun x_13 =>
  cond (x_10 != x_13) (idxK a5 l5 x7 1 fun q14 =>
  ldK h q14 fun v15 =>
  gInt .u64 v15 fun x_16 =>
  idxK a6 l6 x7 1 fun q17 =>
  ldK h q17 fun v18 =>
  gInt .u64 v18 fun x_19 =>
  cond (decide (x_16 < x_19)) (R (.int .i64 (-1)) h) (R (.int .i64 1) h)) (letK (IntKind.i64.wrap (x7 - 1)) fun n20 =>
  N4 a5 l5 c5 a6 l6 c6 n20 h)) (D2.t R h)
def D5.g (R : Rt) (N4 : Option Addr → Nat → Nat → Option Addr → Nat → Nat → Int → Hp → Prop) (fr : Fr) (h : Hp) : Prop := gSlice (fr 5) fun a5 l5 c5 => gSlice (fr 6) fun a6 l6 c6 => gInt .i64 (fr 7) fun x7 => D5.t R N4 a5 l5 c5 a6 l6 c6 x7 h
theorem D5.ok (R : Rt) (N4 : Option Addr → Nat → Nat → Option Addr → Nat → Nat → Int → Hp → Prop) (fr : Fr) (h : Hp) (g : D5.g R N4 fr h) : den prog E (cAt C [true, true, true, false, true, false, false]) (Ex.then (L4.g N4) (Ex.inBlock 0 (Ex.then (D2.g R) (retQ E [.tmp 4] R)))) fr h := by
  obtain ⟨a5, l5, c5, e5, g⟩ := gSlice_elim g
  obtain ⟨a6, l6, c6, e6, g⟩ := gSlice_elim g
  obtain ⟨x7, e7, g⟩ := gInt_elim g
  exact den_enter [(5, .slice a5 l5 c5), (6, .slice a6 l6 c6), (7, .int .i64 x7)] ⟨e5, e6, e7, trivial⟩ (by kernel_rfl) g
def L4.t (R : Rt) : Nat → Option Addr → Nat → Nat → Option Addr → Nat → Nat → Int → Hp → Prop
  | 0 => fun _ _ _ _ _ _ _ _ => False
  | n + 1 => fun a5 l5 c5 a6 l6 c6 x7 h => D5.t R (L4.t R n) a5 l5 c5 a6 l6 c6 x7 h
theorem L4.ok (R : Rt) (fr : Fr) (h : Hp) (g : L4.g (fun a5 l5 c5 a6 l6 c6 x7 h => ∃ n, L4.t R n a5 l5 c5 a6 l6 c6 x7 h) fr h) : den prog E (cAt C [true, true, true, false, true, false]) (Ex.inBlock 0 (Ex.then (D2.g R) (retQ E [.tmp 4] R))) fr h := by
  obtain ⟨a5, l5, c5, e5, g⟩ := gSlice_elim g
  obtain ⟨a6, l6, c6, e6, g⟩ := gSlice_elim g
  obtain ⟨x7, e7, g⟩ := gInt_elim g
  obtain ⟨n, g⟩ := g
  refine loop_ok (fun n => L4.g (L4.t R n)) (b := (cAt C [true, true, true, false, true, false, false])) (by kernel_rfl) (fun fr h g => ?_) (fun n => D5.ok R (L4.t R n)) n fr h (gSlice_intro e5 (gSlice_intro e6 (gInt_intro e7 (g))))
  obtain ⟨a5, l5, c5, e5, g⟩ := gSlice_elim g
  obtain ⟨a6, l6, c6, e6, g⟩ := gSlice_elim g
  obtain ⟨x7, e7, g⟩ := gInt_elim g
  exact g
theorem B6.ok (R : Rt) (fr : Fr) (h : Hp) (g : L4.g (fun a5 l5 c5 a6 l6 c6 x7 h => ∃ n, L4.t R n a5 l5 c5 a6 l6 c6 x7 h) fr h) : den prog E (cAt C [true, true, true, false, true]) (Ex.then (D2.g R) (retQ E [.tmp 4] R)) fr h :=
  den_block (by kernel_rfl) (L4.ok R fr h g)
def D3.t (R : Rt) (a5 : Option Addr) (l5 : Nat) (c5 : Nat) (a6 : Option Addr) (l6 : Nat) (c6 : Nat) (h : Hp) : Prop :=
  letK (IntKind.i64.wrap ((((l5 : Nat) : Int)) - 1)) fun n7 => (∃ n, L4.t R n a5 l5 c5 a6 l6 c6 n7 h)
def D3.g (R : Rt) (fr : Fr) (h : Hp) : Prop := gSlice (fr 5) fun a5 l5 c5 => gSlice (fr 6) fun a6 l6 c6 => D3.t R a5 l5 c5 a6 l6 c6 h
theorem D3.ok (R : Rt) (fr : Fr) (h : Hp) (g : D3.g R fr h) : den prog E (cAt C [true, true, true, false]) (Ex.then (D2.g R) (retQ E [.tmp 4] R)) fr h := by
  obtain ⟨a5, l5, c5, e5, g⟩ := gSlice_elim g
  obtain ⟨a6, l6, c6, e6, g⟩ := gSlice_elim g
  exact den_cut 1 (r := (cAt C [true, true, true, false, true])) (by kernel_rfl) (B6.ok R) (den_enter [(5, .slice a5 l5 c5), (6, .slice a6 l6 c6)] ⟨e5, e6, trivial⟩ (by kernel_rfl) g)
theorem W7.ok (R : Rt) (fr : Fr) (h : Hp) (g : D3.g R fr h) : den prog E (cAt C [true, true, true]) (retQ E [.tmp 4] R) fr h :=
  den_then (by kernel_rfl) (D2.ok R) (D3.ok R fr h g)
def D1.t (R : Rt) (a0 : Option Addr) (l0 : Nat) (c0 : Nat) (a1 : Option Addr) (l1 : Nat) (c1 : Nat) (h : Hp) : Prop :=
  HC nat_trim.id #[.slice a0 l0 c0] h fun v1 h2 =>
  gSlice v1 fun a_3 l_3 c_3 =>
  HC nat_trim.id #[.slice a1 l1 c1] h2 fun v4 h5 =>
  gSlice v4 fun a_6 l_6 c_6 =>
  cond ((((l_3 : Nat) : Int)) != (((l_6 : Nat) : Int))) (cond (decide ((((l_3 : Nat) : Int)) < (((l_6 : Nat) : Int)))) (R (.int .i64 (-1)) h5) (R (.int .i64 1) h5)) (D3.t R a_3 l_3 c_3 a_6 l_6 c_6 h5)
def D1.g (R : Rt) (fr : Fr) (h : Hp) : Prop := gSlice (fr 0) fun a0 l0 c0 => gSlice (fr 1) fun a1 l1 c1 => D1.t R a0 l0 c0 a1 l1 c1 h
theorem D1.ok (R : Rt) (fr : Fr) (h : Hp) (g : D1.g R fr h) : den prog E C (retQ E [.tmp 4] R) fr h := by
  obtain ⟨a0, l0, c0, e0, g⟩ := gSlice_elim g
  obtain ⟨a1, l1, c1, e1, g⟩ := gSlice_elim g
  exact den_cut 3 (r := (cAt C [true, true, true])) (by kernel_rfl) (W7.ok R) (den_enter [(0, .slice a0 l0 c0), (1, .slice a1 l1 c1)] ⟨e0, e1, trivial⟩ (by kernel_rfl) g)
def t (a0 : Option Addr) (l0 : Nat) (c0 : Nat) (a1 : Option Addr) (l1 : Nat) (c1 : Nat) (h : Hp) (R : Rt) : Prop := D1.t R a0 l0 c0 a1 l1 c1 h
theorem ok {a0 : Option Addr} {l0 : Nat} {c0 : Nat} {a1 : Option Addr} {l1 : Nat} {c1 : Nat} {h : Hp} {R : Rt} (g : t a0 l0 c0 a1 l1 c1 h R) : HC id #[.slice a0 l0 c0, .slice a1 l1 c1] h R :=
  calls_of_den' envOk (c := C) (rs := [.tmp 4]) Tryd.func18 (by kernel_rfl) (by kernel_rfl) (by kernel_rfl) (args := [.slice a0 l0 c0, .slice a1 l1 c1]) (by kernel_rfl) (D1.ok R _ h (gSlice_intro rfl (gSlice_intro rfl (g))))
end nat_Cmp

namespace gnomonlaw01_awake
noncomputable def C : Code := bodyOf Tryd.f19
def D3.t (R : Rt)  (h : Hp) : Prop :=
  boxK h 27 [.int .u64 0, .int .u64 1] fun q29 h30 =>
  HC nat_Bits.id #[.slice (some q29) 2 2] h30 fun v31 h32 =>
  gInt .i64 v31 fun x_33 =>
  cond (x_33 == 65) (boxK h32 27 [.int .u64 2] fun q34 h35 =>
  boxK h35 27 [.int .u64 1] fun q36 h37 =>
  HC nat_Cmp.id #[.slice (some q34) 1 1, .slice (some q36) 1 1] h37 fun v38 h39 =>
  gInt .i64 v38 fun x_40 =>
  R (.bool (x_40 == 1)) h39) (R (.bool false) h32)
def D3.g (R : Rt) (fr : Fr) (h : Hp) : Prop := D3.t R  h
theorem D3.ok (R : Rt) (fr : Fr) (h : Hp) (g : D3.g R fr h) : den prog E (cAt C [true, true, true, true, true]) (retQ E [.tmp 0] R) fr h := by
  exact den_enter [] trivial (by kernel_rfl) g
def D2.t (R : Rt) (a1 : Option Addr) (l1 : Nat) (c1 : Nat) (h : Hp) : Prop :=
  boxK h 27 [.int .u64 1] fun q16 h17 =>
  HC nat_Sub.id #[.slice a1 l1 c1, .slice (some q16) 1 1] h17 fun v18 h19 =>
  gTup v18 fun y20 =>
  uncons y20 fun v21 y21 =>
  gSlice v21 fun a_22 l_22 c_22 =>
  uncons y21 fun v23 y23 =>
  gInt .i64 v23 fun x_24 =>
  unnil y23 <| cond (x_24 != 0) (R (.bool false) h19) (boxK h19 27 [.int .u64 18446744073709551615] fun q25 h26 =>
  HQC gnomonref01_Same.id #[.slice a_22 l_22 c_22, .slice (some q25) 1 1] h26 fun v27 =>
  gBool v27 fun b_28 =>
  cond (!b_28) (R (.bool false) h26) (D3.t R h26))
def D2.g (R : Rt) (fr : Fr) (h : Hp) : Prop := gSlice (fr 1) fun a1 l1 c1 => D2.t R a1 l1 c1 h
theorem D2.ok (R : Rt) (fr : Fr) (h : Hp) (g : D2.g R fr h) : den prog E (cAt C [true, true, true]) (retQ E [.tmp 0] R) fr h := by
  obtain ⟨a1, l1, c1, e1, g⟩ := gSlice_elim g
  exact den_cut 2 (r := (cAt C [true, true, true, true, true])) (by kernel_rfl) (D3.ok R) (den_enter [(1, .slice a1 l1 c1)] ⟨e1, trivial⟩ (by kernel_rfl) g)
def D1.t (R : Rt)  (h : Hp) : Prop :=
  boxK h 27 [.int .u64 18446744073709551615] fun q1 h2 =>
  boxK h2 27 [.int .u64 1] fun q3 h4 =>
  HC nat_Add.id #[.slice (some q1) 1 1, .slice (some q3) 1 1] h4 fun v5 h6 =>
  gTup v5 fun y7 =>
  uncons y7 fun v8 y8 =>
  gSlice v8 fun a_9 l_9 c_9 =>
  uncons y8 fun v10 y10 =>
  gInt .i64 v10 fun x_11 =>
  unnil y10 <| cond (x_11 != 0) (R (.bool false) h6) (boxK h6 27 [.int .u64 0, .int .u64 1] fun q12 h13 =>
  HQC gnomonref01_Same.id #[.slice a_9 l_9 c_9, .slice (some q12) 2 2] h13 fun v14 =>
  gBool v14 fun b_15 =>
  cond (!b_15) (R (.bool false) h13) (D2.t R a_9 l_9 c_9 h13))
def D1.g (R : Rt) (fr : Fr) (h : Hp) : Prop := D1.t R  h
theorem D1.ok (R : Rt) (fr : Fr) (h : Hp) (g : D1.g R fr h) : den prog E C (retQ E [.tmp 0] R) fr h := by
  exact den_cut 3 (r := (cAt C [true, true, true])) (by kernel_rfl) (D2.ok R) (den_enter [] trivial (by kernel_rfl) g)
def t  (h : Hp) (R : Rt) : Prop := D1.t R h
theorem ok  {h : Hp} {R : Rt} (g : t  h R) : HC id #[] h R :=
  calls_of_den' envOk (c := C) (rs := [.tmp 0]) Tryd.func19 (by kernel_rfl) (by kernel_rfl) (by kernel_rfl) (args := []) (by kernel_rfl) (D1.ok R _ h (g))
end gnomonlaw01_awake

namespace nat_Shl
noncomputable def C : Code := bodyOf Tryd.f20
def D2.t (R : Rt) (a8 : Option Addr) (l8 : Nat) (c8 : Nat) (h : Hp) : Prop :=
  HC nat_told.id #[.slice a8 l8 c8] h fun v14 h15 =>
  gTup v14 fun y16 =>
  uncons y16 fun v17 y17 =>
  gSlice v17 fun a_18 l_18 c_18 =>
  uncons y17 fun v19 y19 =>
  gInt .i64 v19 fun x_20 =>
  unnil y19 <| R (.tuple #[.slice a_18 l_18 c_18, .int .i64 x_20]) h15
def D2.g (R : Rt) (fr : Fr) (h : Hp) : Prop := gSlice (fr 8) fun a8 l8 c8 => D2.t R a8 l8 c8 h
theorem D2.ok (R : Rt) (fr : Fr) (h : Hp) (g : D2.g R fr h) : den prog E (cAt C [true, true, true, true, true, true, true, true]) (retQ E [.tmp 4, .tmp 5] R) fr h := by
  obtain ⟨a8, l8, c8, e8, g⟩ := gSlice_elim g
  exact den_enter [(8, .slice a8 l8 c8)] ⟨e8, trivial⟩ (by kernel_rfl) g
def L4.g (N : Option Addr → Nat → Nat → Int → Int → Option Addr → Nat → Nat → Int → Int → Hp → Prop) (fr : Fr) (h : Hp) : Prop := gSlice (fr 0) fun a0 l0 c0 => gInt .i64 (fr 6) fun x6 => gInt .i64 (fr 7) fun x7 => gSlice (fr 8) fun a8 l8 c8 => gInt .i64 (fr 34) fun x34 => gInt .i64 (fr 35) fun x35 => N a0 l0 c0 x6 x7 a8 l8 c8 x34 x35 h
def D5.t (R : Rt) (N4 : Option Addr → Nat → Nat → Int → Int → Option Addr → Nat → Nat → Int → Int → Hp → Prop) (a0 : Option Addr) (l0 : Nat) (c0 : Nat) (x6 : Int) (x7 : Int) (a8 : Option Addr) (l8 : Nat) (c8 : Nat) (x34 : Int) (x35 : Int) (h : Hp) : Prop :=
  cond (decide (x35 < x34)) (letK (IntKind.i64.wrap (x6 + x35)) fun n21 =>
  idxK a8 l8 n21 1 fun q22 =>
  ldK h q22 fun v23 =>
  gInt .u64 v23 fun x_24 =>
  idxK a0 l0 x35 1 fun q25 =>
  ldK h q25 fun v26 =>
  gInt .u64 v26 fun x_27 =>
  0 ≤ x7 ∧ letK (shlI .u64 x_27 x7) fun n28 =>
  letK (orI .u64 x_24 n28) fun n29 =>
  idxK a8 l8 n21 1 fun q30 =>
  stK h q30 (.int .u64 n29) fun h31 =>
  letK (IntKind.i64.wrap (x6 + x35)) fun n32 =>
  letK (IntKind.i64.wrap (n32 + 1)) fun n33 =>
  idxK a0 l0 x35 1 fun q34 =>
  ldK h31 q34 fun v35 =>
  gInt .u64 v35 fun x_36 =>
  0 ≤ (1 : Int) ∧ letK (shrI .u64 x_36 1) fun n37 =>
  letK (IntKind.i64.wrap (63 - x7)) fun n38 =>
  0 ≤ n38 ∧ letK (shrI .u64 n37 n38) fun n39 =>
  idxK a8 l8 n33 1 fun q40 =>
  stK h31 q40 (.int .u64 n39) fun h41 =>
  letK (IntKind.i64.wrap (x35 + 1)) fun n42 =>
  N4 a0 l0 c0 x6 x7 a8 l8 c8 x34 n42 h41) (D2.t R a8 l8 c8 h)
def D5.g (R : Rt) (N4 : Option Addr → Nat → Nat → Int → Int → Option Addr → Nat → Nat → Int → Int → Hp → Prop) (fr : Fr) (h : Hp) : Prop := gSlice (fr 0) fun a0 l0 c0 => gInt .i64 (fr 6) fun x6 => gInt .i64 (fr 7) fun x7 => gSlice (fr 8) fun a8 l8 c8 => gInt .i64 (fr 34) fun x34 => gInt .i64 (fr 35) fun x35 => D5.t R N4 a0 l0 c0 x6 x7 a8 l8 c8 x34 x35 h
theorem D5.ok (R : Rt) (N4 : Option Addr → Nat → Nat → Int → Int → Option Addr → Nat → Nat → Int → Int → Hp → Prop) (fr : Fr) (h : Hp) (g : D5.g R N4 fr h) : den prog E (cAt C [true, true, true, true, true, true, true, false, true, false, false]) (Ex.then (L4.g N4) (Ex.inBlock 0 (Ex.then (D2.g R) (retQ E [.tmp 4, .tmp 5] R)))) fr h := by
  obtain ⟨a0, l0, c0, e0, g⟩ := gSlice_elim g
  obtain ⟨x6, e6, g⟩ := gInt_elim g
  obtain ⟨x7, e7, g⟩ := gInt_elim g
  obtain ⟨a8, l8, c8, e8, g⟩ := gSlice_elim g
  obtain ⟨x34, e34, g⟩ := gInt_elim g
  obtain ⟨x35, e35, g⟩ := gInt_elim g
  exact den_enter [(0, .slice a0 l0 c0), (6, .int .i64 x6), (7, .int .i64 x7), (8, .slice a8 l8 c8), (34, .int .i64 x34), (35, .int .i64 x35)] ⟨e0, e6, e7, e8, e34, e35, trivial⟩ (by kernel_rfl) g
def L4.t (R : Rt) : Nat → Option Addr → Nat → Nat → Int → Int → Option Addr → Nat → Nat → Int → Int → Hp → Prop
  | 0 => fun _ _ _ _ _ _ _ _ _ _ _ => False
  | n + 1 => fun a0 l0 c0 x6 x7 a8 l8 c8 x34 x35 h => D5.t R (L4.t R n) a0 l0 c0 x6 x7 a8 l8 c8 x34 x35 h
theorem L4.ok (R : Rt) (fr : Fr) (h : Hp) (g : L4.g (fun a0 l0 c0 x6 x7 a8 l8 c8 x34 x35 h => ∃ n, L4.t R n a0 l0 c0 x6 x7 a8 l8 c8 x34 x35 h) fr h) : den prog E (cAt C [true, true, true, true, true, true, true, false, true, false]) (Ex.inBlock 0 (Ex.then (D2.g R) (retQ E [.tmp 4, .tmp 5] R))) fr h := by
  obtain ⟨a0, l0, c0, e0, g⟩ := gSlice_elim g
  obtain ⟨x6, e6, g⟩ := gInt_elim g
  obtain ⟨x7, e7, g⟩ := gInt_elim g
  obtain ⟨a8, l8, c8, e8, g⟩ := gSlice_elim g
  obtain ⟨x34, e34, g⟩ := gInt_elim g
  obtain ⟨x35, e35, g⟩ := gInt_elim g
  obtain ⟨n, g⟩ := g
  refine loop_ok (fun n => L4.g (L4.t R n)) (b := (cAt C [true, true, true, true, true, true, true, false, true, false, false])) (by kernel_rfl) (fun fr h g => ?_) (fun n => D5.ok R (L4.t R n)) n fr h (gSlice_intro e0 (gInt_intro e6 (gInt_intro e7 (gSlice_intro e8 (gInt_intro e34 (gInt_intro e35 (g)))))))
  obtain ⟨a0, l0, c0, e0, g⟩ := gSlice_elim g
  obtain ⟨x6, e6, g⟩ := gInt_elim g
  obtain ⟨x7, e7, g⟩ := gInt_elim g
  obtain ⟨a8, l8, c8, e8, g⟩ := gSlice_elim g
  obtain ⟨x34, e34, g⟩ := gInt_elim g
  obtain ⟨x35, e35, g⟩ := gInt_elim g
  exact g
theorem B6.ok (R : Rt) (fr : Fr) (h : Hp) (g : L4.g (fun a0 l0 c0 x6 x7 a8 l8 c8 x34 x35 h => ∃ n, L4.t R n a0 l0 c0 x6 x7 a8 l8 c8 x34 x35 h) fr h) : den prog E (cAt C [true, true, true, true, true, true, true, false, true]) (Ex.then (D2.g R) (retQ E [.tmp 4, .tmp 5] R)) fr h :=
  den_block (by kernel_rfl) (L4.ok R fr h g)
def D3.t (R : Rt) (a0 : Option Addr) (l0 : Nat) (c0 : Nat) (x6 : Int) (x7 : Int) (a8 : Option Addr) (l8 : Nat) (c8 : Nat) (h : Hp) : Prop :=
  (∃ n, L4.t R n a0 l0 c0 x6 x7 a8 l8 c8 (((l0 : Nat) : Int)) 0 h)
def D3.g (R : Rt) (fr : Fr) (h : Hp) : Prop := gSlice (fr 0) fun a0 l0 c0 => gInt .i64 (fr 6) fun x6 => gInt .i64 (fr 7) fun x7 => gSlice (fr 8) fun a8 l8 c8 => D3.t R a0 l0 c0 x6 x7 a8 l8 c8 h
theorem D3.ok (R : Rt) (fr : Fr) (h : Hp) (g : D3.g R fr h) : den prog E (cAt C [true, true, true, true, true, true, true, false]) (Ex.then (D2.g R) (retQ E [.tmp 4, .tmp 5] R)) fr h := by
  obtain ⟨a0, l0, c0, e0, g⟩ := gSlice_elim g
  obtain ⟨x6, e6, g⟩ := gInt_elim g
  obtain ⟨x7, e7, g⟩ := gInt_elim g
  obtain ⟨a8, l8, c8, e8, g⟩ := gSlice_elim g
  exact den_cut 1 (r := (cAt C [true, true, true, true, true, true, true, false, true])) (by kernel_rfl) (B6.ok R) (den_enter [(0, .slice a0 l0 c0), (6, .int .i64 x6), (7, .int .i64 x7), (8, .slice a8 l8 c8)] ⟨e0, e6, e7, e8, trivial⟩ (by kernel_rfl) g)
theorem W7.ok (R : Rt) (fr : Fr) (h : Hp) (g : D3.g R fr h) : den prog E (cAt C [true, true, true, true, true, true, true]) (retQ E [.tmp 4, .tmp 5] R) fr h :=
  den_then (by kernel_rfl) (D2.ok R) (D3.ok R fr h g)
def D1.t (R : Rt) (a0 : Option Addr) (l0 : Nat) (c0 : Nat) (x1 : Int) (h : Hp) : Prop :=
  cond (decide (x1 < 0)) (R (.tuple #[.slice none 0 0, .int .i64 1]) h) (HC nat_Form.id #[.slice a0 l0 c0] h fun v1 h2 =>
  gBool v1 fun b_3 =>
  cond (!b_3) (R (.tuple #[.slice none 0 0, .int .i64 2]) h2) (cond ((((l0 : Nat) : Int)) == 0) (R (.tuple #[.slice none 0 0, .int .i64 0]) h2) (HC nat_Bits.id #[.slice a0 l0 c0] h2 fun v4 h5 =>
  gInt .i64 v4 fun x_6 =>
  letK (IntKind.i64.wrap (524288 - x_6)) fun n7 =>
  cond (decide (x1 > n7)) (R (.tuple #[.slice none 0 0, .int .i64 5]) h5) ((64 : Int) ≠ 0 ∧ letK (IntKind.i64.wrap (Int.tdiv x1 64)) fun n8 =>
  (64 : Int) ≠ 0 ∧ letK (Int.tmod x1 64) fun n9 =>
  letK (IntKind.i64.wrap (n8 + (((l0 : Nat) : Int)))) fun n10 =>
  letK (IntKind.i64.wrap (n10 + 1)) fun n11 =>
  mkK h5 27 T27 n11 n11 fun q12 h13 =>
  D3.t R a0 l0 c0 n8 n9 (some q12) n11.toNat n11.toNat h13))))
def D1.g (R : Rt) (fr : Fr) (h : Hp) : Prop := gSlice (fr 0) fun a0 l0 c0 => gInt .i64 (fr 1) fun x1 => D1.t R a0 l0 c0 x1 h
theorem D1.ok (R : Rt) (fr : Fr) (h : Hp) (g : D1.g R fr h) : den prog E C (retQ E [.tmp 4, .tmp 5] R) fr h := by
  obtain ⟨a0, l0, c0, e0, g⟩ := gSlice_elim g
  obtain ⟨x1, e1, g⟩ := gInt_elim g
  exact den_cut 7 (r := (cAt C [true, true, true, true, true, true, true])) (by kernel_rfl) (W7.ok R) (den_enter [(0, .slice a0 l0 c0), (1, .int .i64 x1)] ⟨e0, e1, trivial⟩ (by kernel_rfl) g)
def t (a0 : Option Addr) (l0 : Nat) (c0 : Nat) (x1 : Int) (h : Hp) (R : Rt) : Prop := D1.t R a0 l0 c0 x1 h
theorem ok {a0 : Option Addr} {l0 : Nat} {c0 : Nat} {x1 : Int} {h : Hp} {R : Rt} (g : t a0 l0 c0 x1 h R) : HC id #[.slice a0 l0 c0, .int .i64 x1] h R :=
  calls_of_den' envOk (c := C) (rs := [.tmp 4, .tmp 5]) Tryd.func20 (by kernel_rfl) (by kernel_rfl) (by kernel_rfl) (args := [.slice a0 l0 c0, .int .i64 x1]) (by kernel_rfl) (D1.ok R _ h (gSlice_intro rfl (gInt_intro rfl (g))))
end nat_Shl

namespace nat_Shr
noncomputable def C : Code := bodyOf Tryd.f21
def D2.t (R : Rt) (a8 : Option Addr) (l8 : Nat) (c8 : Nat) (h : Hp) : Prop :=
  HC nat_told.id #[.slice a8 l8 c8] h fun v9 h10 =>
  gTup v9 fun y11 =>
  uncons y11 fun v12 y12 =>
  gSlice v12 fun a_13 l_13 c_13 =>
  uncons y12 fun v14 y14 =>
  gInt .i64 v14 fun x_15 =>
  unnil y14 <| R (.tuple #[.slice a_13 l_13 c_13, .int .i64 x_15]) h10
def D2.g (R : Rt) (fr : Fr) (h : Hp) : Prop := gSlice (fr 8) fun a8 l8 c8 => D2.t R a8 l8 c8 h
theorem D2.ok (R : Rt) (fr : Fr) (h : Hp) (g : D2.g R fr h) : den prog E (cAt C [true, true, true, true, true, true, true]) (retQ E [.tmp 4, .tmp 5] R) fr h := by
  obtain ⟨a8, l8, c8, e8, g⟩ := gSlice_elim g
  exact den_enter [(8, .slice a8 l8 c8)] ⟨e8, trivial⟩ (by kernel_rfl) g
def L4.g (N : Option Addr → Nat → Nat → Int → Int → Option Addr → Nat → Nat → Int → Int → Hp → Prop) (fr : Fr) (h : Hp) : Prop := gSlice (fr 0) fun a0 l0 c0 => gInt .i64 (fr 6) fun x6 => gInt .i64 (fr 7) fun x7 => gSlice (fr 8) fun a8 l8 c8 => gInt .i64 (fr 29) fun x29 => gInt .i64 (fr 30) fun x30 => N a0 l0 c0 x6 x7 a8 l8 c8 x29 x30 h
def D5.t (R : Rt) (N4 : Option Addr → Nat → Nat → Int → Int → Option Addr → Nat → Nat → Int → Int → Hp → Prop) (a0 : Option Addr) (l0 : Nat) (c0 : Nat) (x6 : Int) (x7 : Int) (a8 : Option Addr) (l8 : Nat) (c8 : Nat) (x29 : Int) (x30 : Int) (h : Hp) : Prop :=
  cond (decide (x30 < x29)) (letK (IntKind.i64.wrap (x6 + x30)) fun n16 =>
  idxK a0 l0 n16 1 fun q17 =>
  ldK h q17 fun v18 =>
  gInt .u64 v18 fun x_19 =>
  0 ≤ x7 ∧ letK (shrI .u64 x_19 x7) fun n20 =>
  idxK a8 l8 x30 1 fun q21 =>
  stK h q21 (.int .u64 n20) fun h22 =>
  letK (IntKind.i64.wrap (x6 + x30)) fun n23 =>
  letK (IntKind.i64.wrap (n23 + 1)) fun n24 =>
  cond (decide (n24 < (((l0 : Nat) : Int)))) (idxK a8 l8 x30 1 fun q25 =>
  ldK h22 q25 fun v26 =>
  gInt .u64 v26 fun x_27 =>
  letK (IntKind.i64.wrap (x6 + x30)) fun n28 =>
  letK (IntKind.i64.wrap (n28 + 1)) fun n29 =>
  idxK a0 l0 n29 1 fun q30 =>
  ldK h22 q30 fun v31 =>
  gInt .u64 v31 fun x_32 =>
  0 ≤ (1 : Int) ∧ letK (shlI .u64 x_32 1) fun n33 =>
  letK (IntKind.i64.wrap (63 - x7)) fun n34 =>
  0 ≤ n34 ∧ letK (shlI .u64 n33 n34) fun n35 =>
  letK (orI .u64 x_27 n35) fun n36 =>
  idxK a8 l8 x30 1 fun q37 =>
  stK h22 q37 (.int .u64 n36) fun h38 =>
  letK (IntKind.i64.wrap (x30 + 1)) fun n39 =>
  N4 a0 l0 c0 x6 x7 a8 l8 c8 x29 n39 h38) (letK (IntKind.i64.wrap (x30 + 1)) fun n40 =>
  N4 a0 l0 c0 x6 x7 a8 l8 c8 x29 n40 h22)) (D2.t R a8 l8 c8 h)
def D5.g (R : Rt) (N4 : Option Addr → Nat → Nat → Int → Int → Option Addr → Nat → Nat → Int → Int → Hp → Prop) (fr : Fr) (h : Hp) : Prop := gSlice (fr 0) fun a0 l0 c0 => gInt .i64 (fr 6) fun x6 => gInt .i64 (fr 7) fun x7 => gSlice (fr 8) fun a8 l8 c8 => gInt .i64 (fr 29) fun x29 => gInt .i64 (fr 30) fun x30 => D5.t R N4 a0 l0 c0 x6 x7 a8 l8 c8 x29 x30 h
theorem D5.ok (R : Rt) (N4 : Option Addr → Nat → Nat → Int → Int → Option Addr → Nat → Nat → Int → Int → Hp → Prop) (fr : Fr) (h : Hp) (g : D5.g R N4 fr h) : den prog E (cAt C [true, true, true, true, true, true, false, true, false, false]) (Ex.then (L4.g N4) (Ex.inBlock 0 (Ex.then (D2.g R) (retQ E [.tmp 4, .tmp 5] R)))) fr h := by
  obtain ⟨a0, l0, c0, e0, g⟩ := gSlice_elim g
  obtain ⟨x6, e6, g⟩ := gInt_elim g
  obtain ⟨x7, e7, g⟩ := gInt_elim g
  obtain ⟨a8, l8, c8, e8, g⟩ := gSlice_elim g
  obtain ⟨x29, e29, g⟩ := gInt_elim g
  obtain ⟨x30, e30, g⟩ := gInt_elim g
  exact den_enter [(0, .slice a0 l0 c0), (6, .int .i64 x6), (7, .int .i64 x7), (8, .slice a8 l8 c8), (29, .int .i64 x29), (30, .int .i64 x30)] ⟨e0, e6, e7, e8, e29, e30, trivial⟩ (by kernel_rfl) g
def L4.t (R : Rt) : Nat → Option Addr → Nat → Nat → Int → Int → Option Addr → Nat → Nat → Int → Int → Hp → Prop
  | 0 => fun _ _ _ _ _ _ _ _ _ _ _ => False
  | n + 1 => fun a0 l0 c0 x6 x7 a8 l8 c8 x29 x30 h => D5.t R (L4.t R n) a0 l0 c0 x6 x7 a8 l8 c8 x29 x30 h
theorem L4.ok (R : Rt) (fr : Fr) (h : Hp) (g : L4.g (fun a0 l0 c0 x6 x7 a8 l8 c8 x29 x30 h => ∃ n, L4.t R n a0 l0 c0 x6 x7 a8 l8 c8 x29 x30 h) fr h) : den prog E (cAt C [true, true, true, true, true, true, false, true, false]) (Ex.inBlock 0 (Ex.then (D2.g R) (retQ E [.tmp 4, .tmp 5] R))) fr h := by
  obtain ⟨a0, l0, c0, e0, g⟩ := gSlice_elim g
  obtain ⟨x6, e6, g⟩ := gInt_elim g
  obtain ⟨x7, e7, g⟩ := gInt_elim g
  obtain ⟨a8, l8, c8, e8, g⟩ := gSlice_elim g
  obtain ⟨x29, e29, g⟩ := gInt_elim g
  obtain ⟨x30, e30, g⟩ := gInt_elim g
  obtain ⟨n, g⟩ := g
  refine loop_ok (fun n => L4.g (L4.t R n)) (b := (cAt C [true, true, true, true, true, true, false, true, false, false])) (by kernel_rfl) (fun fr h g => ?_) (fun n => D5.ok R (L4.t R n)) n fr h (gSlice_intro e0 (gInt_intro e6 (gInt_intro e7 (gSlice_intro e8 (gInt_intro e29 (gInt_intro e30 (g)))))))
  obtain ⟨a0, l0, c0, e0, g⟩ := gSlice_elim g
  obtain ⟨x6, e6, g⟩ := gInt_elim g
  obtain ⟨x7, e7, g⟩ := gInt_elim g
  obtain ⟨a8, l8, c8, e8, g⟩ := gSlice_elim g
  obtain ⟨x29, e29, g⟩ := gInt_elim g
  obtain ⟨x30, e30, g⟩ := gInt_elim g
  exact g
theorem B6.ok (R : Rt) (fr : Fr) (h : Hp) (g : L4.g (fun a0 l0 c0 x6 x7 a8 l8 c8 x29 x30 h => ∃ n, L4.t R n a0 l0 c0 x6 x7 a8 l8 c8 x29 x30 h) fr h) : den prog E (cAt C [true, true, true, true, true, true, false, true]) (Ex.then (D2.g R) (retQ E [.tmp 4, .tmp 5] R)) fr h :=
  den_block (by kernel_rfl) (L4.ok R fr h g)
def D3.t (R : Rt) (a0 : Option Addr) (l0 : Nat) (c0 : Nat) (x6 : Int) (x7 : Int) (a8 : Option Addr) (l8 : Nat) (c8 : Nat) (h : Hp) : Prop :=
  (∃ n, L4.t R n a0 l0 c0 x6 x7 a8 l8 c8 (((l8 : Nat) : Int)) 0 h)
def D3.g (R : Rt) (fr : Fr) (h : Hp) : Prop := gSlice (fr 0) fun a0 l0 c0 => gInt .i64 (fr 6) fun x6 => gInt .i64 (fr 7) fun x7 => gSlice (fr 8) fun a8 l8 c8 => D3.t R a0 l0 c0 x6 x7 a8 l8 c8 h
theorem D3.ok (R : Rt) (fr : Fr) (h : Hp) (g : D3.g R fr h) : den prog E (cAt C [true, true, true, true, true, true, false]) (Ex.then (D2.g R) (retQ E [.tmp 4, .tmp 5] R)) fr h := by
  obtain ⟨a0, l0, c0, e0, g⟩ := gSlice_elim g
  obtain ⟨x6, e6, g⟩ := gInt_elim g
  obtain ⟨x7, e7, g⟩ := gInt_elim g
  obtain ⟨a8, l8, c8, e8, g⟩ := gSlice_elim g
  exact den_cut 1 (r := (cAt C [true, true, true, true, true, true, false, true])) (by kernel_rfl) (B6.ok R) (den_enter [(0, .slice a0 l0 c0), (6, .int .i64 x6), (7, .int .i64 x7), (8, .slice a8 l8 c8)] ⟨e0, e6, e7, e8, trivial⟩ (by kernel_rfl) g)
theorem W7.ok (R : Rt) (fr : Fr) (h : Hp) (g : D3.g R fr h) : den prog E (cAt C [true, true, true, true, true, true]) (retQ E [.tmp 4, .tmp 5] R) fr h :=
  den_then (by kernel_rfl) (D2.ok R) (D3.ok R fr h g)
def D1.t (R : Rt) (a0 : Option Addr) (l0 : Nat) (c0 : Nat) (x1 : Int) (h : Hp) : Prop :=
  cond (decide (x1 < 0)) (R (.tuple #[.slice none 0 0, .int .i64 1]) h) (HC nat_Form.id #[.slice a0 l0 c0] h fun v1 h2 =>
  gBool v1 fun b_3 =>
  cond (!b_3) (R (.tuple #[.slice none 0 0, .int .i64 2]) h2) ((64 : Int) ≠ 0 ∧ letK (IntKind.i64.wrap (Int.tdiv x1 64)) fun n4 =>
  (64 : Int) ≠ 0 ∧ letK (Int.tmod x1 64) fun n5 =>
  cond (decide (n4 ≥ (((l0 : Nat) : Int)))) (R (.tuple #[.slice none 0 0, .int .i64 0]) h2) (letK (IntKind.i64.wrap ((((l0 : Nat) : Int)) - n4)) fun n6 =>
  mkK h2 27 T27 n6 n6 fun q7 h8 =>
  D3.t R a0 l0 c0 n4 n5 (some q7) n6.toNat n6.toNat h8)))
def D1.g (R : Rt) (fr : Fr) (h : Hp) : Prop := gSlice (fr 0) fun a0 l0 c0 => gInt .i64 (fr 1) fun x1 => D1.t R a0 l0 c0 x1 h
theorem D1.ok (R : Rt) (fr : Fr) (h : Hp) (g : D1.g R fr h) : den prog E C (retQ E [.tmp 4, .tmp 5] R) fr h := by
  obtain ⟨a0, l0, c0, e0, g⟩ := gSlice_elim g
  obtain ⟨x1, e1, g⟩ := gInt_elim g
  exact den_cut 6 (r := (cAt C [true, true, true, true, true, true])) (by kernel_rfl) (W7.ok R) (den_enter [(0, .slice a0 l0 c0), (1, .int .i64 x1)] ⟨e0, e1, trivial⟩ (by kernel_rfl) g)
def t (a0 : Option Addr) (l0 : Nat) (c0 : Nat) (x1 : Int) (h : Hp) (R : Rt) : Prop := D1.t R a0 l0 c0 x1 h
theorem ok {a0 : Option Addr} {l0 : Nat} {c0 : Nat} {x1 : Int} {h : Hp} {R : Rt} (g : t a0 l0 c0 x1 h R) : HC id #[.slice a0 l0 c0, .int .i64 x1] h R :=
  calls_of_den' envOk (c := C) (rs := [.tmp 4, .tmp 5]) Tryd.func21 (by kernel_rfl) (by kernel_rfl) (by kernel_rfl) (args := [.slice a0 l0 c0, .int .i64 x1]) (by kernel_rfl) (D1.ok R _ h (gSlice_intro rfl (gInt_intro rfl (g))))
end nat_Shr

namespace nat_Low
noncomputable def C : Code := bodyOf Tryd.f22
def D2.t (R : Rt) (a8 : Option Addr) (l8 : Nat) (c8 : Nat) (h : Hp) : Prop :=
  HC nat_told.id #[.slice a8 l8 c8] h fun v19 h20 =>
  gTup v19 fun y21 =>
  uncons y21 fun v22 y22 =>
  gSlice v22 fun a_23 l_23 c_23 =>
  uncons y22 fun v24 y24 =>
  gInt .i64 v24 fun x_25 =>
  unnil y24 <| R (.tuple #[.slice a_23 l_23 c_23, .int .i64 x_25]) h20
def D2.g (R : Rt) (fr : Fr) (h : Hp) : Prop := gSlice (fr 8) fun a8 l8 c8 => D2.t R a8 l8 c8 h
theorem D2.ok (R : Rt) (fr : Fr) (h : Hp) (g : D2.g R fr h) : den prog E (cAt C [true, true, true, true, true, true, true]) (retQ E [.tmp 4, .tmp 5] R) fr h := by
  obtain ⟨a8, l8, c8, e8, g⟩ := gSlice_elim g
  exact den_enter [(8, .slice a8 l8 c8)] ⟨e8, trivial⟩ (by kernel_rfl) g
def D1.t (R : Rt) (a0 : Option Addr) (l0 : Nat) (c0 : Nat) (x1 : Int) (h : Hp) : Prop :=
  cond (decide (x1 < 0)) (R (.tuple #[.slice none 0 0, .int .i64 1]) h) (HC nat_Form.id #[.slice a0 l0 c0] h fun v1 h2 =>
  gBool v1 fun b_3 =>
  cond (!b_3) (R (.tuple #[.slice none 0 0, .int .i64 2]) h2) ((64 : Int) ≠ 0 ∧ letK (IntKind.i64.wrap (Int.tdiv x1 64)) fun n4 =>
  (64 : Int) ≠ 0 ∧ letK (Int.tmod x1 64) fun n5 =>
  mkK h2 27 T27 (((l0 : Nat) : Int)) (((l0 : Nat) : Int)) fun q6 h7 =>
  cpK h7 1 (some q6) ((((l0 : Nat) : Int)).toNat) (.slice a0 l0 c0) fun n8 h8 =>
  cond (decide (n4 < (((l0 : Nat) : Int)))) (idxK (some q6) ((((l0 : Nat) : Int)).toNat) n4 1 fun q9 =>
  ldK h8 q9 fun v10 =>
  gInt .u64 v10 fun x_11 =>
  0 ≤ n5 ∧ letK (shlI .u64 1 n5) fun n12 =>
  letK (IntKind.u64.wrap (n12 - 1)) fun n13 =>
  letK (andI .u64 x_11 n13) fun n14 =>
  idxK (some q6) ((((l0 : Nat) : Int)).toNat) n4 1 fun q15 =>
  stK h8 q15 (.int .u64 n14) fun h16 =>
  letK (IntKind.i64.wrap (n4 + 1)) fun n17 =>
  slK 1 (some q6) ((((l0 : Nat) : Int)).toNat) ((((l0 : Nat) : Int)).toNat) none (some (.int .i64 n17)) none fun a_18 l_18 c_18 =>
  D2.t R a_18 l_18 c_18 h16) (D2.t R (some q6) ((((l0 : Nat) : Int)).toNat) ((((l0 : Nat) : Int)).toNat) h8)))
def D1.g (R : Rt) (fr : Fr) (h : Hp) : Prop := gSlice (fr 0) fun a0 l0 c0 => gInt .i64 (fr 1) fun x1 => D1.t R a0 l0 c0 x1 h
theorem D1.ok (R : Rt) (fr : Fr) (h : Hp) (g : D1.g R fr h) : den prog E C (retQ E [.tmp 4, .tmp 5] R) fr h := by
  obtain ⟨a0, l0, c0, e0, g⟩ := gSlice_elim g
  obtain ⟨x1, e1, g⟩ := gInt_elim g
  exact den_cut 7 (r := (cAt C [true, true, true, true, true, true, true])) (by kernel_rfl) (D2.ok R) (den_enter [(0, .slice a0 l0 c0), (1, .int .i64 x1)] ⟨e0, e1, trivial⟩ (by kernel_rfl) g)
def t (a0 : Option Addr) (l0 : Nat) (c0 : Nat) (x1 : Int) (h : Hp) (R : Rt) : Prop := D1.t R a0 l0 c0 x1 h
theorem ok {a0 : Option Addr} {l0 : Nat} {c0 : Nat} {x1 : Int} {h : Hp} {R : Rt} (g : t a0 l0 c0 x1 h R) : HC id #[.slice a0 l0 c0, .int .i64 x1] h R :=
  calls_of_den' envOk (c := C) (rs := [.tmp 4, .tmp 5]) Tryd.func22 (by kernel_rfl) (by kernel_rfl) (by kernel_rfl) (args := [.slice a0 l0 c0, .int .i64 x1]) (by kernel_rfl) (D1.ok R _ h (gSlice_intro rfl (gInt_intro rfl (g))))
end nat_Low

namespace nat_MulWord
noncomputable def C : Code := bodyOf Tryd.f23
def D2.t (R : Rt) (a0 : Option Addr) (l0 : Nat) (c0 : Nat) (a6 : Option Addr) (l6 : Nat) (c6 : Nat) (x7 : Int) (h : Hp) : Prop :=
  idxK a6 l6 (((l0 : Nat) : Int)) 1 fun q7 =>
  stK h q7 (.int .u64 x7) fun h8 =>
  HC nat_told.id #[.slice a6 l6 c6] h8 fun v9 h10 =>
  gTup v9 fun y11 =>
  uncons y11 fun v12 y12 =>
  gSlice v12 fun a_13 l_13 c_13 =>
  uncons y12 fun v14 y14 =>
  gInt .i64 v14 fun x_15 =>
  unnil y14 <| R (.tuple #[.slice a_13 l_13 c_13, .int .i64 x_15]) h10
def D2.g (R : Rt) (fr : Fr) (h : Hp) : Prop := gSlice (fr 0) fun a0 l0 c0 => gSlice (fr 6) fun a6 l6 c6 => gInt .u64 (fr 7) fun x7 => D2.t R a0 l0 c0 a6 l6 c6 x7 h
theorem D2.ok (R : Rt) (fr : Fr) (h : Hp) (g : D2.g R fr h) : den prog E (cAt C [true, true, true, true, true]) (retQ E [.tmp 4, .tmp 5] R) fr h := by
  obtain ⟨a0, l0, c0, e0, g⟩ := gSlice_elim g
  obtain ⟨a6, l6, c6, e6, g⟩ := gSlice_elim g
  obtain ⟨x7, e7, g⟩ := gInt_elim g
  exact den_enter [(0, .slice a0 l0 c0), (6, .slice a6 l6 c6), (7, .int .u64 x7)] ⟨e0, e6, e7, trivial⟩ (by kernel_rfl) g
def L4.g (N : Option Addr → Nat → Nat → Int → Option Addr → Nat → Nat → Int → Int → Int → Hp → Prop) (fr : Fr) (h : Hp) : Prop := gSlice (fr 0) fun a0 l0 c0 => gInt .u64 (fr 1) fun x1 => gSlice (fr 6) fun a6 l6 c6 => gInt .u64 (fr 7) fun x7 => gInt .i64 (fr 20) fun x20 => gInt .i64 (fr 21) fun x21 => N a0 l0 c0 x1 a6 l6 c6 x7 x20 x21 h
def D5.t (R : Rt) (N4 : Option Addr → Nat → Nat → Int → Option Addr → Nat → Nat → Int → Int → Int → Hp → Prop) (a0 : Option Addr) (l0 : Nat) (c0 : Nat) (x1 : Int) (a6 : Option Addr) (l6 : Nat) (c6 : Nat) (x7 : Int) (x20 : Int) (x21 : Int) (h : Hp) : Prop :=
  cond (decide (x21 < x20)) (idxK a0 l0 x21 1 fun q16 =>
  ldK h q16 fun v17 =>
  gInt .u64 v17 fun x_18 =>
  HC bits_Mul64.id #[.int .u64 x_18, .int .u64 x1] h fun v19 h20 =>
  gTup v19 fun y21 =>
  uncons y21 fun v22 y22 =>
  gInt .u64 v22 fun x_23 =>
  uncons y22 fun v24 y24 =>
  gInt .u64 v24 fun x_25 =>
  unnil y24 <| addK x_25 x7 0 fun n26 m26 =>
  idxK a6 l6 x21 1 fun q27 =>
  stK h20 q27 (.int .u64 n26) fun h28 =>
  letK (IntKind.u64.wrap (x_23 + m26)) fun n29 =>
  letK (IntKind.i64.wrap (x21 + 1)) fun n30 =>
  N4 a0 l0 c0 x1 a6 l6 c6 n29 x20 n30 h28) (D2.t R a0 l0 c0 a6 l6 c6 x7 h)
def D5.g (R : Rt) (N4 : Option Addr → Nat → Nat → Int → Option Addr → Nat → Nat → Int → Int → Int → Hp → Prop) (fr : Fr) (h : Hp) : Prop := gSlice (fr 0) fun a0 l0 c0 => gInt .u64 (fr 1) fun x1 => gSlice (fr 6) fun a6 l6 c6 => gInt .u64 (fr 7) fun x7 => gInt .i64 (fr 20) fun x20 => gInt .i64 (fr 21) fun x21 => D5.t R N4 a0 l0 c0 x1 a6 l6 c6 x7 x20 x21 h
theorem D5.ok (R : Rt) (N4 : Option Addr → Nat → Nat → Int → Option Addr → Nat → Nat → Int → Int → Int → Hp → Prop) (fr : Fr) (h : Hp) (g : D5.g R N4 fr h) : den prog E (cAt C [true, true, true, true, false, true, false, false]) (Ex.then (L4.g N4) (Ex.inBlock 0 (Ex.then (D2.g R) (retQ E [.tmp 4, .tmp 5] R)))) fr h := by
  obtain ⟨a0, l0, c0, e0, g⟩ := gSlice_elim g
  obtain ⟨x1, e1, g⟩ := gInt_elim g
  obtain ⟨a6, l6, c6, e6, g⟩ := gSlice_elim g
  obtain ⟨x7, e7, g⟩ := gInt_elim g
  obtain ⟨x20, e20, g⟩ := gInt_elim g
  obtain ⟨x21, e21, g⟩ := gInt_elim g
  exact den_enter [(0, .slice a0 l0 c0), (1, .int .u64 x1), (6, .slice a6 l6 c6), (7, .int .u64 x7), (20, .int .i64 x20), (21, .int .i64 x21)] ⟨e0, e1, e6, e7, e20, e21, trivial⟩ (by kernel_rfl) g
def L4.t (R : Rt) : Nat → Option Addr → Nat → Nat → Int → Option Addr → Nat → Nat → Int → Int → Int → Hp → Prop
  | 0 => fun _ _ _ _ _ _ _ _ _ _ _ => False
  | n + 1 => fun a0 l0 c0 x1 a6 l6 c6 x7 x20 x21 h => D5.t R (L4.t R n) a0 l0 c0 x1 a6 l6 c6 x7 x20 x21 h
theorem L4.ok (R : Rt) (fr : Fr) (h : Hp) (g : L4.g (fun a0 l0 c0 x1 a6 l6 c6 x7 x20 x21 h => ∃ n, L4.t R n a0 l0 c0 x1 a6 l6 c6 x7 x20 x21 h) fr h) : den prog E (cAt C [true, true, true, true, false, true, false]) (Ex.inBlock 0 (Ex.then (D2.g R) (retQ E [.tmp 4, .tmp 5] R))) fr h := by
  obtain ⟨a0, l0, c0, e0, g⟩ := gSlice_elim g
  obtain ⟨x1, e1, g⟩ := gInt_elim g
  obtain ⟨a6, l6, c6, e6, g⟩ := gSlice_elim g
  obtain ⟨x7, e7, g⟩ := gInt_elim g
  obtain ⟨x20, e20, g⟩ := gInt_elim g
  obtain ⟨x21, e21, g⟩ := gInt_elim g
  obtain ⟨n, g⟩ := g
  refine loop_ok (fun n => L4.g (L4.t R n)) (b := (cAt C [true, true, true, true, false, true, false, false])) (by kernel_rfl) (fun fr h g => ?_) (fun n => D5.ok R (L4.t R n)) n fr h (gSlice_intro e0 (gInt_intro e1 (gSlice_intro e6 (gInt_intro e7 (gInt_intro e20 (gInt_intro e21 (g)))))))
  obtain ⟨a0, l0, c0, e0, g⟩ := gSlice_elim g
  obtain ⟨x1, e1, g⟩ := gInt_elim g
  obtain ⟨a6, l6, c6, e6, g⟩ := gSlice_elim g
  obtain ⟨x7, e7, g⟩ := gInt_elim g
  obtain ⟨x20, e20, g⟩ := gInt_elim g
  obtain ⟨x21, e21, g⟩ := gInt_elim g
  exact g
theorem B6.ok (R : Rt) (fr : Fr) (h : Hp) (g : L4.g (fun a0 l0 c0 x1 a6 l6 c6 x7 x20 x21 h => ∃ n, L4.t R n a0 l0 c0 x1 a6 l6 c6 x7 x20 x21 h) fr h) : den prog E (cAt C [true, true, true, true, false, true]) (Ex.then (D2.g R) (retQ E [.tmp 4, .tmp 5] R)) fr h :=
  den_block (by kernel_rfl) (L4.ok R fr h g)
def D3.t (R : Rt) (a0 : Option Addr) (l0 : Nat) (c0 : Nat) (x1 : Int) (a6 : Option Addr) (l6 : Nat) (c6 : Nat) (x7 : Int) (h : Hp) : Prop :=
  (∃ n, L4.t R n a0 l0 c0 x1 a6 l6 c6 x7 (((l0 : Nat) : Int)) 0 h)
def D3.g (R : Rt) (fr : Fr) (h : Hp) : Prop := gSlice (fr 0) fun a0 l0 c0 => gInt .u64 (fr 1) fun x1 => gSlice (fr 6) fun a6 l6 c6 => gInt .u64 (fr 7) fun x7 => D3.t R a0 l0 c0 x1 a6 l6 c6 x7 h
theorem D3.ok (R : Rt) (fr : Fr) (h : Hp) (g : D3.g R fr h) : den prog E (cAt C [true, true, true, true, false]) (Ex.then (D2.g R) (retQ E [.tmp 4, .tmp 5] R)) fr h := by
  obtain ⟨a0, l0, c0, e0, g⟩ := gSlice_elim g
  obtain ⟨x1, e1, g⟩ := gInt_elim g
  obtain ⟨a6, l6, c6, e6, g⟩ := gSlice_elim g
  obtain ⟨x7, e7, g⟩ := gInt_elim g
  exact den_cut 1 (r := (cAt C [true, true, true, true, false, true])) (by kernel_rfl) (B6.ok R) (den_enter [(0, .slice a0 l0 c0), (1, .int .u64 x1), (6, .slice a6 l6 c6), (7, .int .u64 x7)] ⟨e0, e1, e6, e7, trivial⟩ (by kernel_rfl) g)
theorem W7.ok (R : Rt) (fr : Fr) (h : Hp) (g : D3.g R fr h) : den prog E (cAt C [true, true, true, true]) (retQ E [.tmp 4, .tmp 5] R) fr h :=
  den_then (by kernel_rfl) (D2.ok R) (D3.ok R fr h g)
def D1.t (R : Rt) (a0 : Option Addr) (l0 : Nat) (c0 : Nat) (x1 : Int) (h : Hp) : Prop :=
  HC nat_Form.id #[.slice a0 l0 c0] h fun v1 h2 =>
  gBool v1 fun b_3 =>
  cond (!b_3) (R (.tuple #[.slice none 0 0, .int .i64 2]) h2) (letK (IntKind.i64.wrap ((((l0 : Nat) : Int)) + 1)) fun n4 =>
  mkK h2 27 T27 n4 n4 fun q5 h6 =>
  D3.t R a0 l0 c0 x1 (some q5) n4.toNat n4.toNat 0 h6)
def D1.g (R : Rt) (fr : Fr) (h : Hp) : Prop := gSlice (fr 0) fun a0 l0 c0 => gInt .u64 (fr 1) fun x1 => D1.t R a0 l0 c0 x1 h
theorem D1.ok (R : Rt) (fr : Fr) (h : Hp) (g : D1.g R fr h) : den prog E C (retQ E [.tmp 4, .tmp 5] R) fr h := by
  obtain ⟨a0, l0, c0, e0, g⟩ := gSlice_elim g
  obtain ⟨x1, e1, g⟩ := gInt_elim g
  exact den_cut 4 (r := (cAt C [true, true, true, true])) (by kernel_rfl) (W7.ok R) (den_enter [(0, .slice a0 l0 c0), (1, .int .u64 x1)] ⟨e0, e1, trivial⟩ (by kernel_rfl) g)
def t (a0 : Option Addr) (l0 : Nat) (c0 : Nat) (x1 : Int) (h : Hp) (R : Rt) : Prop := D1.t R a0 l0 c0 x1 h
theorem ok {a0 : Option Addr} {l0 : Nat} {c0 : Nat} {x1 : Int} {h : Hp} {R : Rt} (g : t a0 l0 c0 x1 h R) : HC id #[.slice a0 l0 c0, .int .u64 x1] h R :=
  calls_of_den' envOk (c := C) (rs := [.tmp 4, .tmp 5]) Tryd.func23 (by kernel_rfl) (by kernel_rfl) (by kernel_rfl) (args := [.slice a0 l0 c0, .int .u64 x1]) (by kernel_rfl) (D1.ok R _ h (gSlice_intro rfl (gInt_intro rfl (g))))
end nat_MulWord

namespace nat_DivWord
noncomputable def C : Code := bodyOf Tryd.f24
def D2.t (R : Rt) (a7 : Option Addr) (l7 : Nat) (c7 : Nat) (x8 : Int) (h : Hp) : Prop :=
  HC nat_told.id #[.slice a7 l7 c7] h fun v6 h7 =>
  gTup v6 fun y8 =>
  uncons y8 fun v9 y9 =>
  gSlice v9 fun a_10 l_10 c_10 =>
  uncons y9 fun v11 y11 =>
  gInt .i64 v11 fun x_12 =>
  unnil y11 <| R (.tuple #[.slice a_10 l_10 c_10, .int .u64 x8, .int .i64 0]) h7
def D2.g (R : Rt) (fr : Fr) (h : Hp) : Prop := gSlice (fr 7) fun a7 l7 c7 => gInt .u64 (fr 8) fun x8 => D2.t R a7 l7 c7 x8 h
theorem D2.ok (R : Rt) (fr : Fr) (h : Hp) (g : D2.g R fr h) : den prog E (cAt C [true, true, true, true, true, true]) (retQ E [.tmp 4, .tmp 5, .tmp 6] R) fr h := by
  obtain ⟨a7, l7, c7, e7, g⟩ := gSlice_elim g
  obtain ⟨x8, e8, g⟩ := gInt_elim g
  exact den_enter [(7, .slice a7 l7 c7), (8, .int .u64 x8)] ⟨e7, e8, trivial⟩ (by kernel_rfl) g
def L4.g (N : Option Addr → Nat → Nat → Int → Option Addr → Nat → Nat → Int → Int → Hp → Prop) (fr : Fr) (h : Hp) : Prop := gSlice (fr 0) fun a0 l0 c0 => gInt .u64 (fr 1) fun x1 => gSlice (fr 7) fun a7 l7 c7 => gInt .u64 (fr 8) fun x8 => gInt .i64 (fr 9) fun x9 => N a0 l0 c0 x1 a7 l7 c7 x8 x9 h
def D5.t (R : Rt) (N4 : Option Addr → Nat → Nat → Int → Option Addr → Nat → Nat → Int → Int → Hp → Prop) (a0 : Option Addr) (l0 : Nat) (c0 : Nat) (x1 : Int) (a7 : Option Addr) (l7 : Nat) (c7 : Nat) (x8 : Int) (x9 : Int) (h : Hp) : Prop :=
  cond (decide (x9 ≥ 0)) (idxK a0 l0 x9 1 fun q14 =>
  ldK h q14 fun v15 =>
  gInt .u64 v15 fun x_16 =>
  HC bits_Div64.id #[.int .u64 x8, .int .u64 x_16, .int .u64 x1] h fun v17 h18 =>
  gTup v17 fun y19 =>
  uncons y19 fun v20 y20 =>
  gInt .u64 v20 fun x_21 =>
  uncons y20 fun v22 y22 =>
  gInt .u64 v22 fun x_23 =>
  unnil y22 <| idxK a7 l7 x9 1 fun q24 =>
  stK h18 q24 (.int .u64 x_21) fun h25 =>
  letK (IntKind.i64.wrap (x9 - 1)) fun n26 =>
  N4 a0 l0 c0 x1 a7 l7 c7 x_23 n26 h25) (D2.t R a7 l7 c7 x8 h)
def D5.g (R : Rt) (N4 : Option Addr → Nat → Nat → Int → Option Addr → Nat → Nat → Int → Int → Hp → Prop) (fr : Fr) (h : Hp) : Prop := gSlice (fr 0) fun a0 l0 c0 => gInt .u64 (fr 1) fun x1 => gSlice (fr 7) fun a7 l7 c7 => gInt .u64 (fr 8) fun x8 => gInt .i64 (fr 9) fun x9 => D5.t R N4 a0 l0 c0 x1 a7 l7 c7 x8 x9 h
theorem D5.ok (R : Rt) (N4 : Option Addr → Nat → Nat → Int → Option Addr → Nat → Nat → Int → Int → Hp → Prop) (fr : Fr) (h : Hp) (g : D5.g R N4 fr h) : den prog E (cAt C [true, true, true, true, true, false, true, false, false]) (Ex.then (L4.g N4) (Ex.inBlock 0 (Ex.then (D2.g R) (retQ E [.tmp 4, .tmp 5, .tmp 6] R)))) fr h := by
  obtain ⟨a0, l0, c0, e0, g⟩ := gSlice_elim g
  obtain ⟨x1, e1, g⟩ := gInt_elim g
  obtain ⟨a7, l7, c7, e7, g⟩ := gSlice_elim g
  obtain ⟨x8, e8, g⟩ := gInt_elim g
  obtain ⟨x9, e9, g⟩ := gInt_elim g
  exact den_enter [(0, .slice a0 l0 c0), (1, .int .u64 x1), (7, .slice a7 l7 c7), (8, .int .u64 x8), (9, .int .i64 x9)] ⟨e0, e1, e7, e8, e9, trivial⟩ (by kernel_rfl) g
def L4.t (R : Rt) : Nat → Option Addr → Nat → Nat → Int → Option Addr → Nat → Nat → Int → Int → Hp → Prop
  | 0 => fun _ _ _ _ _ _ _ _ _ _ => False
  | n + 1 => fun a0 l0 c0 x1 a7 l7 c7 x8 x9 h => D5.t R (L4.t R n) a0 l0 c0 x1 a7 l7 c7 x8 x9 h
theorem L4.ok (R : Rt) (fr : Fr) (h : Hp) (g : L4.g (fun a0 l0 c0 x1 a7 l7 c7 x8 x9 h => ∃ n, L4.t R n a0 l0 c0 x1 a7 l7 c7 x8 x9 h) fr h) : den prog E (cAt C [true, true, true, true, true, false, true, false]) (Ex.inBlock 0 (Ex.then (D2.g R) (retQ E [.tmp 4, .tmp 5, .tmp 6] R))) fr h := by
  obtain ⟨a0, l0, c0, e0, g⟩ := gSlice_elim g
  obtain ⟨x1, e1, g⟩ := gInt_elim g
  obtain ⟨a7, l7, c7, e7, g⟩ := gSlice_elim g
  obtain ⟨x8, e8, g⟩ := gInt_elim g
  obtain ⟨x9, e9, g⟩ := gInt_elim g
  obtain ⟨n, g⟩ := g
  refine loop_ok (fun n => L4.g (L4.t R n)) (b := (cAt C [true, true, true, true, true, false, true, false, false])) (by kernel_rfl) (fun fr h g => ?_) (fun n => D5.ok R (L4.t R n)) n fr h (gSlice_intro e0 (gInt_intro e1 (gSlice_intro e7 (gInt_intro e8 (gInt_intro e9 (g))))))
  obtain ⟨a0, l0, c0, e0, g⟩ := gSlice_elim g
  obtain ⟨x1, e1, g⟩ := gInt_elim g
  obtain ⟨a7, l7, c7, e7, g⟩ := gSlice_elim g
  obtain ⟨x8, e8, g⟩ := gInt_elim g
  obtain ⟨x9, e9, g⟩ := gInt_elim g
  exact g
theorem B6.ok (R : Rt) (fr : Fr) (h : Hp) (g : L4.g (fun a0 l0 c0 x1 a7 l7 c7 x8 x9 h => ∃ n, L4.t R n a0 l0 c0 x1 a7 l7 c7 x8 x9 h) fr h) : den prog E (cAt C [true, true, true, true, true, false, true]) (Ex.then (D2.g R) (retQ E [.tmp 4, .tmp 5, .tmp 6] R)) fr h :=
  den_block (by kernel_rfl) (L4.ok R fr h g)
def D3.t (R : Rt) (a0 : Option Addr) (l0 : Nat) (c0 : Nat) (x1 : Int) (a7 : Option Addr) (l7 : Nat) (c7 : Nat) (x8 : Int) (h : Hp) : Prop :=
  letK (IntKind.i64.wrap ((((l0 : Nat) : Int)) - 1)) fun n13 => (∃ n, L4.t R n a0 l0 c0 x1 a7 l7 c7 x8 n13 h)
def D3.g (R : Rt) (fr : Fr) (h : Hp) : Prop := gSlice (fr 0) fun a0 l0 c0 => gInt .u64 (fr 1) fun x1 => gSlice (fr 7) fun a7 l7 c7 => gInt .u64 (fr 8) fun x8 => D3.t R a0 l0 c0 x1 a7 l7 c7 x8 h
theorem D3.ok (R : Rt) (fr : Fr) (h : Hp) (g : D3.g R fr h) : den prog E (cAt C [true, true, true, true, true, false]) (Ex.then (D2.g R) (retQ E [.tmp 4, .tmp 5, .tmp 6] R)) fr h := by
  obtain ⟨a0, l0, c0, e0, g⟩ := gSlice_elim g
  obtain ⟨x1, e1, g⟩ := gInt_elim g
  obtain ⟨a7, l7, c7, e7, g⟩ := gSlice_elim g
  obtain ⟨x8, e8, g⟩ := gInt_elim g
  exact den_cut 1 (r := (cAt C [true, true, true, true, true, false, true])) (by kernel_rfl) (B6.ok R) (den_enter [(0, .slice a0 l0 c0), (1, .int .u64 x1), (7, .slice a7 l7 c7), (8, .int .u64 x8)] ⟨e0, e1, e7, e8, trivial⟩ (by kernel_rfl) g)
theorem W7.ok (R : Rt) (fr : Fr) (h : Hp) (g : D3.g R fr h) : den prog E (cAt C [true, true, true, true, true]) (retQ E [.tmp 4, .tmp 5, .tmp 6] R) fr h :=
  den_then (by kernel_rfl) (D2.ok R) (D3.ok R fr h g)
def D1.t (R : Rt) (a0 : Option Addr) (l0 : Nat) (c0 : Nat) (x1 : Int) (h : Hp) : Prop :=
  HC nat_Form.id #[.slice a0 l0 c0] h fun v1 h2 =>
  gBool v1 fun b_3 =>
  cond (!b_3) (R (.tuple #[.slice none 0 0, .int .u64 0, .int .i64 2]) h2) (cond (x1 == 0) (R (.tuple #[.slice none 0 0, .int .u64 0, .int .i64 4]) h2) (mkK h2 27 T27 (((l0 : Nat) : Int)) (((l0 : Nat) : Int)) fun q4 h5 =>
  D3.t R a0 l0 c0 x1 (some q4) ((((l0 : Nat) : Int)).toNat) ((((l0 : Nat) : Int)).toNat) 0 h5))
def D1.g (R : Rt) (fr : Fr) (h : Hp) : Prop := gSlice (fr 0) fun a0 l0 c0 => gInt .u64 (fr 1) fun x1 => D1.t R a0 l0 c0 x1 h
theorem D1.ok (R : Rt) (fr : Fr) (h : Hp) (g : D1.g R fr h) : den prog E C (retQ E [.tmp 4, .tmp 5, .tmp 6] R) fr h := by
  obtain ⟨a0, l0, c0, e0, g⟩ := gSlice_elim g
  obtain ⟨x1, e1, g⟩ := gInt_elim g
  exact den_cut 5 (r := (cAt C [true, true, true, true, true])) (by kernel_rfl) (W7.ok R) (den_enter [(0, .slice a0 l0 c0), (1, .int .u64 x1)] ⟨e0, e1, trivial⟩ (by kernel_rfl) g)
def t (a0 : Option Addr) (l0 : Nat) (c0 : Nat) (x1 : Int) (h : Hp) (R : Rt) : Prop := D1.t R a0 l0 c0 x1 h
theorem ok {a0 : Option Addr} {l0 : Nat} {c0 : Nat} {x1 : Int} {h : Hp} {R : Rt} (g : t a0 l0 c0 x1 h R) : HC id #[.slice a0 l0 c0, .int .u64 x1] h R :=
  calls_of_den' envOk (c := C) (rs := [.tmp 4, .tmp 5, .tmp 6]) Tryd.func24 (by kernel_rfl) (by kernel_rfl) (by kernel_rfl) (args := [.slice a0 l0 c0, .int .u64 x1]) (by kernel_rfl) (D1.ok R _ h (gSlice_intro rfl (gInt_intro rfl (g))))
end nat_DivWord

namespace gnomonlaw01_keeps
noncomputable def C : Code := bodyOf Tryd.f25
def D6.t (R : Rt) (a12 : Option Addr) (l12 : Nat) (c12 : Nat) (a14 : Option Addr) (l14 : Nat) (c14 : Nat) (a16 : Option Addr) (l16 : Nat) (c16 : Nat) (a19 : Option Addr) (l19 : Nat) (c19 : Nat) (a22 : Option Addr) (l22 : Nat) (c22 : Nat) (a25 : Option Addr) (l25 : Nat) (c25 : Nat) (a34 : Option Addr) (l34 : Nat) (c34 : Nat) (h : Hp) : Prop :=
  boxK h 23 [.slice a16 l16 c16, .slice a19 l19 c19, .slice a22 l22 c22, .slice a25 l25 c25, .slice a34 l34 c34, .slice a12 l12 c12, .slice a14 l14 c14] fun q283 h284 =>
  HC gnomonref01_Apart.id #[.slice (some q283) 7 7] h284 fun v285 h286 =>
  gBool v285 fun b_287 =>
  R (.bool b_287) h286
def D6.g (R : Rt) (fr : Fr) (h : Hp) : Prop := gSlice (fr 12) fun a12 l12 c12 => gSlice (fr 14) fun a14 l14 c14 => gSlice (fr 16) fun a16 l16 c16 => gSlice (fr 19) fun a19 l19 c19 => gSlice (fr 22) fun a22 l22 c22 => gSlice (fr 25) fun a25 l25 c25 => gSlice (fr 34) fun a34 l34 c34 => D6.t R a12 l12 c12 a14 l14 c14 a16 l16 c16 a19 l19 c19 a22 l22 c22 a25 l25 c25 a34 l34 c34 h
theorem D6.ok (R : Rt) (fr : Fr) (h : Hp) (g : D6.g R fr h) : den prog E (cAt C [true, true, true, true, true, true, true, true, true, true, true, true, true, true, true, true, true, true, true, true, true, true]) (retQ E [.tmp 4] R) fr h := by
  obtain ⟨a12, l12, c12, e12, g⟩ := gSlice_elim g
  obtain ⟨a14, l14, c14, e14, g⟩ := gSlice_elim g
  obtain ⟨a16, l16, c16, e16, g⟩ := gSlice_elim g
  obtain ⟨a19, l19, c19, e19, g⟩ := gSlice_elim g
  obtain ⟨a22, l22, c22, e22, g⟩ := gSlice_elim g
  obtain ⟨a25, l25, c25, e25, g⟩ := gSlice_elim g
  obtain ⟨a34, l34, c34, e34, g⟩ := gSlice_elim g
  exact den_enter [(12, .slice a12 l12 c12), (14, .slice a14 l14 c14), (16, .slice a16 l16 c16), (19, .slice a19 l19 c19), (22, .slice a22 l22 c22), (25, .slice a25 l25 c25), (34, .slice a34 l34 c34)] ⟨e12, e14, e16, e19, e22, e25, e34, trivial⟩ (by kernel_rfl) g
def D5.t (R : Rt) (a5 : Option Addr) (l5 : Nat) (c5 : Nat) (a8 : Option Addr) (l8 : Nat) (c8 : Nat) (a12 : Option Addr) (l12 : Nat) (c12 : Nat) (a14 : Option Addr) (l14 : Nat) (c14 : Nat) (a16 : Option Addr) (l16 : Nat) (c16 : Nat) (a19 : Option Addr) (l19 : Nat) (c19 : Nat) (a22 : Option Addr) (l22 : Nat) (c22 : Nat) (a25 : Option Addr) (l25 : Nat) (c25 : Nat) (a31 : Option Addr) (l31 : Nat) (c31 : Nat) (a34 : Option Addr) (l34 : Nat) (c34 : Nat) (h : Hp) : Prop :=
  HC gnomonref01_Over.id #[.slice a12 l12 c12] h fun v267 h268 =>
  gTup v267 fun y269 =>
  unnil y269 <| HC gnomonref01_Over.id #[.slice a14 l14 c14] h268 fun v270 h271 =>
  gTup v270 fun y272 =>
  unnil y272 <| HQC gnomonref01_Same.id #[.slice a16 l16 c16, .slice a5 l5 c5] h271 fun v273 =>
  gBool v273 fun b_274 =>
  cond (!b_274) (R (.bool false) h271) (HQC gnomonref01_Same.id #[.slice a19 l19 c19, .slice a5 l5 c5] h271 fun v275 =>
  gBool v275 fun b_276 =>
  cond (!b_276) (R (.bool false) h271) (HQC gnomonref01_Same.id #[.slice a22 l22 c22, .slice a8 l8 c8] h271 fun v277 =>
  gBool v277 fun b_278 =>
  cond (!b_278) (R (.bool false) h271) (HQC gnomonref01_Same.id #[.slice a25 l25 c25, .slice a5 l5 c5] h271 fun v279 =>
  gBool v279 fun b_280 =>
  cond (!b_280) (R (.bool false) h271) (HQC gnomonref01_Same.id #[.slice a34 l34 c34, .slice a31 l31 c31] h271 fun v281 =>
  gBool v281 fun b_282 =>
  cond (!b_282) (R (.bool false) h271) (D6.t R a12 l12 c12 a14 l14 c14 a16 l16 c16 a19 l19 c19 a22 l22 c22 a25 l25 c25 a34 l34 c34 h271)))))
def D5.g (R : Rt) (fr : Fr) (h : Hp) : Prop := gSlice (fr 5) fun a5 l5 c5 => gSlice (fr 8) fun a8 l8 c8 => gSlice (fr 12) fun a12 l12 c12 => gSlice (fr 14) fun a14 l14 c14 => gSlice (fr 16) fun a16 l16 c16 => gSlice (fr 19) fun a19 l19 c19 => gSlice (fr 22) fun a22 l22 c22 => gSlice (fr 25) fun a25 l25 c25 => gSlice (fr 31) fun a31 l31 c31 => gSlice (fr 34) fun a34 l34 c34 => D5.t R a5 l5 c5 a8 l8 c8 a12 l12 c12 a14 l14 c14 a16 l16 c16 a19 l19 c19 a22 l22 c22 a25 l25 c25 a31 l31 c31 a34 l34 c34 h
theorem D5.ok (R : Rt) (fr : Fr) (h : Hp) (g : D5.g R fr h) : den prog E (cAt C [true, true, true, true, true, true, true, true, true, true, true, true, true, true, true, true, true, true, true]) (retQ E [.tmp 4] R) fr h := by
  obtain ⟨a5, l5, c5, e5, g⟩ := gSlice_elim g
  obtain ⟨a8, l8, c8, e8, g⟩ := gSlice_elim g
  obtain ⟨a12, l12, c12, e12, g⟩ := gSlice_elim g
  obtain ⟨a14, l14, c14, e14, g⟩ := gSlice_elim g
  obtain ⟨a16, l16, c16, e16, g⟩ := gSlice_elim g
  obtain ⟨a19, l19, c19, e19, g⟩ := gSlice_elim g
  obtain ⟨a22, l22, c22, e22, g⟩ := gSlice_elim g
  obtain ⟨a25, l25, c25, e25, g⟩ := gSlice_elim g
  obtain ⟨a31, l31, c31, e31, g⟩ := gSlice_elim g
  obtain ⟨a34, l34, c34, e34, g⟩ := gSlice_elim g
  exact den_cut 3 (r := (cAt C [true, true, true, true, true, true, true, true, true, true, true, true, true, true, true, true, true, true, true, true, true, true])) (by kernel_rfl) (D6.ok R) (den_enter [(5, .slice a5 l5 c5), (8, .slice a8 l8 c8), (12, .slice a12 l12 c12), (14, .slice a14 l14 c14), (16, .slice a16 l16 c16), (19, .slice a19 l19 c19), (22, .slice a22 l22 c22), (25, .slice a25 l25 c25), (31, .slice a31 l31 c31), (34, .slice a34 l34 c34)] ⟨e5, e8, e12, e14, e16, e19, e22, e25, e31, e34, trivial⟩ (by kernel_rfl) g)
def D4.t (R : Rt) (a5 : Option Addr) (l5 : Nat) (c5 : Nat) (a8 : Option Addr) (l8 : Nat) (c8 : Nat) (a11 : Option Addr) (l11 : Nat) (c11 : Nat) (a12 : Option Addr) (l12 : Nat) (c12 : Nat) (a13 : Option Addr) (l13 : Nat) (c13 : Nat) (a14 : Option Addr) (l14 : Nat) (c14 : Nat) (q15 : Addr) (a16 : Option Addr) (l16 : Nat) (c16 : Nat) (a19 : Option Addr) (l19 : Nat) (c19 : Nat) (a22 : Option Addr) (l22 : Nat) (c22 : Nat) (a25 : Option Addr) (l25 : Nat) (c25 : Nat) (h : Hp) : Prop :=
  ldK h (q15.add 0) fun v189 =>
  gInt .i64 v189 fun x_190 =>
  ldK h (q15.add 1) fun v191 =>
  gSlice v191 fun a_192 l_192 c_192 =>
  ldK h (q15.add 2) fun v193 =>
  gSlice v193 fun a_194 l_194 c_194 =>
  ldK h (q15.add 3) fun v195 =>
  gInt .i64 v195 fun x_196 =>
  ldK h (q15.add 4) fun v197 =>
  gInt .u64 v197 fun x_198 =>
  HC gnomonlaw01_twin.id #[.agg #[.int .i64 x_190, .slice a_192 l_192 c_192, .slice a_194 l_194 c_194, .int .i64 x_196, .int .u64 x_198]] h fun v199 h200 =>
  gAgg v199 fun y201 =>
  uncons y201 fun v202 y202 =>
  gInt .i64 v202 fun x_203 =>
  uncons y202 fun v204 y204 =>
  gSlice v204 fun a_205 l_205 c_205 =>
  uncons y204 fun v206 y206 =>
  gSlice v206 fun a_207 l_207 c_207 =>
  uncons y206 fun v208 y208 =>
  gInt .i64 v208 fun x_209 =>
  uncons y208 fun v210 y210 =>
  gInt .u64 v210 fun x_211 =>
  unnil y210 <| boxK h200 43 T43.zs fun q212 h213 =>
  stK h213 (q212.add 0) (.int .i64 x_203) fun h214 =>
  stK h214 (q212.add 1) (.slice a_205 l_205 c_205) fun h215 =>
  stK h215 (q212.add 2) (.slice a_207 l_207 c_207) fun h216 =>
  stK h216 (q212.add 3) (.int .i64 x_209) fun h217 =>
  stK h217 (q212.add 4) (.int .u64 x_211) fun h218 =>
  ldK h218 (q212.add 0) fun v219 =>
  gInt .i64 v219 fun x_220 =>
  ldK h218 (q212.add 1) fun v221 =>
  gSlice v221 fun a_222 l_222 c_222 =>
  ldK h218 (q212.add 2) fun v223 =>
  gSlice v223 fun a_224 l_224 c_224 =>
  ldK h218 (q212.add 3) fun v225 =>
  gInt .i64 v225 fun x_226 =>
  ldK h218 (q212.add 4) fun v227 =>
  gInt .u64 v227 fun x_228 =>
  HC gnomonlaw01_doc.id #[.agg #[.int .i64 x_220, .slice a_222 l_222 c_222, .slice a_224 l_224 c_224, .int .i64 x_226, .int .u64 x_228]] h218 fun v229 h230 =>
  gTup v229 fun y231 =>
  uncons y231 fun v232 y232 =>
  gSlice v232 fun a_233 l_233 c_233 =>
  uncons y232 fun v234 y234 =>
  gInt .u64 v234 fun x_235 =>
  uncons y234 fun v236 y236 =>
  gInt .i64 v236 fun x_237 =>
  unnil y236 <| ldK h230 (q15.add 0) fun v238 =>
  gInt .i64 v238 fun x_239 =>
  ldK h230 (q15.add 1) fun v240 =>
  gSlice v240 fun a_241 l_241 c_241 =>
  ldK h230 (q15.add 2) fun v242 =>
  gSlice v242 fun a_243 l_243 c_243 =>
  ldK h230 (q15.add 3) fun v244 =>
  gInt .i64 v244 fun x_245 =>
  ldK h230 (q15.add 4) fun v246 =>
  gInt .u64 v246 fun x_247 =>
  HC gnomonlaw01_list.id #[.agg #[.int .i64 x_239, .slice a_241 l_241 c_241, .slice a_243 l_243 c_243, .int .i64 x_245, .int .u64 x_247]] h230 fun v248 h249 =>
  gTup v248 fun y250 =>
  uncons y250 fun v251 y251 =>
  gSlice v251 fun a_252 l_252 c_252 =>
  uncons y251 fun v253 y253 =>
  gInt .u64 v253 fun x_254 =>
  uncons y253 fun v255 y255 =>
  gInt .i64 v255 fun x_256 =>
  unnil y255 <| cond (x_256 != x_237) (R (.bool false) h249) (HQC gnomonref01_Same.id #[.slice a_252 l_252 c_252, .slice a_233 l_233 c_233] h249 fun v257 =>
  gBool v257 fun b_258 =>
  cond (!b_258) (R (.bool false) h249) (ldK h249 (q212.add 1) fun v259 =>
  gSlice v259 fun a_260 l_260 c_260 =>
  HQC gnomonref01_Same.id #[.slice a11 l11 c11, .slice a_260 l_260 c_260] h249 fun v261 =>
  gBool v261 fun b_262 =>
  cond (!b_262) (R (.bool false) h249) (ldK h249 (q212.add 2) fun v263 =>
  gSlice v263 fun a_264 l_264 c_264 =>
  HQC gnomonref01_Same.id #[.slice a13 l13 c13, .slice a_264 l_264 c_264] h249 fun v265 =>
  gBool v265 fun b_266 =>
  cond (!b_266) (R (.bool false) h249) (D5.t R a5 l5 c5 a8 l8 c8 a12 l12 c12 a14 l14 c14 a16 l16 c16 a19 l19 c19 a22 l22 c22 a25 l25 c25 a_233 l_233 c_233 a_252 l_252 c_252 h249))))
def D4.g (R : Rt) (fr : Fr) (h : Hp) : Prop := gSlice (fr 5) fun a5 l5 c5 => gSlice (fr 8) fun a8 l8 c8 => gSlice (fr 11) fun a11 l11 c11 => gSlice (fr 12) fun a12 l12 c12 => gSlice (fr 13) fun a13 l13 c13 => gSlice (fr 14) fun a14 l14 c14 => gPtrS (fr 15) fun q15 => gSlice (fr 16) fun a16 l16 c16 => gSlice (fr 19) fun a19 l19 c19 => gSlice (fr 22) fun a22 l22 c22 => gSlice (fr 25) fun a25 l25 c25 => D4.t R a5 l5 c5 a8 l8 c8 a11 l11 c11 a12 l12 c12 a13 l13 c13 a14 l14 c14 q15 a16 l16 c16 a19 l19 c19 a22 l22 c22 a25 l25 c25 h
theorem D4.ok (R : Rt) (fr : Fr) (h : Hp) (g : D4.g R fr h) : den prog E (cAt C [true, true, true, true, true, true, true, true, true, true, true, true, true, true, true]) (retQ E [.tmp 4] R) fr h := by
  obtain ⟨a5, l5, c5, e5, g⟩ := gSlice_elim g
  obtain ⟨a8, l8, c8, e8, g⟩ := gSlice_elim g
  obtain ⟨a11, l11, c11, e11, g⟩ := gSlice_elim g
  obtain ⟨a12, l12, c12, e12, g⟩ := gSlice_elim g
  obtain ⟨a13, l13, c13, e13, g⟩ := gSlice_elim g
  obtain ⟨a14, l14, c14, e14, g⟩ := gSlice_elim g
  obtain ⟨q15, e15, g⟩ := gPtrS_elim g
  obtain ⟨a16, l16, c16, e16, g⟩ := gSlice_elim g
  obtain ⟨a19, l19, c19, e19, g⟩ := gSlice_elim g
  obtain ⟨a22, l22, c22, e22, g⟩ := gSlice_elim g
  obtain ⟨a25, l25, c25, e25, g⟩ := gSlice_elim g
  exact den_cut 4 (r := (cAt C [true, true, true, true, true, true, true, true, true, true, true, true, true, true, true, true, true, true, true])) (by kernel_rfl) (D5.ok R) (den_enter [(5, .slice a5 l5 c5), (8, .slice a8 l8 c8), (11, .slice a11 l11 c11), (12, .slice a12 l12 c12), (13, .slice a13 l13 c13), (14, .slice a14 l14 c14), (15, .pointer (some q15)), (16, .slice a16 l16 c16), (19, .slice a19 l19 c19), (22, .slice a22 l22 c22), (25, .slice a25 l25 c25)] ⟨e5, e8, e11, e12, e13, e14, e15, e16, e19, e22, e25, trivial⟩ (by kernel_rfl) g)
def L8.g (N : Option Addr → Nat → Nat → Option Addr → Nat → Nat → Option Addr → Nat → Nat → Option Addr → Nat → Nat → Option Addr → Nat → Nat → Option Addr → Nat → Nat → Addr → Option Addr → Nat → Nat → Option Addr → Nat → Nat → Option Addr → Nat → Nat → Option Addr → Nat → Nat → Int → Hp → Prop) (fr : Fr) (h : Hp) : Prop := gSlice (fr 5) fun a5 l5 c5 => gSlice (fr 8) fun a8 l8 c8 => gSlice (fr 11) fun a11 l11 c11 => gSlice (fr 12) fun a12 l12 c12 => gSlice (fr 13) fun a13 l13 c13 => gSlice (fr 14) fun a14 l14 c14 => gPtrS (fr 15) fun q15 => gSlice (fr 16) fun a16 l16 c16 => gSlice (fr 19) fun a19 l19 c19 => gSlice (fr 22) fun a22 l22 c22 => gSlice (fr 25) fun a25 l25 c25 => gInt .i64 (fr 29) fun x29 => N a5 l5 c5 a8 l8 c8 a11 l11 c11 a12 l12 c12 a13 l13 c13 a14 l14 c14 q15 a16 l16 c16 a19 l19 c19 a22 l22 c22 a25 l25 c25 x29 h
def D9.t (R : Rt) (N8 : Option Addr → Nat → Nat → Option Addr → Nat → Nat → Option Addr → Nat → Nat → Option Addr → Nat → Nat → Option Addr → Nat → Nat → Option Addr → Nat → Nat → Addr → Option Addr → Nat → Nat → Option Addr → Nat → Nat → Option Addr → Nat → Nat → Option Addr → Nat → Nat → Int → Hp → Prop) (a5 : Option Addr) (l5 : Nat) (c5 : Nat) (a8 : Option Addr) (l8 : Nat) (c8 : Nat) (a11 : Option Addr) (l11 : Nat) (c11 : Nat) (a12 : Option Addr) (l12 : Nat) (c12 : Nat) (a13 : Option Addr) (l13 : Nat) (c13 : Nat) (a14 : Option Addr) (l14 : Nat) (c14 : Nat) (q15 : Addr) (a16 : Option Addr) (l16 : Nat) (c16 : Nat) (a19 : Option Addr) (l19 : Nat) (c19 : Nat) (a22 : Option Addr) (l22 : Nat) (c22 : Nat) (a25 : Option Addr) (l25 : Nat) (c25 : Nat) (x29 : Int) (h : Hp) : Prop :=
  cond (decide (x29 < (((l13 : Nat) : Int)))) (idxK a13 l13 x29 1 fun q288 =>
  ldK h q288 fun v289 =>
  gInt .u64 v289 fun x_290 =>
  (3 : Int) ≠ 0 ∧ letK (IntKind.u64.wrap (Int.tdiv x_290 3)) fun n291 =>
  letK (IntKind.u64.wrap (n291 + 1)) fun n292 =>
  idxK a13 l13 x29 1 fun q293 =>
  stK h q293 (.int .u64 n292) fun h294 =>
  letK (IntKind.i64.wrap (x29 + 1)) fun n295 =>
  N8 a5 l5 c5 a8 l8 c8 a11 l11 c11 a12 l12 c12 a13 l13 c13 a14 l14 c14 q15 a16 l16 c16 a19 l19 c19 a22 l22 c22 a25 l25 c25 n295 h294) (D4.t R a5 l5 c5 a8 l8 c8 a11 l11 c11 a12 l12 c12 a13 l13 c13 a14 l14 c14 q15 a16 l16 c16 a19 l19 c19 a22 l22 c22 a25 l25 c25 h)
def D9.g (R : Rt) (N8 : Option Addr → Nat → Nat → Option Addr → Nat → Nat → Option Addr → Nat → Nat → Option Addr → Nat → Nat → Option Addr → Nat → Nat → Option Addr → Nat → Nat → Addr → Option Addr → Nat → Nat → Option Addr → Nat → Nat → Option Addr → Nat → Nat → Option Addr → Nat → Nat → Int → Hp → Prop) (fr : Fr) (h : Hp) : Prop := gSlice (fr 5) fun a5 l5 c5 => gSlice (fr 8) fun a8 l8 c8 => gSlice (fr 11) fun a11 l11 c11 => gSlice (fr 12) fun a12 l12 c12 => gSlice (fr 13) fun a13 l13 c13 => gSlice (fr 14) fun a14 l14 c14 => gPtrS (fr 15) fun q15 => gSlice (fr 16) fun a16 l16 c16 => gSlice (fr 19) fun a19 l19 c19 => gSlice (fr 22) fun a22 l22 c22 => gSlice (fr 25) fun a25 l25 c25 => gInt .i64 (fr 29) fun x29 => D9.t R N8 a5 l5 c5 a8 l8 c8 a11 l11 c11 a12 l12 c12 a13 l13 c13 a14 l14 c14 q15 a16 l16 c16 a19 l19 c19 a22 l22 c22 a25 l25 c25 x29 h
theorem D9.ok (R : Rt) (N8 : Option Addr → Nat → Nat → Option Addr → Nat → Nat → Option Addr → Nat → Nat → Option Addr → Nat → Nat → Option Addr → Nat → Nat → Option Addr → Nat → Nat → Addr → Option Addr → Nat → Nat → Option Addr → Nat → Nat → Option Addr → Nat → Nat → Option Addr → Nat → Nat → Int → Hp → Prop) (fr : Fr) (h : Hp) (g : D9.g R N8 fr h) : den prog E (cAt C [true, true, true, true, true, true, true, true, true, true, true, true, true, true, false, true, false, false]) (Ex.then (L8.g N8) (Ex.inBlock 2 (Ex.then (D4.g R) (retQ E [.tmp 4] R)))) fr h := by
  obtain ⟨a5, l5, c5, e5, g⟩ := gSlice_elim g
  obtain ⟨a8, l8, c8, e8, g⟩ := gSlice_elim g
  obtain ⟨a11, l11, c11, e11, g⟩ := gSlice_elim g
  obtain ⟨a12, l12, c12, e12, g⟩ := gSlice_elim g
  obtain ⟨a13, l13, c13, e13, g⟩ := gSlice_elim g
  obtain ⟨a14, l14, c14, e14, g⟩ := gSlice_elim g
  obtain ⟨q15, e15, g⟩ := gPtrS_elim g
  obtain ⟨a16, l16, c16, e16, g⟩ := gSlice_elim g
  obtain ⟨a19, l19, c19, e19, g⟩ := gSlice_elim g
  obtain ⟨a22, l22, c22, e22, g⟩ := gSlice_elim g
  obtain ⟨a25, l25, c25, e25, g⟩ := gSlice_elim g
  obtain ⟨x29, e29, g⟩ := gInt_elim g
  exact den_enter [(5, .slice a5 l5 c5), (8, .slice a8 l8 c8), (11, .slice a11 l11 c11), (12, .slice a12 l12 c12), (13, .slice a13 l13 c13), (14, .slice a14 l14 c14), (15, .pointer (some q15)), (16, .slice a16 l16 c16), (19, .slice a19 l19 c19), (22, .slice a22 l22 c22), (25, .slice a25 l25 c25), (29, .int .i64 x29)] ⟨e5, e8, e11, e12, e13, e14, e15, e16, e19, e22, e25, e29, trivial⟩ (by kernel_rfl) g
def L8.t (R : Rt) : Nat → Option Addr → Nat → Nat → Option Addr → Nat → Nat → Option Addr → Nat → Nat → Option Addr → Nat → Nat → Option Addr → Nat → Nat → Option Addr → Nat → Nat → Addr → Option Addr → Nat → Nat → Option Addr → Nat → Nat → Option Addr → Nat → Nat → Option Addr → Nat → Nat → Int → Hp → Prop
  | 0 => fun _ _ _ _ _ _ _ _ _ _ _ _ _ _ _ _ _ _ _ _ _ _ _ _ _ _ _ _ _ _ _ _ _ => False
  | n + 1 => fun a5 l5 c5 a8 l8 c8 a11 l11 c11 a12 l12 c12 a13 l13 c13 a14 l14 c14 q15 a16 l16 c16 a19 l19 c19 a22 l22 c22 a25 l25 c25 x29 h => D9.t R (L8.t R n) a5 l5 c5 a8 l8 c8 a11 l11 c11 a12 l12 c12 a13 l13 c13 a14 l14 c14 q15 a16 l16 c16 a19 l19 c19 a22 l22 c22 a25 l25 c25 x29 h
theorem L8.ok (R : Rt) (fr : Fr) (h : Hp) (g : L8.g (fun a5 l5 c5 a8 l8 c8 a11 l11 c11 a12 l12 c12 a13 l13 c13 a14 l14 c14 q15 a16 l16 c16 a19 l19 c19 a22 l22 c22 a25 l25 c25 x29 h => ∃ n, L8.t R n a5 l5 c5 a8 l8 c8 a11 l11 c11 a12 l12 c12 a13 l13 c13 a14 l14 c14 q15 a16 l16 c16 a19 l19 c19 a22 l22 c22 a25 l25 c25 x29 h) fr h) : den prog E (cAt C [true, true, true, true, true, true, true, true, true, true, true, true, true, true, false, true, false]) (Ex.inBlock 2 (Ex.then (D4.g R) (retQ E [.tmp 4] R))) fr h := by
  obtain ⟨a5, l5, c5, e5, g⟩ := gSlice_elim g
  obtain ⟨a8, l8, c8, e8, g⟩ := gSlice_elim g
  obtain ⟨a11, l11, c11, e11, g⟩ := gSlice_elim g
  obtain ⟨a12, l12, c12, e12, g⟩ := gSlice_elim g
  obtain ⟨a13, l13, c13, e13, g⟩ := gSlice_elim g
  obtain ⟨a14, l14, c14, e14, g⟩ := gSlice_elim g
  obtain ⟨q15, e15, g⟩ := gPtrS_elim g
  obtain ⟨a16, l16, c16, e16, g⟩ := gSlice_elim g
  obtain ⟨a19, l19, c19, e19, g⟩ := gSlice_elim g
  obtain ⟨a22, l22, c22, e22, g⟩ := gSlice_elim g
  obtain ⟨a25, l25, c25, e25, g⟩ := gSlice_elim g
  obtain ⟨x29, e29, g⟩ := gInt_elim g
  obtain ⟨n, g⟩ := g
  refine loop_ok (fun n => L8.g (L8.t R n)) (b := (cAt C [true, true, true, true, true, true, true, true, true, true, true, true, true, true, false, true, false, false])) (by kernel_rfl) (fun fr h g => ?_) (fun n => D9.ok R (L8.t R n)) n fr h (gSlice_intro e5 (gSlice_intro e8 (gSlice_intro e11 (gSlice_intro e12 (gSlice_intro e13 (gSlice_intro e14 (gPtrS_intro e15 (gSlice_intro e16 (gSlice_intro e19 (gSlice_intro e22 (gSlice_intro e25 (gInt_intro e29 (g)))))))))))))
  obtain ⟨a5, l5, c5, e5, g⟩ := gSlice_elim g
  obtain ⟨a8, l8, c8, e8, g⟩ := gSlice_elim g
  obtain ⟨a11, l11, c11, e11, g⟩ := gSlice_elim g
  obtain ⟨a12, l12, c12, e12, g⟩ := gSlice_elim g
  obtain ⟨a13, l13, c13, e13, g⟩ := gSlice_elim g
  obtain ⟨a14, l14, c14, e14, g⟩ := gSlice_elim g
  obtain ⟨q15, e15, g⟩ := gPtrS_elim g
  obtain ⟨a16, l16, c16, e16, g⟩ := gSlice_elim g
  obtain ⟨a19, l19, c19, e19, g⟩ := gSlice_elim g
  obtain ⟨a22, l22, c22, e22, g⟩ := gSlice_elim g
  obtain ⟨a25, l25, c25, e25, g⟩ := gSlice_elim g
  obtain ⟨x29, e29, g⟩ := gInt_elim g
  exact g
theorem B10.ok (R : Rt) (fr : Fr) (h : Hp) (g : L8.g (fun a5 l5 c5 a8 l8 c8 a11 l11 c11 a12 l12 c12 a13 l13 c13 a14 l14 c14 q15 a16 l16 c16 a19 l19 c19 a22 l22 c22 a25 l25 c25 x29 h => ∃ n, L8.t R n a5 l5 c5 a8 l8 c8 a11 l11 c11 a12 l12 c12 a13 l13 c13 a14 l14 c14 q15 a16 l16 c16 a19 l19 c19 a22 l22 c22 a25 l25 c25 x29 h) fr h) : den prog E (cAt C [true, true, true, true, true, true, true, true, true, true, true, true, true, true, false, true]) (Ex.then (D4.g R) (retQ E [.tmp 4] R)) fr h :=
  den_block (by kernel_rfl) (L8.ok R fr h g)
def D7.t (R : Rt) (a5 : Option Addr) (l5 : Nat) (c5 : Nat) (a8 : Option Addr) (l8 : Nat) (c8 : Nat) (a11 : Option Addr) (l11 : Nat) (c11 : Nat) (a12 : Option Addr) (l12 : Nat) (c12 : Nat) (a13 : Option Addr) (l13 : Nat) (c13 : Nat) (a14 : Option Addr) (l14 : Nat) (c14 : Nat) (q15 : Addr) (a16 : Option Addr) (l16 : Nat) (c16 : Nat) (a19 : Option Addr) (l19 : Nat) (c19 : Nat) (a22 : Option Addr) (l22 : Nat) (c22 : Nat) (a25 : Option Addr) (l25 : Nat) (c25 : Nat) (h : Hp) : Prop :=
  (∃ n, L8.t R n a5 l5 c5 a8 l8 c8 a11 l11 c11 a12 l12 c12 a13 l13 c13 a14 l14 c14 q15 a16 l16 c16 a19 l19 c19 a22 l22 c22 a25 l25 c25 0 h)
def D7.g (R : Rt) (fr : Fr) (h : Hp) : Prop := gSlice (fr 5) fun a5 l5 c5 => gSlice (fr 8) fun a8 l8 c8 => gSlice (fr 11) fun a11 l11 c11 => gSlice (fr 12) fun a12 l12 c12 => gSlice (fr 13) fun a13 l13 c13 => gSlice (fr 14) fun a14 l14 c14 => gPtrS (fr 15) fun q15 => gSlice (fr 16) fun a16 l16 c16 => gSlice (fr 19) fun a19 l19 c19 => gSlice (fr 22) fun a22 l22 c22 => gSlice (fr 25) fun a25 l25 c25 => D7.t R a5 l5 c5 a8 l8 c8 a11 l11 c11 a12 l12 c12 a13 l13 c13 a14 l14 c14 q15 a16 l16 c16 a19 l19 c19 a22 l22 c22 a25 l25 c25 h
theorem D7.ok (R : Rt) (fr : Fr) (h : Hp) (g : D7.g R fr h) : den prog E (cAt C [true, true, true, true, true, true, true, true, true, true, true, true, true, true, false]) (Ex.then (D4.g R) (retQ E [.tmp 4] R)) fr h := by
  obtain ⟨a5, l5, c5, e5, g⟩ := gSlice_elim g
  obtain ⟨a8, l8, c8, e8, g⟩ := gSlice_elim g
  obtain ⟨a11, l11, c11, e11, g⟩ := gSlice_elim g
  obtain ⟨a12, l12, c12, e12, g⟩ := gSlice_elim g
  obtain ⟨a13, l13, c13, e13, g⟩ := gSlice_elim g
  obtain ⟨a14, l14, c14, e14, g⟩ := gSlice_elim g
  obtain ⟨q15, e15, g⟩ := gPtrS_elim g
  obtain ⟨a16, l16, c16, e16, g⟩ := gSlice_elim g
  obtain ⟨a19, l19, c19, e19, g⟩ := gSlice_elim g
  obtain ⟨a22, l22, c22, e22, g⟩ := gSlice_elim g
  obtain ⟨a25, l25, c25, e25, g⟩ := gSlice_elim g
  exact den_cut 1 (r := (cAt C [true, true, true, true, true, true, true, true, true, true, true, true, true, true, false, true])) (by kernel_rfl) (B10.ok R) (den_enter [(5, .slice a5 l5 c5), (8, .slice a8 l8 c8), (11, .slice a11 l11 c11), (12, .slice a12 l12 c12), (13, .slice a13 l13 c13), (14, .slice a14 l14 c14), (15, .pointer (some q15)), (16, .slice a16 l16 c16), (19, .slice a19 l19 c19), (22, .slice a22 l22 c22), (25, .slice a25 l25 c25)] ⟨e5, e8, e11, e12, e13, e14, e15, e16, e19, e22, e25, trivial⟩ (by kernel_rfl) g)
theorem W11.ok (R : Rt) (fr : Fr) (h : Hp) (g : D7.g R fr h) : den prog E (cAt C [true, true, true, true, true, true, true, true, true, true, true, true, true, true]) (retQ E [.tmp 4] R) fr h :=
  den_then (by kernel_rfl) (D4.ok R) (D7.ok R fr h g)
def L13.g (N : Option Addr → Nat → Nat → Option Addr → Nat → Nat → Option Addr → Nat → Nat → Option Addr → Nat → Nat → Option Addr → Nat → Nat → Option Addr → Nat → Nat → Addr → Option Addr → Nat → Nat → Option Addr → Nat → Nat → Option Addr → Nat → Nat → Option Addr → Nat → Nat → Int → Hp → Prop) (fr : Fr) (h : Hp) : Prop := gSlice (fr 5) fun a5 l5 c5 => gSlice (fr 8) fun a8 l8 c8 => gSlice (fr 11) fun a11 l11 c11 => gSlice (fr 12) fun a12 l12 c12 => gSlice (fr 13) fun a13 l13 c13 => gSlice (fr 14) fun a14 l14 c14 => gPtrS (fr 15) fun q15 => gSlice (fr 16) fun a16 l16 c16 => gSlice (fr 19) fun a19 l19 c19 => gSlice (fr 22) fun a22 l22 c22 => gSlice (fr 25) fun a25 l25 c25 => gInt .i64 (fr 28) fun x28 => N a5 l5 c5 a8 l8 c8 a11 l11 c11 a12 l12 c12 a13 l13 c13 a14 l14 c14 q15 a16 l16 c16 a19 l19 c19 a22 l22 c22 a25 l25 c25 x28 h
def D14.t (R : Rt) (N13 : Option Addr → Nat → Nat → Option Addr → Nat → Nat → Option Addr → Nat → Nat → Option Addr → Nat → Nat → Option Addr → Nat → Nat → Option Addr → Nat → Nat → Addr → Option Addr → Nat → Nat → Option Addr → Nat → Nat → Option Addr → Nat → Nat → Option Addr → Nat → Nat → Int → Hp → Prop) (a5 : Option Addr) (l5 : Nat) (c5 : Nat) (a8 : Option Addr) (l8 : Nat) (c8 : Nat) (a11 : Option Addr) (l11 : Nat) (c11 : Nat) (a12 : Option Addr) (l12 : Nat) (c12 : Nat) (a13 : Option Addr) (l13 : Nat) (c13 : Nat) (a14 : Option Addr) (l14 : Nat) (c14 : Nat) (q15 : Addr) (a16 : Option Addr) (l16 : Nat) (c16 : Nat) (a19 : Option Addr) (l19 : Nat) (c19 : Nat) (a22 : Option Addr) (l22 : Nat) (c22 : Nat) (a25 : Option Addr) (l25 : Nat) (c25 : Nat) (x28 : Int) (h : Hp) : Prop :=
  cond (decide (x28 < (((l11 : Nat) : Int)))) (idxK a11 l11 x28 1 fun q296 =>
  ldK h q296 fun v297 =>
  gInt .u64 v297 fun x_298 =>
  (2 : Int) ≠ 0 ∧ letK (IntKind.u64.wrap (Int.tdiv x_298 2)) fun n299 =>
  letK (IntKind.u64.wrap (n299 + 1)) fun n300 =>
  idxK a11 l11 x28 1 fun q301 =>
  stK h q301 (.int .u64 n300) fun h302 =>
  letK (IntKind.i64.wrap (x28 + 1)) fun n303 =>
  N13 a5 l5 c5 a8 l8 c8 a11 l11 c11 a12 l12 c12 a13 l13 c13 a14 l14 c14 q15 a16 l16 c16 a19 l19 c19 a22 l22 c22 a25 l25 c25 n303 h302) (D7.t R a5 l5 c5 a8 l8 c8 a11 l11 c11 a12 l12 c12 a13 l13 c13 a14 l14 c14 q15 a16 l16 c16 a19 l19 c19 a22 l22 c22 a25 l25 c25 h)
def D14.g (R : Rt) (N13 : Option Addr → Nat → Nat → Option Addr → Nat → Nat → Option Addr → Nat → Nat → Option Addr → Nat → Nat → Option Addr → Nat → Nat → Option Addr → Nat → Nat → Addr → Option Addr → Nat → Nat → Option Addr → Nat → Nat → Option Addr → Nat → Nat → Option Addr → Nat → Nat → Int → Hp → Prop) (fr : Fr) (h : Hp) : Prop := gSlice (fr 5) fun a5 l5 c5 => gSlice (fr 8) fun a8 l8 c8 => gSlice (fr 11) fun a11 l11 c11 => gSlice (fr 12) fun a12 l12 c12 => gSlice (fr 13) fun a13 l13 c13 => gSlice (fr 14) fun a14 l14 c14 => gPtrS (fr 15) fun q15 => gSlice (fr 16) fun a16 l16 c16 => gSlice (fr 19) fun a19 l19 c19 => gSlice (fr 22) fun a22 l22 c22 => gSlice (fr 25) fun a25 l25 c25 => gInt .i64 (fr 28) fun x28 => D14.t R N13 a5 l5 c5 a8 l8 c8 a11 l11 c11 a12 l12 c12 a13 l13 c13 a14 l14 c14 q15 a16 l16 c16 a19 l19 c19 a22 l22 c22 a25 l25 c25 x28 h
theorem D14.ok (R : Rt) (N13 : Option Addr → Nat → Nat → Option Addr → Nat → Nat → Option Addr → Nat → Nat → Option Addr → Nat → Nat → Option Addr → Nat → Nat → Option Addr → Nat → Nat → Addr → Option Addr → Nat → Nat → Option Addr → Nat → Nat → Option Addr → Nat → Nat → Option Addr → Nat → Nat → Int → Hp → Prop) (fr : Fr) (h : Hp) (g : D14.g R N13 fr h) : den prog E (cAt C [true, true, true, true, true, true, true, true, true, true, true, true, true, false, true, false, false]) (Ex.then (L13.g N13) (Ex.inBlock 0 (Ex.then (D7.g R) (retQ E [.tmp 4] R)))) fr h := by
  obtain ⟨a5, l5, c5, e5, g⟩ := gSlice_elim g
  obtain ⟨a8, l8, c8, e8, g⟩ := gSlice_elim g
  obtain ⟨a11, l11, c11, e11, g⟩ := gSlice_elim g
  obtain ⟨a12, l12, c12, e12, g⟩ := gSlice_elim g
  obtain ⟨a13, l13, c13, e13, g⟩ := gSlice_elim g
  obtain ⟨a14, l14, c14, e14, g⟩ := gSlice_elim g
  obtain ⟨q15, e15, g⟩ := gPtrS_elim g
  obtain ⟨a16, l16, c16, e16, g⟩ := gSlice_elim g
  obtain ⟨a19, l19, c19, e19, g⟩ := gSlice_elim g
  obtain ⟨a22, l22, c22, e22, g⟩ := gSlice_elim g
  obtain ⟨a25, l25, c25, e25, g⟩ := gSlice_elim g
  obtain ⟨x28, e28, g⟩ := gInt_elim g
  exact den_enter [(5, .slice a5 l5 c5), (8, .slice a8 l8 c8), (11, .slice a11 l11 c11), (12, .slice a12 l12 c12), (13, .slice a13 l13 c13), (14, .slice a14 l14 c14), (15, .pointer (some q15)), (16, .slice a16 l16 c16), (19, .slice a19 l19 c19), (22, .slice a22 l22 c22), (25, .slice a25 l25 c25), (28, .int .i64 x28)] ⟨e5, e8, e11, e12, e13, e14, e15, e16, e19, e22, e25, e28, trivial⟩ (by kernel_rfl) g
def L13.t (R : Rt) : Nat → Option Addr → Nat → Nat → Option Addr → Nat → Nat → Option Addr → Nat → Nat → Option Addr → Nat → Nat → Option Addr → Nat → Nat → Option Addr → Nat → Nat → Addr → Option Addr → Nat → Nat → Option Addr → Nat → Nat → Option Addr → Nat → Nat → Option Addr → Nat → Nat → Int → Hp → Prop
  | 0 => fun _ _ _ _ _ _ _ _ _ _ _ _ _ _ _ _ _ _ _ _ _ _ _ _ _ _ _ _ _ _ _ _ _ => False
  | n + 1 => fun a5 l5 c5 a8 l8 c8 a11 l11 c11 a12 l12 c12 a13 l13 c13 a14 l14 c14 q15 a16 l16 c16 a19 l19 c19 a22 l22 c22 a25 l25 c25 x28 h => D14.t R (L13.t R n) a5 l5 c5 a8 l8 c8 a11 l11 c11 a12 l12 c12 a13 l13 c13 a14 l14 c14 q15 a16 l16 c16 a19 l19 c19 a22 l22 c22 a25 l25 c25 x28 h
theorem L13.ok (R : Rt) (fr : Fr) (h : Hp) (g : L13.g (fun a5 l5 c5 a8 l8 c8 a11 l11 c11 a12 l12 c12 a13 l13 c13 a14 l14 c14 q15 a16 l16 c16 a19 l19 c19 a22 l22 c22 a25 l25 c25 x28 h => ∃ n, L13.t R n a5 l5 c5 a8 l8 c8 a11 l11 c11 a12 l12 c12 a13 l13 c13 a14 l14 c14 q15 a16 l16 c16 a19 l19 c19 a22 l22 c22 a25 l25 c25 x28 h) fr h) : den prog E (cAt C [true, true, true, true, true, true, true, true, true, true, true, true, true, false, true, false]) (Ex.inBlock 0 (Ex.then (D7.g R) (retQ E [.tmp 4] R))) fr h := by
  obtain ⟨a5, l5, c5, e5, g⟩ := gSlice_elim g
  obtain ⟨a8, l8, c8, e8, g⟩ := gSlice_elim g
  obtain ⟨a11, l11, c11, e11, g⟩ := gSlice_elim g
  obtain ⟨a12, l12, c12, e12, g⟩ := gSlice_elim g
  obtain ⟨a13, l13, c13, e13, g⟩ := gSlice_elim g
  obtain ⟨a14, l14, c14, e14, g⟩ := gSlice_elim g
  obtain ⟨q15, e15, g⟩ := gPtrS_elim g
  obtain ⟨a16, l16, c16, e16, g⟩ := gSlice_elim g
  obtain ⟨a19, l19, c19, e19, g⟩ := gSlice_elim g
  obtain ⟨a22, l22, c22, e22, g⟩ := gSlice_elim g
  obtain ⟨a25, l25, c25, e25, g⟩ := gSlice_elim g
  obtain ⟨x28, e28, g⟩ := gInt_elim g
  obtain ⟨n, g⟩ := g
  refine loop_ok (fun n => L13.g (L13.t R n)) (b := (cAt C [true, true, true, true, true, true, true, true, true, true, true, true, true, false, true, false, false])) (by kernel_rfl) (fun fr h g => ?_) (fun n => D14.ok R (L13.t R n)) n fr h (gSlice_intro e5 (gSlice_intro e8 (gSlice_intro e11 (gSlice_intro e12 (gSlice_intro e13 (gSlice_intro e14 (gPtrS_intro e15 (gSlice_intro e16 (gSlice_intro e19 (gSlice_intro e22 (gSlice_intro e25 (gInt_intro e28 (g)))))))))))))
  obtain ⟨a5, l5, c5, e5, g⟩ := gSlice_elim g
  obtain ⟨a8, l8, c8, e8, g⟩ := gSlice_elim g
  obtain ⟨a11, l11, c11, e11, g⟩ := gSlice_elim g
  obtain ⟨a12, l12, c12, e12, g⟩ := gSlice_elim g
  obtain ⟨a13, l13, c13, e13, g⟩ := gSlice_elim g
  obtain ⟨a14, l14, c14, e14, g⟩ := gSlice_elim g
  obtain ⟨q15, e15, g⟩ := gPtrS_elim g
  obtain ⟨a16, l16, c16, e16, g⟩ := gSlice_elim g
  obtain ⟨a19, l19, c19, e19, g⟩ := gSlice_elim g
  obtain ⟨a22, l22, c22, e22, g⟩ := gSlice_elim g
  obtain ⟨a25, l25, c25, e25, g⟩ := gSlice_elim g
  obtain ⟨x28, e28, g⟩ := gInt_elim g
  exact g
theorem B15.ok (R : Rt) (fr : Fr) (h : Hp) (g : L13.g (fun a5 l5 c5 a8 l8 c8 a11 l11 c11 a12 l12 c12 a13 l13 c13 a14 l14 c14 q15 a16 l16 c16 a19 l19 c19 a22 l22 c22 a25 l25 c25 x28 h => ∃ n, L13.t R n a5 l5 c5 a8 l8 c8 a11 l11 c11 a12 l12 c12 a13 l13 c13 a14 l14 c14 q15 a16 l16 c16 a19 l19 c19 a22 l22 c22 a25 l25 c25 x28 h) fr h) : den prog E (cAt C [true, true, true, true, true, true, true, true, true, true, true, true, true, false, true]) (Ex.then (D7.g R) (retQ E [.tmp 4] R)) fr h :=
  den_block (by kernel_rfl) (L13.ok R fr h g)
def D12.t (R : Rt) (a5 : Option Addr) (l5 : Nat) (c5 : Nat) (a8 : Option Addr) (l8 : Nat) (c8 : Nat) (a11 : Option Addr) (l11 : Nat) (c11 : Nat) (a12 : Option Addr) (l12 : Nat) (c12 : Nat) (a13 : Option Addr) (l13 : Nat) (c13 : Nat) (a14 : Option Addr) (l14 : Nat) (c14 : Nat) (q15 : Addr) (a16 : Option Addr) (l16 : Nat) (c16 : Nat) (a19 : Option Addr) (l19 : Nat) (c19 : Nat) (a22 : Option Addr) (l22 : Nat) (c22 : Nat) (a25 : Option Addr) (l25 : Nat) (c25 : Nat) (h : Hp) : Prop :=
  (∃ n, L13.t R n a5 l5 c5 a8 l8 c8 a11 l11 c11 a12 l12 c12 a13 l13 c13 a14 l14 c14 q15 a16 l16 c16 a19 l19 c19 a22 l22 c22 a25 l25 c25 0 h)
def D12.g (R : Rt) (fr : Fr) (h : Hp) : Prop := gSlice (fr 5) fun a5 l5 c5 => gSlice (fr 8) fun a8 l8 c8 => gSlice (fr 11) fun a11 l11 c11 => gSlice (fr 12) fun a12 l12 c12 => gSlice (fr 13) fun a13 l13 c13 => gSlice (fr 14) fun a14 l14 c14 => gPtrS (fr 15) fun q15 => gSlice (fr 16) fun a16 l16 c16 => gSlice (fr 19) fun a19 l19 c19 => gSlice (fr 22) fun a22 l22 c22 => gSlice (fr 25) fun a25 l25 c25 => D12.t R a5 l5 c5 a8 l8 c8 a11 l11 c11 a12 l12 c12 a13 l13 c13 a14 l14 c14 q15 a16 l16 c16 a19 l19 c19 a22 l22 c22 a25 l25 c25 h
theorem D12.ok (R : Rt) (fr : Fr) (h : Hp) (g : D12.g R fr h) : den prog E (cAt C [true, true, true, true, true, true, true, true, true, true, true, true, true, false]) (Ex.then (D7.g R) (retQ E [.tmp 4] R)) fr h := by
  obtain ⟨a5, l5, c5, e5, g⟩ := gSlice_elim g
  obtain ⟨a8, l8, c8, e8, g⟩ := gSlice_elim g
  obtain ⟨a11, l11, c11, e11, g⟩ := gSlice_elim g
  obtain ⟨a12, l12, c12, e12, g⟩ := gSlice_elim g
  obtain ⟨a13, l13, c13, e13, g⟩ := gSlice_elim g
  obtain ⟨a14, l14, c14, e14, g⟩ := gSlice_elim g
  obtain ⟨q15, e15, g⟩ := gPtrS_elim g
  obtain ⟨a16, l16, c16, e16, g⟩ := gSlice_elim g
  obtain ⟨a19, l19, c19, e19, g⟩ := gSlice_elim g
  obtain ⟨a22, l22, c22, e22, g⟩ := gSlice_elim g
  obtain ⟨a25, l25, c25, e25, g⟩ := gSlice_elim g
  exact den_cut 1 (r := (cAt C [true, true, true, true, true, true, true, true, true, true, true, true, true, false, true])) (by kernel_rfl) (B15.ok R) (den_enter [(5, .slice a5 l5 c5), (8, .slice a8 l8 c8), (11, .slice a11 l11 c11), (12, .slice a12 l12 c12), (13, .slice a13 l13 c13), (14, .slice a14 l14 c14), (15, .pointer (some q15)), (16, .slice a16 l16 c16), (19, .slice a19 l19 c19), (22, .slice a22 l22 c22), (25, .slice a25 l25 c25)] ⟨e5, e8, e11, e12, e13, e14, e15, e16, e19, e22, e25, trivial⟩ (by kernel_rfl) g)
theorem W16.ok (R : Rt) (fr : Fr) (h : Hp) (g : D12.g R fr h) : den prog E (cAt C [true, true, true, true, true, true, true, true, true, true, true, true, true]) (retQ E [.tmp 4] R) fr h :=
  den_then (by kernel_rfl) (W11.ok R) (D12.ok R fr h g)
def D3.t (R : Rt) (a5 : Option Addr) (l5 : Nat) (c5 : Nat) (a8 : Option Addr) (l8 : Nat) (c8 : Nat) (a11 : Option Addr) (l11 : Nat) (c11 : Nat) (a12 : Option Addr) (l12 : Nat) (c12 : Nat) (a13 : Option Addr) (l13 : Nat) (c13 : Nat) (a14 : Option Addr) (l14 : Nat) (c14 : Nat) (q15 : Addr) (a16 : Option Addr) (l16 : Nat) (c16 : Nat) (a19 : Option Addr) (l19 : Nat) (c19 : Nat) (a22 : Option Addr) (l22 : Nat) (c22 : Nat) (a25 : Option Addr) (l25 : Nat) (c25 : Nat) (h : Hp) : Prop :=
  HQC gnomonref01_Same.id #[.slice a16 l16 c16, .slice a5 l5 c5] h fun v181 =>
  gBool v181 fun b_182 =>
  cond (!b_182) (R (.bool false) h) (HQC gnomonref01_Same.id #[.slice a19 l19 c19, .slice a5 l5 c5] h fun v183 =>
  gBool v183 fun b_184 =>
  cond (!b_184) (R (.bool false) h) (HQC gnomonref01_Same.id #[.slice a22 l22 c22, .slice a8 l8 c8] h fun v185 =>
  gBool v185 fun b_186 =>
  cond (!b_186) (R (.bool false) h) (HQC gnomonref01_Same.id #[.slice a25 l25 c25, .slice a5 l5 c5] h fun v187 =>
  gBool v187 fun b_188 =>
  cond (!b_188) (R (.bool false) h) (D12.t R a5 l5 c5 a8 l8 c8 a11 l11 c11 a12 l12 c12 a13 l13 c13 a14 l14 c14 q15 a16 l16 c16 a19 l19 c19 a22 l22 c22 a25 l25 c25 h))))
def D3.g (R : Rt) (fr : Fr) (h : Hp) : Prop := gSlice (fr 5) fun a5 l5 c5 => gSlice (fr 8) fun a8 l8 c8 => gSlice (fr 11) fun a11 l11 c11 => gSlice (fr 12) fun a12 l12 c12 => gSlice (fr 13) fun a13 l13 c13 => gSlice (fr 14) fun a14 l14 c14 => gPtrS (fr 15) fun q15 => gSlice (fr 16) fun a16 l16 c16 => gSlice (fr 19) fun a19 l19 c19 => gSlice (fr 22) fun a22 l22 c22 => gSlice (fr 25) fun a25 l25 c25 => D3.t R a5 l5 c5 a8 l8 c8 a11 l11 c11 a12 l12 c12 a13 l13 c13 a14 l14 c14 q15 a16 l16 c16 a19 l19 c19 a22 l22 c22 a25 l25 c25 h
theorem D3.ok (R : Rt) (fr : Fr) (h : Hp) (g : D3.g R fr h) : den prog E (cAt C [true, true, true, true, true, true, true, true, true, true, true, true]) (retQ E [.tmp 4] R) fr h := by
  obtain ⟨a5, l5, c5, e5, g⟩ := gSlice_elim g
  obtain ⟨a8, l8, c8, e8, g⟩ := gSlice_elim g
  obtain ⟨a11, l11, c11, e11, g⟩ := gSlice_elim g
  obtain ⟨a12, l12, c12, e12, g⟩ := gSlice_elim g
  obtain ⟨a13, l13, c13, e13, g⟩ := gSlice_elim g
  obtain ⟨a14, l14, c14, e14, g⟩ := gSlice_elim g
  obtain ⟨q15, e15, g⟩ := gPtrS_elim g
  obtain ⟨a16, l16, c16, e16, g⟩ := gSlice_elim g
  obtain ⟨a19, l19, c19, e19, g⟩ := gSlice_elim g
  obtain ⟨a22, l22, c22, e22, g⟩ := gSlice_elim g
  obtain ⟨a25, l25, c25, e25, g⟩ := gSlice_elim g
  exact den_cut 1 (r := (cAt C [true, true, true, true, true, true, true, true, true, true, true, true, true])) (by kernel_rfl) (W16.ok R) (den_enter [(5, .slice a5 l5 c5), (8, .slice a8 l8 c8), (11, .slice a11 l11 c11), (12, .slice a12 l12 c12), (13, .slice a13 l13 c13), (14, .slice a14 l14 c14), (15, .pointer (some q15)), (16, .slice a16 l16 c16), (19, .slice a19 l19 c19), (22, .slice a22 l22 c22), (25, .slice a25 l25 c25)] ⟨e5, e8, e11, e12, e13, e14, e15, e16, e19, e22, e25, trivial⟩ (by kernel_rfl) g)
def D2.t (R : Rt) (q2 : Addr) (q3 : Addr) (a5 : Option Addr) (l5 : Nat) (c5 : Nat) (a8 : Option Addr) (l8 : Nat) (c8 : Nat) (a11 : Option Addr) (l11 : Nat) (c11 : Nat) (a12 : Option Addr) (l12 : Nat) (c12 : Nat) (a13 : Option Addr) (l13 : Nat) (c13 : Nat) (a14 : Option Addr) (l14 : Nat) (c14 : Nat) (q15 : Addr) (a16 : Option Addr) (l16 : Nat) (c16 : Nat) (h : Hp) : Prop :=
  ldK h (q15.add 0) fun v103 =>
  gInt .i64 v103 fun x_104 =>
  ldK h (q15.add 1) fun v105 =>
  gSlice v105 fun a_106 l_106 c_106 =>
  ldK h (q15.add 2) fun v107 =>
  gSlice v107 fun a_108 l_108 c_108 =>
  ldK h (q15.add 3) fun v109 =>
  gInt .i64 v109 fun x_110 =>
  ldK h (q15.add 4) fun v111 =>
  gInt .u64 v111 fun x_112 =>
  HC gnomonlaw01_list.id #[.agg #[.int .i64 x_104, .slice a_106 l_106 c_106, .slice a_108 l_108 c_108, .int .i64 x_110, .int .u64 x_112]] h fun v113 h114 =>
  gTup v113 fun y115 =>
  uncons y115 fun v116 y116 =>
  gSlice v116 fun a_117 l_117 c_117 =>
  uncons y116 fun v118 y118 =>
  gInt .u64 v118 fun x_119 =>
  uncons y118 fun v120 y120 =>
  gInt .i64 v120 fun x_121 =>
  unnil y120 <| ldK h114 (q3.add 0) fun v122 =>
  gInt .i64 v122 fun x_123 =>
  ldK h114 (q3.add 1) fun v124 =>
  gSlice v124 fun a_125 l_125 c_125 =>
  ldK h114 (q3.add 2) fun v126 =>
  gSlice v126 fun a_127 l_127 c_127 =>
  ldK h114 (q3.add 3) fun v128 =>
  gInt .i64 v128 fun x_129 =>
  ldK h114 (q3.add 4) fun v130 =>
  gInt .u64 v130 fun x_131 =>
  HC gnomonlaw01_twin.id #[.agg #[.int .i64 x_123, .slice a_125 l_125 c_125, .slice a_127 l_127 c_127, .int .i64 x_129, .int .u64 x_131]] h114 fun v132 h133 =>
  gAgg v132 fun y134 =>
  uncons y134 fun v135 y135 =>
  gInt .i64 v135 fun x_136 =>
  uncons y135 fun v137 y137 =>
  gSlice v137 fun a_138 l_138 c_138 =>
  uncons y137 fun v139 y139 =>
  gSlice v139 fun a_140 l_140 c_140 =>
  uncons y139 fun v141 y141 =>
  gInt .i64 v141 fun x_142 =>
  uncons y141 fun v143 y143 =>
  gInt .u64 v143 fun x_144 =>
  unnil y143 <| HC gnomonlaw01_list.id #[.agg #[.int .i64 x_136, .slice a_138 l_138 c_138, .slice a_140 l_140 c_140, .int .i64 x_142, .int .u64 x_144]] h133 fun v145 h146 =>
  gTup v145 fun y147 =>
  uncons y147 fun v148 y148 =>
  gSlice v148 fun a_149 l_149 c_149 =>
  uncons y148 fun v150 y150 =>
  gInt .u64 v150 fun x_151 =>
  uncons y150 fun v152 y152 =>
  gInt .i64 v152 fun x_153 =>
  unnil y152 <| ldK h146 (q15.add 0) fun v154 =>
  gInt .i64 v154 fun x_155 =>
  ldK h146 (q15.add 1) fun v156 =>
  gSlice v156 fun a_157 l_157 c_157 =>
  ldK h146 (q15.add 2) fun v158 =>
  gSlice v158 fun a_159 l_159 c_159 =>
  ldK h146 (q15.add 3) fun v160 =>
  gInt .i64 v160 fun x_161 =>
  ldK h146 (q15.add 4) fun v162 =>
  gInt .u64 v162 fun x_163 =>
  HC gnomonlaw01_list.id #[.agg #[.int .i64 x_155, .slice a_157 l_157 c_157, .slice a_159 l_159 c_159, .int .i64 x_161, .int .u64 x_163]] h146 fun v164 h165 =>
  gTup v164 fun y166 =>
  uncons y166 fun v167 y167 =>
  gSlice v167 fun a_168 l_168 c_168 =>
  uncons y167 fun v169 y169 =>
  gInt .u64 v169 fun x_170 =>
  uncons y169 fun v171 y171 =>
  gInt .i64 v171 fun x_172 =>
  unnil y171 <| ldK h165 (q2.add 1) fun v173 =>
  gSlice v173 fun a_174 l_174 c_174 =>
  HQC gnomonref01_Kept.id #[.slice a12 l12 c12, .slice a_174 l_174 c_174] h165 fun v175 =>
  gBool v175 fun b_176 =>
  cond (!b_176) (R (.bool false) h165) (ldK h165 (q2.add 2) fun v177 =>
  gSlice v177 fun a_178 l_178 c_178 =>
  HQC gnomonref01_Kept.id #[.slice a14 l14 c14, .slice a_178 l_178 c_178] h165 fun v179 =>
  gBool v179 fun b_180 =>
  cond (!b_180) (R (.bool false) h165) (D3.t R a5 l5 c5 a8 l8 c8 a11 l11 c11 a12 l12 c12 a13 l13 c13 a14 l14 c14 q15 a16 l16 c16 a_117 l_117 c_117 a_149 l_149 c_149 a_168 l_168 c_168 h165))
def D2.g (R : Rt) (fr : Fr) (h : Hp) : Prop := gPtrS (fr 2) fun q2 => gPtrS (fr 3) fun q3 => gSlice (fr 5) fun a5 l5 c5 => gSlice (fr 8) fun a8 l8 c8 => gSlice (fr 11) fun a11 l11 c11 => gSlice (fr 12) fun a12 l12 c12 => gSlice (fr 13) fun a13 l13 c13 => gSlice (fr 14) fun a14 l14 c14 => gPtrS (fr 15) fun q15 => gSlice (fr 16) fun a16 l16 c16 => D2.t R q2 q3 a5 l5 c5 a8 l8 c8 a11 l11 c11 a12 l12 c12 a13 l13 c13 a14 l14 c14 q15 a16 l16 c16 h
theorem D2.ok (R : Rt) (fr : Fr) (h : Hp) (g : D2.g R fr h) : den prog E (cAt C [true, true, true, true, true, true, true, true]) (retQ E [.tmp 4] R) fr h := by
  obtain ⟨q2, e2, g⟩ := gPtrS_elim g
  obtain ⟨q3, e3, g⟩ := gPtrS_elim g
  obtain ⟨a5, l5, c5, e5, g⟩ := gSlice_elim g
  obtain ⟨a8, l8, c8, e8, g⟩ := gSlice_elim g
  obtain ⟨a11, l11, c11, e11, g⟩ := gSlice_elim g
  obtain ⟨a12, l12, c12, e12, g⟩ := gSlice_elim g
  obtain ⟨a13, l13, c13, e13, g⟩ := gSlice_elim g
  obtain ⟨a14, l14, c14, e14, g⟩ := gSlice_elim g
  obtain ⟨q15, e15, g⟩ := gPtrS_elim g
  obtain ⟨a16, l16, c16, e16, g⟩ := gSlice_elim g
  exact den_cut 4 (r := (cAt C [true, true, true, true, true, true, true, true, true, true, true, true])) (by kernel_rfl) (D3.ok R) (den_enter [(2, .pointer (some q2)), (3, .pointer (some q3)), (5, .slice a5 l5 c5), (8, .slice a8 l8 c8), (11, .slice a11 l11 c11), (12, .slice a12 l12 c12), (13, .slice a13 l13 c13), (14, .slice a14 l14 c14), (15, .pointer (some q15)), (16, .slice a16 l16 c16)] ⟨e2, e3, e5, e8, e11, e12, e13, e14, e15, e16, trivial⟩ (by kernel_rfl) g)
def D1.t (R : Rt) (x0_0 : Int) (a0_1 : Option Addr) (l0_1 : Nat) (c0_1 : Nat) (a0_2 : Option Addr) (l0_2 : Nat) (c0_2 : Nat) (x0_3 : Int) (x0_4 : Int) (x1_0 : Int) (a1_1 : Option Addr) (l1_1 : Nat) (c1_1 : Nat) (a1_2 : Option Addr) (l1_2 : Nat) (c1_2 : Nat) (x1_3 : Int) (x1_4 : Int) (h : Hp) : Prop :=
  boxK h 43 [.int .i64 x0_0, .slice a0_1 l0_1 c0_1, .slice a0_2 l0_2 c0_2, .int .i64 x0_3, .int .u64 x0_4] fun q1 h2 =>
  boxK h2 43 [.int .i64 x1_0, .slice a1_1 l1_1 c1_1, .slice a1_2 l1_2 c1_2, .int .i64 x1_3, .int .u64 x1_4] fun q3 h4 =>
  ldK h4 (q1.add 0) fun v5 =>
  gInt .i64 v5 fun x_6 =>
  ldK h4 (q1.add 1) fun v7 =>
  gSlice v7 fun a_8 l_8 c_8 =>
  ldK h4 (q1.add 2) fun v9 =>
  gSlice v9 fun a_10 l_10 c_10 =>
  ldK h4 (q1.add 3) fun v11 =>
  gInt .i64 v11 fun x_12 =>
  ldK h4 (q1.add 4) fun v13 =>
  gInt .u64 v13 fun x_14 =>
  HC gnomonlaw01_doc.id #[.agg #[.int .i64 x_6, .slice a_8 l_8 c_8, .slice a_10 l_10 c_10, .int .i64 x_12, .int .u64 x_14]] h4 fun v15 h16 =>
  gTup v15 fun y17 =>
  uncons y17 fun v18 y18 =>
  gSlice v18 fun a_19 l_19 c_19 =>
  uncons y18 fun v20 y20 =>
  gInt .u64 v20 fun x_21 =>
  uncons y20 fun v22 y22 =>
  gInt .i64 v22 fun x_23 =>
  unnil y22 <| ldK h16 (q3.add 0) fun v24 =>
  gInt .i64 v24 fun x_25 =>
  ldK h16 (q3.add 1) fun v26 =>
  gSlice v26 fun a_27 l_27 c_27 =>
  ldK h16 (q3.add 2) fun v28 =>
  gSlice v28 fun a_29 l_29 c_29 =>
  ldK h16 (q3.add 3) fun v30 =>
  gInt .i64 v30 fun x_31 =>
  ldK h16 (q3.add 4) fun v32 =>
  gInt .u64 v32 fun x_33 =>
  HC gnomonlaw01_doc.id #[.agg #[.int .i64 x_25, .slice a_27 l_27 c_27, .slice a_29 l_29 c_29, .int .i64 x_31, .int .u64 x_33]] h16 fun v34 h35 =>
  gTup v34 fun y36 =>
  uncons y36 fun v37 y37 =>
  gSlice v37 fun a_38 l_38 c_38 =>
  uncons y37 fun v39 y39 =>
  gInt .u64 v39 fun x_40 =>
  uncons y39 fun v41 y41 =>
  gInt .i64 v41 fun x_42 =>
  unnil y41 <| ldK h35 (q1.add 1) fun v43 =>
  gSlice v43 fun a_44 l_44 c_44 =>
  HC gnomonref01_Spare.id #[.slice a_44 l_44 c_44] h35 fun v45 h46 =>
  gTup v45 fun y47 =>
  uncons y47 fun v48 y48 =>
  gSlice v48 fun a_49 l_49 c_49 =>
  uncons y48 fun v50 y50 =>
  gSlice v50 fun a_51 l_51 c_51 =>
  unnil y50 <| ldK h46 (q1.add 2) fun v52 =>
  gSlice v52 fun a_53 l_53 c_53 =>
  HC gnomonref01_Spare.id #[.slice a_53 l_53 c_53] h46 fun v54 h55 =>
  gTup v54 fun y56 =>
  uncons y56 fun v57 y57 =>
  gSlice v57 fun a_58 l_58 c_58 =>
  uncons y57 fun v59 y59 =>
  gSlice v59 fun a_60 l_60 c_60 =>
  unnil y59 <| ldK h55 (q1.add 0) fun v61 =>
  gInt .i64 v61 fun x_62 =>
  ldK h55 (q1.add 3) fun v63 =>
  gInt .i64 v63 fun x_64 =>
  ldK h55 (q1.add 4) fun v65 =>
  gInt .u64 v65 fun x_66 =>
  boxK h55 43 T43.zs fun q67 h68 =>
  stK h68 (q67.add 0) (.int .i64 x_62) fun h69 =>
  stK h69 (q67.add 1) (.slice a_49 l_49 c_49) fun h70 =>
  stK h70 (q67.add 2) (.slice a_58 l_58 c_58) fun h71 =>
  stK h71 (q67.add 3) (.int .i64 x_64) fun h72 =>
  stK h72 (q67.add 4) (.int .u64 x_66) fun h73 =>
  ldK h73 (q67.add 0) fun v74 =>
  gInt .i64 v74 fun x_75 =>
  ldK h73 (q67.add 1) fun v76 =>
  gSlice v76 fun a_77 l_77 c_77 =>
  ldK h73 (q67.add 2) fun v78 =>
  gSlice v78 fun a_79 l_79 c_79 =>
  ldK h73 (q67.add 3) fun v80 =>
  gInt .i64 v80 fun x_81 =>
  ldK h73 (q67.add 4) fun v82 =>
  gInt .u64 v82 fun x_83 =>
  HC gnomonlaw01_list.id #[.agg #[.int .i64 x_75, .slice a_77 l_77 c_77, .slice a_79 l_79 c_79, .int .i64 x_81, .int .u64 x_83]] h73 fun v84 h85 =>
  gTup v84 fun y86 =>
  uncons y86 fun v87 y87 =>
  gSlice v87 fun a_88 l_88 c_88 =>
  uncons y87 fun v89 y89 =>
  gInt .u64 v89 fun x_90 =>
  uncons y89 fun v91 y91 =>
  gInt .i64 v91 fun x_92 =>
  unnil y91 <| cond (x_92 != x_23) (R (.bool false) h85) (HQC gnomonref01_Same.id #[.slice a_88 l_88 c_88, .slice a_19 l_19 c_19] h85 fun v93 =>
  gBool v93 fun b_94 =>
  cond (!b_94) (R (.bool false) h85) (ldK h85 (q1.add 1) fun v95 =>
  gSlice v95 fun a_96 l_96 c_96 =>
  HQC gnomonref01_Kept.id #[.slice a_51 l_51 c_51, .slice a_96 l_96 c_96] h85 fun v97 =>
  gBool v97 fun b_98 =>
  cond (!b_98) (R (.bool false) h85) (ldK h85 (q1.add 2) fun v99 =>
  gSlice v99 fun a_100 l_100 c_100 =>
  HQC gnomonref01_Kept.id #[.slice a_60 l_60 c_60, .slice a_100 l_100 c_100] h85 fun v101 =>
  gBool v101 fun b_102 =>
  cond (!b_102) (R (.bool false) h85) (D2.t R q1 q3 a_19 l_19 c_19 a_38 l_38 c_38 a_49 l_49 c_49 a_51 l_51 c_51 a_58 l_58 c_58 a_60 l_60 c_60 q67 a_88 l_88 c_88 h85))))
def D1.g (R : Rt) (fr : Fr) (h : Hp) : Prop := gAgg (fr 0) fun z0 => uncons z0 fun w0_0 z0_0 => gInt .i64 w0_0 fun x0_0 => uncons z0_0 fun w0_1 z0_1 => gSlice w0_1 fun a0_1 l0_1 c0_1 => uncons z0_1 fun w0_2 z0_2 => gSlice w0_2 fun a0_2 l0_2 c0_2 => uncons z0_2 fun w0_3 z0_3 => gInt .i64 w0_3 fun x0_3 => uncons z0_3 fun w0_4 z0_4 => gInt .u64 w0_4 fun x0_4 => unnil z0_4 <| gAgg (fr 1) fun z1 => uncons z1 fun w1_0 z1_0 => gInt .i64 w1_0 fun x1_0 => uncons z1_0 fun w1_1 z1_1 => gSlice w1_1 fun a1_1 l1_1 c1_1 => uncons z1_1 fun w1_2 z1_2 => gSlice w1_2 fun a1_2 l1_2 c1_2 => uncons z1_2 fun w1_3 z1_3 => gInt .i64 w1_3 fun x1_3 => uncons z1_3 fun w1_4 z1_4 => gInt .u64 w1_4 fun x1_4 => unnil z1_4 <| D1.t R x0_0 a0_1 l0_1 c0_1 a0_2 l0_2 c0_2 x0_3 x0_4 x1_0 a1_1 l1_1 c1_1 a1_2 l1_2 c1_2 x1_3 x1_4 h
theorem D1.ok (R : Rt) (fr : Fr) (h : Hp) (g : D1.g R fr h) : den prog E C (retQ E [.tmp 4] R) fr h := by
  obtain ⟨z0, e0, g0_0⟩ := gAgg_elim' g
  obtain ⟨w0_0, z0_0, rfl, g0_0x⟩ := uncons_elim g0_0
  obtain ⟨x0_0, rfl, g0_1⟩ := gInt_elim g0_0x
  obtain ⟨w0_1, z0_1, rfl, g0_1x⟩ := uncons_elim g0_1
  obtain ⟨a0_1, l0_1, c0_1, rfl, g0_2⟩ := gSlice_elim g0_1x
  obtain ⟨w0_2, z0_2, rfl, g0_2x⟩ := uncons_elim g0_2
  obtain ⟨a0_2, l0_2, c0_2, rfl, g0_3⟩ := gSlice_elim g0_2x
  obtain ⟨w0_3, z0_3, rfl, g0_3x⟩ := uncons_elim g0_3
  obtain ⟨x0_3, rfl, g0_4⟩ := gInt_elim g0_3x
  obtain ⟨w0_4, z0_4, rfl, g0_4x⟩ := uncons_elim g0_4
  obtain ⟨x0_4, rfl, g0_5⟩ := gInt_elim g0_4x
  obtain ⟨rfl, g⟩ := unnil_elim g0_5
  obtain ⟨z1, e1, g1_0⟩ := gAgg_elim' g
  obtain ⟨w1_0, z1_0, rfl, g1_0x⟩ := uncons_elim g1_0
  obtain ⟨x1_0, rfl, g1_1⟩ := gInt_elim g1_0x
  obtain ⟨w1_1, z1_1, rfl, g1_1x⟩ := uncons_elim g1_1
  obtain ⟨a1_1, l1_1, c1_1, rfl, g1_2⟩ := gSlice_elim g1_1x
  obtain ⟨w1_2, z1_2, rfl, g1_2x⟩ := uncons_elim g1_2
  obtain ⟨a1_2, l1_2, c1_2, rfl, g1_3⟩ := gSlice_elim g1_2x
  obtain ⟨w1_3, z1_3, rfl, g1_3x⟩ := uncons_elim g1_3
  obtain ⟨x1_3, rfl, g1_4⟩ := gInt_elim g1_3x
  obtain ⟨w1_4, z1_4, rfl, g1_4x⟩ := uncons_elim g1_4
  obtain ⟨x1_4, rfl, g1_5⟩ := gInt_elim g1_4x
  obtain ⟨rfl, g⟩ := unnil_elim g1_5
  exact den_cut 8 (r := (cAt C [true, true, true, true, true, true, true, true])) (by kernel_rfl) (D2.ok R) (den_enter [(0, .agg #[.int .i64 x0_0, .slice a0_1 l0_1 c0_1, .slice a0_2 l0_2 c0_2, .int .i64 x0_3, .int .u64 x0_4]), (1, .agg #[.int .i64 x1_0, .slice a1_1 l1_1 c1_1, .slice a1_2 l1_2 c1_2, .int .i64 x1_3, .int .u64 x1_4])] ⟨e0, e1, trivial⟩ (by kernel_rfl) g)
def t (x0_0 : Int) (a0_1 : Option Addr) (l0_1 : Nat) (c0_1 : Nat) (a0_2 : Option Addr) (l0_2 : Nat) (c0_2 : Nat) (x0_3 : Int) (x0_4 : Int) (x1_0 : Int) (a1_1 : Option Addr) (l1_1 : Nat) (c1_1 : Nat) (a1_2 : Option Addr) (l1_2 : Nat) (c1_2 : Nat) (x1_3 : Int) (x1_4 : Int) (h : Hp) (R : Rt) : Prop := D1.t R x0_0 a0_1 l0_1 c0_1 a0_2 l0_2 c0_2 x0_3 x0_4 x1_0 a1_1 l1_1 c1_1 a1_2 l1_2 c1_2 x1_3 x1_4 h
theorem ok {x0_0 : Int} {a0_1 : Option Addr} {l0_1 : Nat} {c0_1 : Nat} {a0_2 : Option Addr} {l0_2 : Nat} {c0_2 : Nat} {x0_3 : Int} {x0_4 : Int} {x1_0 : Int} {a1_1 : Option Addr} {l1_1 : Nat} {c1_1 : Nat} {a1_2 : Option Addr} {l1_2 : Nat} {c1_2 : Nat} {x1_3 : Int} {x1_4 : Int} {h : Hp} {R : Rt} (g : t x0_0 a0_1 l0_1 c0_1 a0_2 l0_2 c0_2 x0_3 x0_4 x1_0 a1_1 l1_1 c1_1 a1_2 l1_2 c1_2 x1_3 x1_4 h R) : HC id #[.agg #[.int .i64 x0_0, .slice a0_1 l0_1 c0_1, .slice a0_2 l0_2 c0_2, .int .i64 x0_3, .int .u64 x0_4], .agg #[.int .i64 x1_0, .slice a1_1 l1_1 c1_1, .slice a1_2 l1_2 c1_2, .int .i64 x1_3, .int .u64 x1_4]] h R :=
  calls_of_den' envOk (c := C) (rs := [.tmp 4]) Tryd.func25 (by kernel_rfl) (by kernel_rfl) (by kernel_rfl) (args := [.agg #[.int .i64 x0_0, .slice a0_1 l0_1 c0_1, .slice a0_2 l0_2 c0_2, .int .i64 x0_3, .int .u64 x0_4], .agg #[.int .i64 x1_0, .slice a1_1 l1_1 c1_1, .slice a1_2 l1_2 c1_2, .int .i64 x1_3, .int .u64 x1_4]]) (by kernel_rfl) (D1.ok R _ h (gAgg_intro rfl (uncons_intro (gInt_intro rfl (uncons_intro (gSlice_intro rfl (uncons_intro (gSlice_intro rfl (uncons_intro (gInt_intro rfl (uncons_intro (gInt_intro rfl (unnil_intro (gAgg_intro rfl (uncons_intro (gInt_intro rfl (uncons_intro (gSlice_intro rfl (uncons_intro (gSlice_intro rfl (uncons_intro (gInt_intro rfl (uncons_intro (gInt_intro rfl (unnil_intro (g))))))))))))))))))))))))))
end gnomonlaw01_keeps

namespace gnomonlaw01_leaves
noncomputable def C : Code := bodyOf Tryd.f26
def D3.t (R : Rt) (a3 : Option Addr) (l3 : Nat) (c3 : Nat) (a4 : Option Addr) (l4 : Nat) (c4 : Nat) (a5 : Option Addr) (l5 : Nat) (c5 : Nat) (a6 : Option Addr) (l6 : Nat) (c6 : Nat) (q9 : Addr) (h : Hp) : Prop :=
  ldK h (q9.add 0) fun v38 =>
  gInt .i64 v38 fun x_39 =>
  ldK h (q9.add 1) fun v40 =>
  gSlice v40 fun a_41 l_41 c_41 =>
  ldK h (q9.add 2) fun v42 =>
  gSlice v42 fun a_43 l_43 c_43 =>
  ldK h (q9.add 3) fun v44 =>
  gInt .i64 v44 fun x_45 =>
  ldK h (q9.add 4) fun v46 =>
  gInt .u64 v46 fun x_47 =>
  HC gnomonlaw01_says.id #[.agg #[.int .i64 x_39, .slice a_41 l_41 c_41, .slice a_43 l_43 c_43, .int .i64 x_45, .int .u64 x_47], .slice a3 l3 c3, .slice a5 l5 c5] h fun v48 h49 =>
  gBool v48 fun b_50 =>
  cond b_50 (ldK h49 (q9.add 1) fun v51 =>
  gSlice v51 fun a_52 l_52 c_52 =>
  HQC gnomonref01_Kept.id #[.slice a4 l4 c4, .slice a_52 l_52 c_52] h49 fun v53 =>
  gBool v53 fun b_54 =>
  cond b_54 (ldK h49 (q9.add 2) fun v55 =>
  gSlice v55 fun a_56 l_56 c_56 =>
  HQC gnomonref01_Kept.id #[.slice a6 l6 c6, .slice a_56 l_56 c_56] h49 fun v57 =>
  gBool v57 fun b_58 =>
  R (.bool b_58) h49) (R (.bool false) h49)) (R (.bool false) h49)
def D3.g (R : Rt) (fr : Fr) (h : Hp) : Prop := gSlice (fr 3) fun a3 l3 c3 => gSlice (fr 4) fun a4 l4 c4 => gSlice (fr 5) fun a5 l5 c5 => gSlice (fr 6) fun a6 l6 c6 => gPtrS (fr 9) fun q9 => D3.t R a3 l3 c3 a4 l4 c4 a5 l5 c5 a6 l6 c6 q9 h
theorem D3.ok (R : Rt) (fr : Fr) (h : Hp) (g : D3.g R fr h) : den prog E (cAt C [true, true, true, true, true, true, true]) (retQ E [.tmp 2] R) fr h := by
  obtain ⟨a3, l3, c3, e3, g⟩ := gSlice_elim g
  obtain ⟨a4, l4, c4, e4, g⟩ := gSlice_elim g
  obtain ⟨a5, l5, c5, e5, g⟩ := gSlice_elim g
  obtain ⟨a6, l6, c6, e6, g⟩ := gSlice_elim g
  obtain ⟨q9, e9, g⟩ := gPtrS_elim g
  exact den_enter [(3, .slice a3 l3 c3), (4, .slice a4 l4 c4), (5, .slice a5 l5 c5), (6, .slice a6 l6 c6), (9, .pointer (some q9))] ⟨e3, e4, e5, e6, e9, trivial⟩ (by kernel_rfl) g
def D2.t (R : Rt) (q1 : Addr) (a3 : Option Addr) (l3 : Nat) (c3 : Nat) (a4 : Option Addr) (l4 : Nat) (c4 : Nat) (a5 : Option Addr) (l5 : Nat) (c5 : Nat) (a6 : Option Addr) (l6 : Nat) (c6 : Nat) (h : Hp) : Prop :=
  (q1.add 0).block < h.size ∧ ldK h (q1.add 0) fun v21 =>
  gInt .i64 v21 fun x_22 =>
  (q1.add 3).block < h.size ∧ ldK h (q1.add 3) fun v23 =>
  gInt .i64 v23 fun x_24 =>
  (HC gnomonref01_Twin.id #[.slice a3 l3 c3] h fun v25 h26 =>
  gSlice v25 fun a_27 l_27 c_27 =>
  (Pre h.size h h26) ∧ (HC gnomonref01_Twin.id #[.slice a5 l5 c5] h26 fun v28 h29 =>
  gSlice v28 fun a_30 l_30 c_30 =>
  (Pre h.size h26 h29) ∧ boxK h29 43 T43.zs fun q31 h32 =>
  (Pre h.size h29 h32) ∧ stK h32 (q31.add 0) (.int .i64 x_22) fun h33 =>
  stK h33 (q31.add 1) (.slice a_27 l_27 c_27) fun h34 =>
  stK h34 (q31.add 2) (.slice a_30 l_30 c_30) fun h35 =>
  stK h35 (q31.add 3) (.int .i64 x_24) fun h36 =>
  stK h36 (q31.add 4) (.int .u64 0) fun h37 =>
  D3.t R a3 l3 c3 a4 l4 c4 a5 l5 c5 a6 l6 c6 q31 h37) ∧ (boxK h26 43 T43.zs fun q59 h60 =>
  (Pre h.size h26 h60) ∧ HC gnomonref01_Twin.id #[.slice a5 l5 c5] h60 fun v61 h62 =>
  gSlice v61 fun a_63 l_63 c_63 =>
  (Pre h.size h60 h62) ∧ stK h62 (q59.add 0) (.int .i64 x_22) fun h64 =>
  stK h64 (q59.add 1) (.slice a_27 l_27 c_27) fun h65 =>
  stK h65 (q59.add 2) (.slice a_63 l_63 c_63) fun h66 =>
  stK h66 (q59.add 3) (.int .i64 x_24) fun h67 =>
  stK h67 (q59.add 4) (.int .u64 0) fun h68 =>
  D3.t R a3 l3 c3 a4 l4 c4 a5 l5 c5 a6 l6 c6 q59 h68)) ∧ (boxK h 43 T43.zs fun q69 h70 =>
  (Pre h.size h h70) ∧ HC gnomonref01_Twin.id #[.slice a3 l3 c3] h70 fun v71 h72 =>
  gSlice v71 fun a_73 l_73 c_73 =>
  (Pre h.size h70 h72) ∧ HC gnomonref01_Twin.id #[.slice a5 l5 c5] h72 fun v74 h75 =>
  gSlice v74 fun a_76 l_76 c_76 =>
  (Pre h.size h72 h75) ∧ stK h75 (q69.add 0) (.int .i64 x_22) fun h77 =>
  stK h77 (q69.add 1) (.slice a_73 l_73 c_73) fun h78 =>
  stK h78 (q69.add 2) (.slice a_76 l_76 c_76) fun h79 =>
  stK h79 (q69.add 3) (.int .i64 x_24) fun h80 =>
  stK h80 (q69.add 4) (.int .u64 0) fun h81 =>
  D3.t R a3 l3 c3 a4 l4 c4 a5 l5 c5 a6 l6 c6 q69 h81)
def D2.g (R : Rt) (fr : Fr) (h : Hp) : Prop := gPtrS (fr 1) fun q1 => gSlice (fr 3) fun a3 l3 c3 => gSlice (fr 4) fun a4 l4 c4 => gSlice (fr 5) fun a5 l5 c5 => gSlice (fr 6) fun a6 l6 c6 => D2.t R q1 a3 l3 c3 a4 l4 c4 a5 l5 c5 a6 l6 c6 h
theorem D2.ok (R : Rt) (fr : Fr) (h : Hp) (g : D2.g R fr h) : den prog E (cAt C [true, true, true, true, true, true]) (retQ E [.tmp 2] R) fr h := by
  obtain ⟨q1, e1, g⟩ := gPtrS_elim g
  obtain ⟨a3, l3, c3, e3, g⟩ := gSlice_elim g
  obtain ⟨a4, l4, c4, e4, g⟩ := gSlice_elim g
  obtain ⟨a5, l5, c5, e5, g⟩ := gSlice_elim g
  obtain ⟨a6, l6, c6, e6, g⟩ := gSlice_elim g
  exact den_cut 1 (r := (cAt C [true, true, true, true, true, true, true])) (by kernel_rfl) (D3.ok R) (den_enter [(1, .pointer (some q1)), (3, .slice a3 l3 c3), (4, .slice a4 l4 c4), (5, .slice a5 l5 c5), (6, .slice a6 l6 c6)] ⟨e1, e3, e4, e5, e6, trivial⟩ (by kernel_rfl) g)
def L5.g (N : Addr → Option Addr → Nat → Nat → Option Addr → Nat → Nat → Option Addr → Nat → Nat → Option Addr → Nat → Nat → Int → Hp → Prop) (fr : Fr) (h : Hp) : Prop := gPtrS (fr 1) fun q1 => gSlice (fr 3) fun a3 l3 c3 => gSlice (fr 4) fun a4 l4 c4 => gSlice (fr 5) fun a5 l5 c5 => gSlice (fr 6) fun a6 l6 c6 => gInt .i64 (fr 8) fun x8 => N q1 a3 l3 c3 a4 l4 c4 a5 l5 c5 a6 l6 c6 x8 h
def D6.t (R : Rt) (N5 : Addr → Option Addr → Nat → Nat → Option Addr → Nat → Nat → Option Addr → Nat → Nat → Option Addr → Nat → Nat → Int → Hp → Prop) (q1 : Addr) (a3 : Option Addr) (l3 : Nat) (c3 : Nat) (a4 : Option Addr) (l4 : Nat) (c4 : Nat) (a5 : Option Addr) (l5 : Nat) (c5 : Nat) (a6 : Option Addr) (l6 : Nat) (c6 : Nat) (x8 : Int) (h : Hp) : Prop :=
  cond (decide (x8 < (((l5 : Nat) : Int)))) (idxK a5 l5 x8 1 fun q82 =>
  ldK h q82 fun v83 =>
  gInt .u64 v83 fun x_84 =>
  letK (notI .u64 x_84) fun n85 =>
  (2 : Int) ≠ 0 ∧ letK (IntKind.u64.wrap (Int.tdiv n85 2)) fun n86 =>
  idxK a5 l5 x8 1 fun q87 =>
  stK h q87 (.int .u64 n86) fun h88 =>
  letK (IntKind.i64.wrap (x8 + 1)) fun n89 =>
  N5 q1 a3 l3 c3 a4 l4 c4 a5 l5 c5 a6 l6 c6 n89 h88) (D2.t R q1 a3 l3 c3 a4 l4 c4 a5 l5 c5 a6 l6 c6 h)
def D6.g (R : Rt) (N5 : Addr → Option Addr → Nat → Nat → Option Addr → Nat → Nat → Option Addr → Nat → Nat → Option Addr → Nat → Nat → Int → Hp → Prop) (fr : Fr) (h : Hp) : Prop := gPtrS (fr 1) fun q1 => gSlice (fr 3) fun a3 l3 c3 => gSlice (fr 4) fun a4 l4 c4 => gSlice (fr 5) fun a5 l5 c5 => gSlice (fr 6) fun a6 l6 c6 => gInt .i64 (fr 8) fun x8 => D6.t R N5 q1 a3 l3 c3 a4 l4 c4 a5 l5 c5 a6 l6 c6 x8 h
theorem D6.ok (R : Rt) (N5 : Addr → Option Addr → Nat → Nat → Option Addr → Nat → Nat → Option Addr → Nat → Nat → Option Addr → Nat → Nat → Int → Hp → Prop) (fr : Fr) (h : Hp) (g : D6.g R N5 fr h) : den prog E (cAt C [true, true, true, true, true, false, true, false, false]) (Ex.then (L5.g N5) (Ex.inBlock 4 (Ex.then (D2.g R) (retQ E [.tmp 2] R)))) fr h := by
  obtain ⟨q1, e1, g⟩ := gPtrS_elim g
  obtain ⟨a3, l3, c3, e3, g⟩ := gSlice_elim g
  obtain ⟨a4, l4, c4, e4, g⟩ := gSlice_elim g
  obtain ⟨a5, l5, c5, e5, g⟩ := gSlice_elim g
  obtain ⟨a6, l6, c6, e6, g⟩ := gSlice_elim g
  obtain ⟨x8, e8, g⟩ := gInt_elim g
  exact den_enter [(1, .pointer (some q1)), (3, .slice a3 l3 c3), (4, .slice a4 l4 c4), (5, .slice a5 l5 c5), (6, .slice a6 l6 c6), (8, .int .i64 x8)] ⟨e1, e3, e4, e5, e6, e8, trivial⟩ (by kernel_rfl) g
def L5.t (R : Rt) : Nat → Addr → Option Addr → Nat → Nat → Option Addr → Nat → Nat → Option Addr → Nat → Nat → Option Addr → Nat → Nat → Int → Hp → Prop
  | 0 => fun _ _ _ _ _ _ _ _ _ _ _ _ _ _ _ => False
  | n + 1 => fun q1 a3 l3 c3 a4 l4 c4 a5 l5 c5 a6 l6 c6 x8 h => D6.t R (L5.t R n) q1 a3 l3 c3 a4 l4 c4 a5 l5 c5 a6 l6 c6 x8 h
theorem L5.ok (R : Rt) (fr : Fr) (h : Hp) (g : L5.g (fun q1 a3 l3 c3 a4 l4 c4 a5 l5 c5 a6 l6 c6 x8 h => ∃ n, L5.t R n q1 a3 l3 c3 a4 l4 c4 a5 l5 c5 a6 l6 c6 x8 h) fr h) : den prog E (cAt C [true, true, true, true, true, false, true, false]) (Ex.inBlock 4 (Ex.then (D2.g R) (retQ E [.tmp 2] R))) fr h := by
  obtain ⟨q1, e1, g⟩ := gPtrS_elim g
  obtain ⟨a3, l3, c3, e3, g⟩ := gSlice_elim g
  obtain ⟨a4, l4, c4, e4, g⟩ := gSlice_elim g
  obtain ⟨a5, l5, c5, e5, g⟩ := gSlice_elim g
  obtain ⟨a6, l6, c6, e6, g⟩ := gSlice_elim g
  obtain ⟨x8, e8, g⟩ := gInt_elim g
  obtain ⟨n, g⟩ := g
  refine loop_ok (fun n => L5.g (L5.t R n)) (b := (cAt C [true, true, true, true, true, false, true, false, false])) (by kernel_rfl) (fun fr h g => ?_) (fun n => D6.ok R (L5.t R n)) n fr h (gPtrS_intro e1 (gSlice_intro e3 (gSlice_intro e4 (gSlice_intro e5 (gSlice_intro e6 (gInt_intro e8 (g)))))))
  obtain ⟨q1, e1, g⟩ := gPtrS_elim g
  obtain ⟨a3, l3, c3, e3, g⟩ := gSlice_elim g
  obtain ⟨a4, l4, c4, e4, g⟩ := gSlice_elim g
  obtain ⟨a5, l5, c5, e5, g⟩ := gSlice_elim g
  obtain ⟨a6, l6, c6, e6, g⟩ := gSlice_elim g
  obtain ⟨x8, e8, g⟩ := gInt_elim g
  exact g
theorem B7.ok (R : Rt) (fr : Fr) (h : Hp) (g : L5.g (fun q1 a3 l3 c3 a4 l4 c4 a5 l5 c5 a6 l6 c6 x8 h => ∃ n, L5.t R n q1 a3 l3 c3 a4 l4 c4 a5 l5 c5 a6 l6 c6 x8 h) fr h) : den prog E (cAt C [true, true, true, true, true, false, true]) (Ex.then (D2.g R) (retQ E [.tmp 2] R)) fr h :=
  den_block (by kernel_rfl) (L5.ok R fr h g)
def D4.t (R : Rt) (q1 : Addr) (a3 : Option Addr) (l3 : Nat) (c3 : Nat) (a4 : Option Addr) (l4 : Nat) (c4 : Nat) (a5 : Option Addr) (l5 : Nat) (c5 : Nat) (a6 : Option Addr) (l6 : Nat) (c6 : Nat) (h : Hp) : Prop :=
  (∃ n, L5.t R n q1 a3 l3 c3 a4 l4 c4 a5 l5 c5 a6 l6 c6 0 h)
def D4.g (R : Rt) (fr : Fr) (h : Hp) : Prop := gPtrS (fr 1) fun q1 => gSlice (fr 3) fun a3 l3 c3 => gSlice (fr 4) fun a4 l4 c4 => gSlice (fr 5) fun a5 l5 c5 => gSlice (fr 6) fun a6 l6 c6 => D4.t R q1 a3 l3 c3 a4 l4 c4 a5 l5 c5 a6 l6 c6 h
theorem D4.ok (R : Rt) (fr : Fr) (h : Hp) (g : D4.g R fr h) : den prog E (cAt C [true, true, true, true, true, false]) (Ex.then (D2.g R) (retQ E [.tmp 2] R)) fr h := by
  obtain ⟨q1, e1, g⟩ := gPtrS_elim g
  obtain ⟨a3, l3, c3, e3, g⟩ := gSlice_elim g
  obtain ⟨a4, l4, c4, e4, g⟩ := gSlice_elim g
  obtain ⟨a5, l5, c5, e5, g⟩ := gSlice_elim g
  obtain ⟨a6, l6, c6, e6, g⟩ := gSlice_elim g
  exact den_cut 1 (r := (cAt C [true, true, true, true, true, false, true])) (by kernel_rfl) (B7.ok R) (den_enter [(1, .pointer (some q1)), (3, .slice a3 l3 c3), (4, .slice a4 l4 c4), (5, .slice a5 l5 c5), (6, .slice a6 l6 c6)] ⟨e1, e3, e4, e5, e6, trivial⟩ (by kernel_rfl) g)
theorem W8.ok (R : Rt) (fr : Fr) (h : Hp) (g : D4.g R fr h) : den prog E (cAt C [true, true, true, true, true]) (retQ E [.tmp 2] R) fr h :=
  den_then (by kernel_rfl) (D2.ok R) (D4.ok R fr h g)
def L10.g (N : Addr → Option Addr → Nat → Nat → Option Addr → Nat → Nat → Option Addr → Nat → Nat → Option Addr → Nat → Nat → Int → Hp → Prop) (fr : Fr) (h : Hp) : Prop := gPtrS (fr 1) fun q1 => gSlice (fr 3) fun a3 l3 c3 => gSlice (fr 4) fun a4 l4 c4 => gSlice (fr 5) fun a5 l5 c5 => gSlice (fr 6) fun a6 l6 c6 => gInt .i64 (fr 7) fun x7 => N q1 a3 l3 c3 a4 l4 c4 a5 l5 c5 a6 l6 c6 x7 h
def D11.t (R : Rt) (N10 : Addr → Option Addr → Nat → Nat → Option Addr → Nat → Nat → Option Addr → Nat → Nat → Option Addr → Nat → Nat → Int → Hp → Prop) (q1 : Addr) (a3 : Option Addr) (l3 : Nat) (c3 : Nat) (a4 : Option Addr) (l4 : Nat) (c4 : Nat) (a5 : Option Addr) (l5 : Nat) (c5 : Nat) (a6 : Option Addr) (l6 : Nat) (c6 : Nat) (x7 : Int) (h : Hp) : Prop :=
  cond (decide (x7 < (((l3 : Nat) : Int)))) (idxK a3 l3 x7 1 fun q90 =>
  ldK h q90 fun v91 =>
  gInt .u64 v91 fun x_92 =>
  letK (notI .u64 x_92) fun n93 =>
  (3 : Int) ≠ 0 ∧ letK (IntKind.u64.wrap (Int.tdiv n93 3)) fun n94 =>
  idxK a3 l3 x7 1 fun q95 =>
  stK h q95 (.int .u64 n94) fun h96 =>
  letK (IntKind.i64.wrap (x7 + 1)) fun n97 =>
  N10 q1 a3 l3 c3 a4 l4 c4 a5 l5 c5 a6 l6 c6 n97 h96) (D4.t R q1 a3 l3 c3 a4 l4 c4 a5 l5 c5 a6 l6 c6 h)
def D11.g (R : Rt) (N10 : Addr → Option Addr → Nat → Nat → Option Addr → Nat → Nat → Option Addr → Nat → Nat → Option Addr → Nat → Nat → Int → Hp → Prop) (fr : Fr) (h : Hp) : Prop := gPtrS (fr 1) fun q1 => gSlice (fr 3) fun a3 l3 c3 => gSlice (fr 4) fun a4 l4 c4 => gSlice (fr 5) fun a5 l5 c5 => gSlice (fr 6) fun a6 l6 c6 => gInt .i64 (fr 7) fun x7 => D11.t R N10 q1 a3 l3 c3 a4 l4 c4 a5 l5 c5 a6 l6 c6 x7 h
theorem D11.ok (R : Rt) (N10 : Addr → Option Addr → Nat → Nat → Option Addr → Nat → Nat → Option Addr → Nat → Nat → Option Addr → Nat → Nat → Int → Hp → Prop) (fr : Fr) (h : Hp) (g : D11.g R N10 fr h) : den prog E (cAt C [true, true, true, true, false, true, false, false]) (Ex.then (L10.g N10) (Ex.inBlock 2 (Ex.then (D4.g R) (retQ E [.tmp 2] R)))) fr h := by
  obtain ⟨q1, e1, g⟩ := gPtrS_elim g
  obtain ⟨a3, l3, c3, e3, g⟩ := gSlice_elim g
  obtain ⟨a4, l4, c4, e4, g⟩ := gSlice_elim g
  obtain ⟨a5, l5, c5, e5, g⟩ := gSlice_elim g
  obtain ⟨a6, l6, c6, e6, g⟩ := gSlice_elim g
  obtain ⟨x7, e7, g⟩ := gInt_elim g
  exact den_enter [(1, .pointer (some q1)), (3, .slice a3 l3 c3), (4, .slice a4 l4 c4), (5, .slice a5 l5 c5), (6, .slice a6 l6 c6), (7, .int .i64 x7)] ⟨e1, e3, e4, e5, e6, e7, trivial⟩ (by kernel_rfl) g
def L10.t (R : Rt) : Nat → Addr → Option Addr → Nat → Nat → Option Addr → Nat → Nat → Option Addr → Nat → Nat → Option Addr → Nat → Nat → Int → Hp → Prop
  | 0 => fun _ _ _ _ _ _ _ _ _ _ _ _ _ _ _ => False
  | n + 1 => fun q1 a3 l3 c3 a4 l4 c4 a5 l5 c5 a6 l6 c6 x7 h => D11.t R (L10.t R n) q1 a3 l3 c3 a4 l4 c4 a5 l5 c5 a6 l6 c6 x7 h
theorem L10.ok (R : Rt) (fr : Fr) (h : Hp) (g : L10.g (fun q1 a3 l3 c3 a4 l4 c4 a5 l5 c5 a6 l6 c6 x7 h => ∃ n, L10.t R n q1 a3 l3 c3 a4 l4 c4 a5 l5 c5 a6 l6 c6 x7 h) fr h) : den prog E (cAt C [true, true, true, true, false, true, false]) (Ex.inBlock 2 (Ex.then (D4.g R) (retQ E [.tmp 2] R))) fr h := by
  obtain ⟨q1, e1, g⟩ := gPtrS_elim g
  obtain ⟨a3, l3, c3, e3, g⟩ := gSlice_elim g
  obtain ⟨a4, l4, c4, e4, g⟩ := gSlice_elim g
  obtain ⟨a5, l5, c5, e5, g⟩ := gSlice_elim g
  obtain ⟨a6, l6, c6, e6, g⟩ := gSlice_elim g
  obtain ⟨x7, e7, g⟩ := gInt_elim g
  obtain ⟨n, g⟩ := g
  refine loop_ok (fun n => L10.g (L10.t R n)) (b := (cAt C [true, true, true, true, false, true, false, false])) (by kernel_rfl) (fun fr h g => ?_) (fun n => D11.ok R (L10.t R n)) n fr h (gPtrS_intro e1 (gSlice_intro e3 (gSlice_intro e4 (gSlice_intro e5 (gSlice_intro e6 (gInt_intro e7 (g)))))))
  obtain ⟨q1, e1, g⟩ := gPtrS_elim g
  obtain ⟨a3, l3, c3, e3, g⟩ := gSlice_elim g
  obtain ⟨a4, l4, c4, e4, g⟩ := gSlice_elim g
  obtain ⟨a5, l5, c5, e5, g⟩ := gSlice_elim g
  obtain ⟨a6, l6, c6, e6, g⟩ := gSlice_elim g
  obtain ⟨x7, e7, g⟩ := gInt_elim g
  exact g
theorem B12.ok (R : Rt) (fr : Fr) (h : Hp) (g : L10.g (fun q1 a3 l3 c3 a4 l4 c4 a5 l5 c5 a6 l6 c6 x7 h => ∃ n, L10.t R n q1 a3 l3 c3 a4 l4 c4 a5 l5 c5 a6 l6 c6 x7 h) fr h) : den prog E (cAt C [true, true, true, true, false, true]) (Ex.then (D4.g R) (retQ E [.tmp 2] R)) fr h :=
  den_block (by kernel_rfl) (L10.ok R fr h g)
def D9.t (R : Rt) (q1 : Addr) (a3 : Option Addr) (l3 : Nat) (c3 : Nat) (a4 : Option Addr) (l4 : Nat) (c4 : Nat) (a5 : Option Addr) (l5 : Nat) (c5 : Nat) (a6 : Option Addr) (l6 : Nat) (c6 : Nat) (h : Hp) : Prop :=
  (∃ n, L10.t R n q1 a3 l3 c3 a4 l4 c4 a5 l5 c5 a6 l6 c6 0 h)
def D9.g (R : Rt) (fr : Fr) (h : Hp) : Prop := gPtrS (fr 1) fun q1 => gSlice (fr 3) fun a3 l3 c3 => gSlice (fr 4) fun a4 l4 c4 => gSlice (fr 5) fun a5 l5 c5 => gSlice (fr 6) fun a6 l6 c6 => D9.t R q1 a3 l3 c3 a4 l4 c4 a5 l5 c5 a6 l6 c6 h
theorem D9.ok (R : Rt) (fr : Fr) (h : Hp) (g : D9.g R fr h) : den prog E (cAt C [true, true, true, true, false]) (Ex.then (D4.g R) (retQ E [.tmp 2] R)) fr h := by
  obtain ⟨q1, e1, g⟩ := gPtrS_elim g
  obtain ⟨a3, l3, c3, e3, g⟩ := gSlice_elim g
  obtain ⟨a4, l4, c4, e4, g⟩ := gSlice_elim g
  obtain ⟨a5, l5, c5, e5, g⟩ := gSlice_elim g
  obtain ⟨a6, l6, c6, e6, g⟩ := gSlice_elim g
  exact den_cut 1 (r := (cAt C [true, true, true, true, false, true])) (by kernel_rfl) (B12.ok R) (den_enter [(1, .pointer (some q1)), (3, .slice a3 l3 c3), (4, .slice a4 l4 c4), (5, .slice a5 l5 c5), (6, .slice a6 l6 c6)] ⟨e1, e3, e4, e5, e6, trivial⟩ (by kernel_rfl) g)
theorem W13.ok (R : Rt) (fr : Fr) (h : Hp) (g : D9.g R fr h) : den prog E (cAt C [true, true, true, true]) (retQ E [.tmp 2] R) fr h :=
  den_then (by kernel_rfl) (W8.ok R) (D9.ok R fr h g)
def L15.g (N : Addr → Option Addr → Nat → Nat → Option Addr → Nat → Nat → Option Addr → Nat → Nat → Option Addr → Nat → Nat → Int → Hp → Prop) (fr : Fr) (h : Hp) : Prop := gPtrS (fr 1) fun q1 => gSlice (fr 3) fun a3 l3 c3 => gSlice (fr 4) fun a4 l4 c4 => gSlice (fr 5) fun a5 l5 c5 => gSlice (fr 6) fun a6 l6 c6 => gInt .i64 (fr 22) fun x22 => N q1 a3 l3 c3 a4 l4 c4 a5 l5 c5 a6 l6 c6 x22 h
def D16.t (R : Rt) (N15 : Addr → Option Addr → Nat → Nat → Option Addr → Nat → Nat → Option Addr → Nat → Nat → Option Addr → Nat → Nat → Int → Hp → Prop) (q1 : Addr) (a3 : Option Addr) (l3 : Nat) (c3 : Nat) (a4 : Option Addr) (l4 : Nat) (c4 : Nat) (a5 : Option Addr) (l5 : Nat) (c5 : Nat) (a6 : Option Addr) (l6 : Nat) (c6 : Nat) (x22 : Int) (h : Hp) : Prop :=
  cond (decide (x22 < 2)) (ldK h (q1.add 0) fun v98 =>
  gInt .i64 v98 fun x_99 =>
  ldK h (q1.add 1) fun v100 =>
  gSlice v100 fun a_101 l_101 c_101 =>
  ldK h (q1.add 2) fun v102 =>
  gSlice v102 fun a_103 l_103 c_103 =>
  ldK h (q1.add 3) fun v104 =>
  gInt .i64 v104 fun x_105 =>
  ldK h (q1.add 4) fun v106 =>
  gInt .u64 v106 fun x_107 =>
  HC gnomonlaw01_says.id #[.agg #[.int .i64 x_99, .slice a_101 l_101 c_101, .slice a_103 l_103 c_103, .int .i64 x_105, .int .u64 x_107], .slice a3 l3 c3, .slice a5 l5 c5] h fun v108 h109 =>
  gBool v108 fun b_110 =>
  cond (!b_110) (R (.bool false) h109) (ldK h109 (q1.add 1) fun v111 =>
  gSlice v111 fun a_112 l_112 c_112 =>
  HQC gnomonref01_Kept.id #[.slice a4 l4 c4, .slice a_112 l_112 c_112] h109 fun v113 =>
  gBool v113 fun b_114 =>
  cond (!b_114) (R (.bool false) h109) (ldK h109 (q1.add 2) fun v115 =>
  gSlice v115 fun a_116 l_116 c_116 =>
  HQC gnomonref01_Kept.id #[.slice a6 l6 c6, .slice a_116 l_116 c_116] h109 fun v117 =>
  gBool v117 fun b_118 =>
  cond (!b_118) (R (.bool false) h109) (letK (IntKind.i64.wrap (x22 + 1)) fun n119 =>
  N15 q1 a3 l3 c3 a4 l4 c4 a5 l5 c5 a6 l6 c6 n119 h109)))) (D9.t R q1 a3 l3 c3 a4 l4 c4 a5 l5 c5 a6 l6 c6 h)
def D16.g (R : Rt) (N15 : Addr → Option Addr → Nat → Nat → Option Addr → Nat → Nat → Option Addr → Nat → Nat → Option Addr → Nat → Nat → Int → Hp → Prop) (fr : Fr) (h : Hp) : Prop := gPtrS (fr 1) fun q1 => gSlice (fr 3) fun a3 l3 c3 => gSlice (fr 4) fun a4 l4 c4 => gSlice (fr 5) fun a5 l5 c5 => gSlice (fr 6) fun a6 l6 c6 => gInt .i64 (fr 22) fun x22 => D16.t R N15 q1 a3 l3 c3 a4 l4 c4 a5 l5 c5 a6 l6 c6 x22 h
theorem D16.ok (R : Rt) (N15 : Addr → Option Addr → Nat → Nat → Option Addr → Nat → Nat → Option Addr → Nat → Nat → Option Addr → Nat → Nat → Int → Hp → Prop) (fr : Fr) (h : Hp) (g : D16.g R N15 fr h) : den prog E (cAt C [true, true, true, false, true, false, false]) (Ex.then (L15.g N15) (Ex.inBlock 0 (Ex.then (D9.g R) (retQ E [.tmp 2] R)))) fr h := by
  obtain ⟨q1, e1, g⟩ := gPtrS_elim g
  obtain ⟨a3, l3, c3, e3, g⟩ := gSlice_elim g
  obtain ⟨a4, l4, c4, e4, g⟩ := gSlice_elim g
  obtain ⟨a5, l5, c5, e5, g⟩ := gSlice_elim g
  obtain ⟨a6, l6, c6, e6, g⟩ := gSlice_elim g
  obtain ⟨x22, e22, g⟩ := gInt_elim g
  exact den_enter [(1, .pointer (some q1)), (3, .slice a3 l3 c3), (4, .slice a4 l4 c4), (5, .slice a5 l5 c5), (6, .slice a6 l6 c6), (22, .int .i64 x22)] ⟨e1, e3, e4, e5, e6, e22, trivial⟩ (by kernel_rfl) g
def L15.t (R : Rt) : Nat → Addr → Option Addr → Nat → Nat → Option Addr → Nat → Nat → Option Addr → Nat → Nat → Option Addr → Nat → Nat → Int → Hp → Prop
  | 0 => fun _ _ _ _ _ _ _ _ _ _ _ _ _ _ _ => False
  | n + 1 => fun q1 a3 l3 c3 a4 l4 c4 a5 l5 c5 a6 l6 c6 x22 h => D16.t R (L15.t R n) q1 a3 l3 c3 a4 l4 c4 a5 l5 c5 a6 l6 c6 x22 h
theorem L15.ok (R : Rt) (fr : Fr) (h : Hp) (g : L15.g (fun q1 a3 l3 c3 a4 l4 c4 a5 l5 c5 a6 l6 c6 x22 h => ∃ n, L15.t R n q1 a3 l3 c3 a4 l4 c4 a5 l5 c5 a6 l6 c6 x22 h) fr h) : den prog E (cAt C [true, true, true, false, true, false]) (Ex.inBlock 0 (Ex.then (D9.g R) (retQ E [.tmp 2] R))) fr h := by
  obtain ⟨q1, e1, g⟩ := gPtrS_elim g
  obtain ⟨a3, l3, c3, e3, g⟩ := gSlice_elim g
  obtain ⟨a4, l4, c4, e4, g⟩ := gSlice_elim g
  obtain ⟨a5, l5, c5, e5, g⟩ := gSlice_elim g
  obtain ⟨a6, l6, c6, e6, g⟩ := gSlice_elim g
  obtain ⟨x22, e22, g⟩ := gInt_elim g
  obtain ⟨n, g⟩ := g
  refine loop_ok (fun n => L15.g (L15.t R n)) (b := (cAt C [true, true, true, false, true, false, false])) (by kernel_rfl) (fun fr h g => ?_) (fun n => D16.ok R (L15.t R n)) n fr h (gPtrS_intro e1 (gSlice_intro e3 (gSlice_intro e4 (gSlice_intro e5 (gSlice_intro e6 (gInt_intro e22 (g)))))))
  obtain ⟨q1, e1, g⟩ := gPtrS_elim g
  obtain ⟨a3, l3, c3, e3, g⟩ := gSlice_elim g
  obtain ⟨a4, l4, c4, e4, g⟩ := gSlice_elim g
  obtain ⟨a5, l5, c5, e5, g⟩ := gSlice_elim g
  obtain ⟨a6, l6, c6, e6, g⟩ := gSlice_elim g
  obtain ⟨x22, e22, g⟩ := gInt_elim g
  exact g
theorem B17.ok (R : Rt) (fr : Fr) (h : Hp) (g : L15.g (fun q1 a3 l3 c3 a4 l4 c4 a5 l5 c5 a6 l6 c6 x22 h => ∃ n, L15.t R n q1 a3 l3 c3 a4 l4 c4 a5 l5 c5 a6 l6 c6 x22 h) fr h) : den prog E (cAt C [true, true, true, false, true]) (Ex.then (D9.g R) (retQ E [.tmp 2] R)) fr h :=
  den_block (by kernel_rfl) (L15.ok R fr h g)
def D14.t (R : Rt) (q1 : Addr) (a3 : Option Addr) (l3 : Nat) (c3 : Nat) (a4 : Option Addr) (l4 : Nat) (c4 : Nat) (a5 : Option Addr) (l5 : Nat) (c5 : Nat) (a6 : Option Addr) (l6 : Nat) (c6 : Nat) (h : Hp) : Prop :=
  (∃ n, L15.t R n q1 a3 l3 c3 a4 l4 c4 a5 l5 c5 a6 l6 c6 0 h)
def D14.g (R : Rt) (fr : Fr) (h : Hp) : Prop := gPtrS (fr 1) fun q1 => gSlice (fr 3) fun a3 l3 c3 => gSlice (fr 4) fun a4 l4 c4 => gSlice (fr 5) fun a5 l5 c5 => gSlice (fr 6) fun a6 l6 c6 => D14.t R q1 a3 l3 c3 a4 l4 c4 a5 l5 c5 a6 l6 c6 h
theorem D14.ok (R : Rt) (fr : Fr) (h : Hp) (g : D14.g R fr h) : den prog E (cAt C [true, true, true, false]) (Ex.then (D9.g R) (retQ E [.tmp 2] R)) fr h := by
  obtain ⟨q1, e1, g⟩ := gPtrS_elim g
  obtain ⟨a3, l3, c3, e3, g⟩ := gSlice_elim g
  obtain ⟨a4, l4, c4, e4, g⟩ := gSlice_elim g
  obtain ⟨a5, l5, c5, e5, g⟩ := gSlice_elim g
  obtain ⟨a6, l6, c6, e6, g⟩ := gSlice_elim g
  exact den_cut 1 (r := (cAt C [true, true, true, false, true])) (by kernel_rfl) (B17.ok R) (den_enter [(1, .pointer (some q1)), (3, .slice a3 l3 c3), (4, .slice a4 l4 c4), (5, .slice a5 l5 c5), (6, .slice a6 l6 c6)] ⟨e1, e3, e4, e5, e6, trivial⟩ (by kernel_rfl) g)
theorem W18.ok (R : Rt) (fr : Fr) (h : Hp) (g : D14.g R fr h) : den prog E (cAt C [true, true, true]) (retQ E [.tmp 2] R) fr h :=
  den_then (by kernel_rfl) (W13.ok R) (D14.ok R fr h g)
def D1.t (R : Rt) (x0_0 : Int) (a0_1 : Option Addr) (l0_1 : Nat) (c0_1 : Nat) (a0_2 : Option Addr) (l0_2 : Nat) (c0_2 : Nat) (x0_3 : Int) (x0_4 : Int) (h : Hp) : Prop :=
  boxK h 43 [.int .i64 x0_0, .slice a0_1 l0_1 c0_1, .slice a0_2 l0_2 c0_2, .int .i64 x0_3, .int .u64 x0_4] fun q1 h2 =>
  ldK h2 (q1.add 1) fun v3 =>
  gSlice v3 fun a_4 l_4 c_4 =>
  HC gnomonref01_Spare.id #[.slice a_4 l_4 c_4] h2 fun v5 h6 =>
  gTup v5 fun y7 =>
  uncons y7 fun v8 y8 =>
  gSlice v8 fun a_9 l_9 c_9 =>
  uncons y8 fun v10 y10 =>
  gSlice v10 fun a_11 l_11 c_11 =>
  unnil y10 <| ldK h6 (q1.add 2) fun v12 =>
  gSlice v12 fun a_13 l_13 c_13 =>
  HC gnomonref01_Spare.id #[.slice a_13 l_13 c_13] h6 fun v14 h15 =>
  gTup v14 fun y16 =>
  uncons y16 fun v17 y17 =>
  gSlice v17 fun a_18 l_18 c_18 =>
  uncons y17 fun v19 y19 =>
  gSlice v19 fun a_20 l_20 c_20 =>
  unnil y19 <| D14.t R q1 a_9 l_9 c_9 a_11 l_11 c_11 a_18 l_18 c_18 a_20 l_20 c_20 h15
def D1.g (R : Rt) (fr : Fr) (h : Hp) : Prop := gAgg (fr 0) fun z0 => uncons z0 fun w0_0 z0_0 => gInt .i64 w0_0 fun x0_0 => uncons z0_0 fun w0_1 z0_1 => gSlice w0_1 fun a0_1 l0_1 c0_1 => uncons z0_1 fun w0_2 z0_2 => gSlice w0_2 fun a0_2 l0_2 c0_2 => uncons z0_2 fun w0_3 z0_3 => gInt .i64 w0_3 fun x0_3 => uncons z0_3 fun w0_4 z0_4 => gInt .u64 w0_4 fun x0_4 => unnil z0_4 <| D1.t R x0_0 a0_1 l0_1 c0_1 a0_2 l0_2 c0_2 x0_3 x0_4 h
theorem D1.ok (R : Rt) (fr : Fr) (h : Hp) (g : D1.g R fr h) : den prog E C (retQ E [.tmp 2] R) fr h := by
  obtain ⟨z0, e0, g0_0⟩ := gAgg_elim' g
  obtain ⟨w0_0, z0_0, rfl, g0_0x⟩ := uncons_elim g0_0
  obtain ⟨x0_0, rfl, g0_1⟩ := gInt_elim g0_0x
  obtain ⟨w0_1, z0_1, rfl, g0_1x⟩ := uncons_elim g0_1
  obtain ⟨a0_1, l0_1, c0_1, rfl, g0_2⟩ := gSlice_elim g0_1x
  obtain ⟨w0_2, z0_2, rfl, g0_2x⟩ := uncons_elim g0_2
  obtain ⟨a0_2, l0_2, c0_2, rfl, g0_3⟩ := gSlice_elim g0_2x
  obtain ⟨w0_3, z0_3, rfl, g0_3x⟩ := uncons_elim g0_3
  obtain ⟨x0_3, rfl, g0_4⟩ := gInt_elim g0_3x
  obtain ⟨w0_4, z0_4, rfl, g0_4x⟩ := uncons_elim g0_4
  obtain ⟨x0_4, rfl, g0_5⟩ := gInt_elim g0_4x
  obtain ⟨rfl, g⟩ := unnil_elim g0_5
  exact den_cut 3 (r := (cAt C [true, true, true])) (by kernel_rfl) (W18.ok R) (den_enter [(0, .agg #[.int .i64 x0_0, .slice a0_1 l0_1 c0_1, .slice a0_2 l0_2 c0_2, .int .i64 x0_3, .int .u64 x0_4])] ⟨e0, trivial⟩ (by kernel_rfl) g)
def t (x0_0 : Int) (a0_1 : Option Addr) (l0_1 : Nat) (c0_1 : Nat) (a0_2 : Option Addr) (l0_2 : Nat) (c0_2 : Nat) (x0_3 : Int) (x0_4 : Int) (h : Hp) (R : Rt) : Prop := D1.t R x0_0 a0_1 l0_1 c0_1 a0_2 l0_2 c0_2 x0_3 x0_4 h
theorem ok {x0_0 : Int} {a0_1 : Option Addr} {l0_1 : Nat} {c0_1 : Nat} {a0_2 : Option Addr} {l0_2 : Nat} {c0_2 : Nat} {x0_3 : Int} {x0_4 : Int} {h : Hp} {R : Rt} (g : t x0_0 a0_1 l0_1 c0_1 a0_2 l0_2 c0_2 x0_3 x0_4 h R) : HC id #[.agg #[.int .i64 x0_0, .slice a0_1 l0_1 c0_1, .slice a0_2 l0_2 c0_2, .int .i64 x0_3, .int .u64 x0_4]] h R :=
  calls_of_den' envOk (c := C) (rs := [.tmp 2]) Tryd.func26 (by kernel_rfl) (by kernel_rfl) (by kernel_rfl) (args := [.agg #[.int .i64 x0_0, .slice a0_1 l0_1 c0_1, .slice a0_2 l0_2 c0_2, .int .i64 x0_3, .int .u64 x0_4]]) (by kernel_rfl) (D1.ok R _ h (gAgg_intro rfl (uncons_intro (gInt_intro rfl (uncons_intro (gSlice_intro rfl (uncons_intro (gSlice_intro rfl (uncons_intro (gInt_intro rfl (uncons_intro (gInt_intro rfl (unnil_intro (g))))))))))))))
end gnomonlaw01_leaves

namespace nat_trim
noncomputable def C : Code := bodyOf Tryd.f27
def D2.t (R : Rt) (a0 : Option Addr) (l0 : Nat) (c0 : Nat) (x3 : Int) (h : Hp) : Prop :=
  slK 1 a0 l0 c0 none (some (.int .i64 x3)) none fun a_1 l_1 c_1 => R (.slice a_1 l_1 c_1) h
def D2.g (R : Rt) (fr : Fr) (h : Hp) : Prop := gSlice (fr 0) fun a0 l0 c0 => gInt .i64 (fr 3) fun x3 => D2.t R a0 l0 c0 x3 h
theorem D2.ok (R : Rt) (fr : Fr) (h : Hp) (g : D2.g R fr h) : den prog E (cAt C [true, true, true]) (retQ E [.tmp 2] R) fr h := by
  obtain ⟨a0, l0, c0, e0, g⟩ := gSlice_elim g
  obtain ⟨x3, e3, g⟩ := gInt_elim g
  exact den_enter [(0, .slice a0 l0 c0), (3, .int .i64 x3)] ⟨e0, e3, trivial⟩ (by kernel_rfl) g
def L3.g (N : Option Addr → Nat → Nat → Int → Hp → Prop) (fr : Fr) (h : Hp) : Prop := gSlice (fr 0) fun a0 l0 c0 => gInt .i64 (fr 3) fun x3 => N a0 l0 c0 x3 h
def D4.t (R : Rt) (N3 : Option Addr → Nat → Nat → Int → Hp → Prop) (a0 : Option Addr) (l0 : Nat) (c0 : Nat) (x3 : Int) (h : Hp) : Prop :=
  cond (decide (x3 > 0)) (letK (IntKind.i64.wrap (x3 - 1)) fun n2 =>
  idxK a0 l0 n2 1 fun q3 =>
  ldK h q3 fun v4 =>
  gInt .u64 v4 fun x_5 =>
  cond (x_5 == 0) (letK (IntKind.i64.wrap (x3 - 1)) fun n6 =>
  N3 a0 l0 c0 n6 h) (D2.t R a0 l0 c0 x3 h)) (D2.t R a0 l0 c0 x3 h)
def D4.g (R : Rt) (N3 : Option Addr → Nat → Nat → Int → Hp → Prop) (fr : Fr) (h : Hp) : Prop := gSlice (fr 0) fun a0 l0 c0 => gInt .i64 (fr 3) fun x3 => D4.t R N3 a0 l0 c0 x3 h
theorem D4.ok (R : Rt) (N3 : Option Addr → Nat → Nat → Int → Hp → Prop) (fr : Fr) (h : Hp) (g : D4.g R N3 fr h) : den prog E (cAt C [true, true, false, false, false]) (Ex.then (L3.g N3) (Ex.inBlock 0 (Ex.then (D2.g R) (retQ E [.tmp 2] R)))) fr h := by
  obtain ⟨a0, l0, c0, e0, g⟩ := gSlice_elim g
  obtain ⟨x3, e3, g⟩ := gInt_elim g
  exact den_enter [(0, .slice a0 l0 c0), (3, .int .i64 x3)] ⟨e0, e3, trivial⟩ (by kernel_rfl) g
def L3.t (R : Rt) : Nat → Option Addr → Nat → Nat → Int → Hp → Prop
  | 0 => fun _ _ _ _ _ => False
  | n + 1 => fun a0 l0 c0 x3 h => D4.t R (L3.t R n) a0 l0 c0 x3 h
theorem L3.ok (R : Rt) (fr : Fr) (h : Hp) (g : L3.g (fun a0 l0 c0 x3 h => ∃ n, L3.t R n a0 l0 c0 x3 h) fr h) : den prog E (cAt C [true, true, false, false]) (Ex.inBlock 0 (Ex.then (D2.g R) (retQ E [.tmp 2] R))) fr h := by
  obtain ⟨a0, l0, c0, e0, g⟩ := gSlice_elim g
  obtain ⟨x3, e3, g⟩ := gInt_elim g
  obtain ⟨n, g⟩ := g
  refine loop_ok (fun n => L3.g (L3.t R n)) (b := (cAt C [true, true, false, false, false])) (by kernel_rfl) (fun fr h g => ?_) (fun n => D4.ok R (L3.t R n)) n fr h (gSlice_intro e0 (gInt_intro e3 (g)))
  obtain ⟨a0, l0, c0, e0, g⟩ := gSlice_elim g
  obtain ⟨x3, e3, g⟩ := gInt_elim g
  exact g
theorem B5.ok (R : Rt) (fr : Fr) (h : Hp) (g : L3.g (fun a0 l0 c0 x3 h => ∃ n, L3.t R n a0 l0 c0 x3 h) fr h) : den prog E (cAt C [true, true, false]) (Ex.then (D2.g R) (retQ E [.tmp 2] R)) fr h :=
  den_block (by kernel_rfl) (L3.ok R fr h g)
theorem W6.ok (R : Rt) (fr : Fr) (h : Hp) (g : L3.g (fun a0 l0 c0 x3 h => ∃ n, L3.t R n a0 l0 c0 x3 h) fr h) : den prog E (cAt C [true, true]) (retQ E [.tmp 2] R) fr h :=
  den_then (by kernel_rfl) (D2.ok R) (B5.ok R fr h g)
def D1.t (R : Rt) (a0 : Option Addr) (l0 : Nat) (c0 : Nat) (h : Hp) : Prop :=
  (∃ n, L3.t R n a0 l0 c0 (((l0 : Nat) : Int)) h)
def D1.g (R : Rt) (fr : Fr) (h : Hp) : Prop := gSlice (fr 0) fun a0 l0 c0 => D1.t R a0 l0 c0 h
theorem D1.ok (R : Rt) (fr : Fr) (h : Hp) (g : D1.g R fr h) : den prog E C (retQ E [.tmp 2] R) fr h := by
  obtain ⟨a0, l0, c0, e0, g⟩ := gSlice_elim g
  exact den_cut 2 (r := (cAt C [true, true])) (by kernel_rfl) (W6.ok R) (den_enter [(0, .slice a0 l0 c0)] ⟨e0, trivial⟩ (by kernel_rfl) g)
def t (a0 : Option Addr) (l0 : Nat) (c0 : Nat) (h : Hp) (R : Rt) : Prop := D1.t R a0 l0 c0 h
theorem ok {a0 : Option Addr} {l0 : Nat} {c0 : Nat} {h : Hp} {R : Rt} (g : t a0 l0 c0 h R) : HC id #[.slice a0 l0 c0] h R :=
  calls_of_den' envOk (c := C) (rs := [.tmp 2]) Tryd.func27 (by kernel_rfl) (by kernel_rfl) (by kernel_rfl) (args := [.slice a0 l0 c0]) (by kernel_rfl) (D1.ok R _ h (gSlice_intro rfl (g)))
end nat_trim

namespace gnomonlaw01_plays
noncomputable def C : Code := bodyOf Tryd.f28
def D1.t (R : Rt) (x0_0 : Int) (a0_1 : Option Addr) (l0_1 : Nat) (c0_1 : Nat) (a0_2 : Option Addr) (l0_2 : Nat) (c0_2 : Nat) (x0_3 : Int) (x0_4 : Int) (h : Hp) : Prop :=
  boxK h 43 [.int .i64 x0_0, .slice a0_1 l0_1 c0_1, .slice a0_2 l0_2 c0_2, .int .i64 x0_3, .int .u64 x0_4] fun q1 h2 =>
  ldK h2 (q1.add 0) fun v3 =>
  gInt .i64 v3 fun x_4 =>
  cond (x_4 == 1) (ldK h2 (q1.add 0) fun v5 =>
  gInt .i64 v5 fun x_6 =>
  ldK h2 (q1.add 1) fun v7 =>
  gSlice v7 fun a_8 l_8 c_8 =>
  ldK h2 (q1.add 2) fun v9 =>
  gSlice v9 fun a_10 l_10 c_10 =>
  ldK h2 (q1.add 3) fun v11 =>
  gInt .i64 v11 fun x_12 =>
  ldK h2 (q1.add 4) fun v13 =>
  gInt .u64 v13 fun x_14 =>
  HC gnomonlaw01_asks.id #[.agg #[.int .i64 x_6, .slice a_8 l_8 c_8, .slice a_10 l_10 c_10, .int .i64 x_12, .int .u64 x_14]] h2 fun v15 h16 =>
  gBool v15 fun b_17 =>
  R (.bool b_17) h16) (cond (x_4 == 4) (ldK h2 (q1.add 0) fun v18 =>
  gInt .i64 v18 fun x_19 =>
  ldK h2 (q1.add 1) fun v20 =>
  gSlice v20 fun a_21 l_21 c_21 =>
  ldK h2 (q1.add 2) fun v22 =>
  gSlice v22 fun a_23 l_23 c_23 =>
  ldK h2 (q1.add 3) fun v24 =>
  gInt .i64 v24 fun x_25 =>
  ldK h2 (q1.add 4) fun v26 =>
  gInt .u64 v26 fun x_27 =>
  HC gnomonlaw01_asks.id #[.agg #[.int .i64 x_19, .slice a_21 l_21 c_21, .slice a_23 l_23 c_23, .int .i64 x_25, .int .u64 x_27]] h2 fun v28 h29 =>
  gBool v28 fun b_30 =>
  R (.bool b_30) h29) (cond (x_4 == 5) (ldK h2 (q1.add 0) fun v31 =>
  gInt .i64 v31 fun x_32 =>
  ldK h2 (q1.add 1) fun v33 =>
  gSlice v33 fun a_34 l_34 c_34 =>
  ldK h2 (q1.add 2) fun v35 =>
  gSlice v35 fun a_36 l_36 c_36 =>
  ldK h2 (q1.add 3) fun v37 =>
  gInt .i64 v37 fun x_38 =>
  ldK h2 (q1.add 4) fun v39 =>
  gInt .u64 v39 fun x_40 =>
  HC gnomonlaw01_asks.id #[.agg #[.int .i64 x_32, .slice a_34 l_34 c_34, .slice a_36 l_36 c_36, .int .i64 x_38, .int .u64 x_40]] h2 fun v41 h42 =>
  gBool v41 fun b_43 =>
  R (.bool b_43) h42) (cond (x_4 == 6) (ldK h2 (q1.add 0) fun v44 =>
  gInt .i64 v44 fun x_45 =>
  ldK h2 (q1.add 1) fun v46 =>
  gSlice v46 fun a_47 l_47 c_47 =>
  ldK h2 (q1.add 2) fun v48 =>
  gSlice v48 fun a_49 l_49 c_49 =>
  ldK h2 (q1.add 3) fun v50 =>
  gInt .i64 v50 fun x_51 =>
  ldK h2 (q1.add 4) fun v52 =>
  gInt .u64 v52 fun x_53 =>
  HC gnomonlaw01_asks.id #[.agg #[.int .i64 x_45, .slice a_47 l_47 c_47, .slice a_49 l_49 c_49, .int .i64 x_51, .int .u64 x_53]] h2 fun v54 h55 =>
  gBool v54 fun b_56 =>
  R (.bool b_56) h55) (cond (x_4 == 7) (ldK h2 (q1.add 0) fun v57 =>
  gInt .i64 v57 fun x_58 =>
  ldK h2 (q1.add 1) fun v59 =>
  gSlice v59 fun a_60 l_60 c_60 =>
  ldK h2 (q1.add 2) fun v61 =>
  gSlice v61 fun a_62 l_62 c_62 =>
  ldK h2 (q1.add 3) fun v63 =>
  gInt .i64 v63 fun x_64 =>
  ldK h2 (q1.add 4) fun v65 =>
  gInt .u64 v65 fun x_66 =>
  HC gnomonlaw01_asks.id #[.agg #[.int .i64 x_58, .slice a_60 l_60 c_60, .slice a_62 l_62 c_62, .int .i64 x_64, .int .u64 x_66]] h2 fun v67 h68 =>
  gBool v67 fun b_69 =>
  R (.bool b_69) h68) (cond (x_4 == 2) (ldK h2 (q1.add 0) fun v70 =>
  gInt .i64 v70 fun x_71 =>
  ldK h2 (q1.add 1) fun v72 =>
  gSlice v72 fun a_73 l_73 c_73 =>
  ldK h2 (q1.add 2) fun v74 =>
  gSlice v74 fun a_75 l_75 c_75 =>
  ldK h2 (q1.add 3) fun v76 =>
  gInt .i64 v76 fun x_77 =>
  ldK h2 (q1.add 4) fun v78 =>
  gInt .u64 v78 fun x_79 =>
  HC gnomonlaw01_twin.id #[.agg #[.int .i64 x_71, .slice a_73 l_73 c_73, .slice a_75 l_75 c_75, .int .i64 x_77, .int .u64 x_79]] h2 fun v80 h81 =>
  gAgg v80 fun y82 =>
  uncons y82 fun v83 y83 =>
  gInt .i64 v83 fun x_84 =>
  uncons y83 fun v85 y85 =>
  gSlice v85 fun a_86 l_86 c_86 =>
  uncons y85 fun v87 y87 =>
  gSlice v87 fun a_88 l_88 c_88 =>
  uncons y87 fun v89 y89 =>
  gInt .i64 v89 fun x_90 =>
  uncons y89 fun v91 y91 =>
  gInt .u64 v91 fun x_92 =>
  unnil y91 <| HC gnomonlaw01_list.id #[.agg #[.int .i64 x_84, .slice a_86 l_86 c_86, .slice a_88 l_88 c_88, .int .i64 x_90, .int .u64 x_92]] h81 fun v93 h94 =>
  gTup v93 fun y95 =>
  uncons y95 fun v96 y96 =>
  gSlice v96 fun a_97 l_97 c_97 =>
  uncons y96 fun v98 y98 =>
  gInt .u64 v98 fun x_99 =>
  uncons y98 fun v100 y100 =>
  gInt .i64 v100 fun x_101 =>
  unnil y100 <| ldK h94 (q1.add 0) fun v102 =>
  gInt .i64 v102 fun x_103 =>
  ldK h94 (q1.add 1) fun v104 =>
  gSlice v104 fun a_105 l_105 c_105 =>
  ldK h94 (q1.add 2) fun v106 =>
  gSlice v106 fun a_107 l_107 c_107 =>
  ldK h94 (q1.add 3) fun v108 =>
  gInt .i64 v108 fun x_109 =>
  ldK h94 (q1.add 4) fun v110 =>
  gInt .u64 v110 fun x_111 =>
  HC gnomonlaw01_doc.id #[.agg #[.int .i64 x_103, .slice a_105 l_105 c_105, .slice a_107 l_107 c_107, .int .i64 x_109, .int .u64 x_111]] h94 fun v112 h113 =>
  gTup v112 fun y114 =>
  uncons y114 fun v115 y115 =>
  gSlice v115 fun a_116 l_116 c_116 =>
  uncons y115 fun v117 y117 =>
  gInt .u64 v117 fun x_118 =>
  uncons y117 fun v119 y119 =>
  gInt .i64 v119 fun x_120 =>
  unnil y119 <| HC gnomonlaw01_told.id #[.slice a_97 l_97 c_97, .int .i64 x_101, .slice a_116 l_116 c_116, .int .i64 x_120] h113 fun v121 h122 =>
  gBool v121 fun b_123 =>
  cond b_123 (R (.bool (x_99 == x_118)) h122) (R (.bool false) h122)) (cond (x_4 == 3) (ldK h2 (q1.add 0) fun v124 =>
  gInt .i64 v124 fun x_125 =>
  ldK h2 (q1.add 1) fun v126 =>
  gSlice v126 fun a_127 l_127 c_127 =>
  ldK h2 (q1.add 2) fun v128 =>
  gSlice v128 fun a_129 l_129 c_129 =>
  ldK h2 (q1.add 3) fun v130 =>
  gInt .i64 v130 fun x_131 =>
  ldK h2 (q1.add 4) fun v132 =>
  gInt .u64 v132 fun x_133 =>
  HC gnomonlaw01_twin.id #[.agg #[.int .i64 x_125, .slice a_127 l_127 c_127, .slice a_129 l_129 c_129, .int .i64 x_131, .int .u64 x_133]] h2 fun v134 h135 =>
  gAgg v134 fun y136 =>
  uncons y136 fun v137 y137 =>
  gInt .i64 v137 fun x_138 =>
  uncons y137 fun v139 y139 =>
  gSlice v139 fun a_140 l_140 c_140 =>
  uncons y139 fun v141 y141 =>
  gSlice v141 fun a_142 l_142 c_142 =>
  uncons y141 fun v143 y143 =>
  gInt .i64 v143 fun x_144 =>
  uncons y143 fun v145 y145 =>
  gInt .u64 v145 fun x_146 =>
  unnil y145 <| HC gnomonlaw01_list.id #[.agg #[.int .i64 x_138, .slice a_140 l_140 c_140, .slice a_142 l_142 c_142, .int .i64 x_144, .int .u64 x_146]] h135 fun v147 h148 =>
  gTup v147 fun y149 =>
  uncons y149 fun v150 y150 =>
  gSlice v150 fun a_151 l_151 c_151 =>
  uncons y150 fun v152 y152 =>
  gInt .u64 v152 fun x_153 =>
  uncons y152 fun v154 y154 =>
  gInt .i64 v154 fun x_155 =>
  unnil y154 <| ldK h148 (q1.add 0) fun v156 =>
  gInt .i64 v156 fun x_157 =>
  ldK h148 (q1.add 1) fun v158 =>
  gSlice v158 fun a_159 l_159 c_159 =>
  ldK h148 (q1.add 2) fun v160 =>
  gSlice v160 fun a_161 l_161 c_161 =>
  ldK h148 (q1.add 3) fun v162 =>
  gInt .i64 v162 fun x_163 =>
  ldK h148 (q1.add 4) fun v164 =>
  gInt .u64 v164 fun x_165 =>
  HC gnomonlaw01_doc.id #[.agg #[.int .i64 x_157, .slice a_159 l_159 c_159, .slice a_161 l_161 c_161, .int .i64 x_163, .int .u64 x_165]] h148 fun v166 h167 =>
  gTup v166 fun y168 =>
  uncons y168 fun v169 y169 =>
  gSlice v169 fun a_170 l_170 c_170 =>
  uncons y169 fun v171 y171 =>
  gInt .u64 v171 fun x_172 =>
  uncons y171 fun v173 y173 =>
  gInt .i64 v173 fun x_174 =>
  unnil y173 <| HC gnomonlaw01_told.id #[.slice a_151 l_151 c_151, .int .i64 x_155, .slice a_170 l_170 c_170, .int .i64 x_174] h167 fun v175 h176 =>
  gBool v175 fun b_177 =>
  cond b_177 (R (.bool (x_153 == x_172)) h176) (R (.bool false) h176)) (cond (x_4 == 8) (ldK h2 (q1.add 0) fun v178 =>
  gInt .i64 v178 fun x_179 =>
  ldK h2 (q1.add 1) fun v180 =>
  gSlice v180 fun a_181 l_181 c_181 =>
  ldK h2 (q1.add 2) fun v182 =>
  gSlice v182 fun a_183 l_183 c_183 =>
  ldK h2 (q1.add 3) fun v184 =>
  gInt .i64 v184 fun x_185 =>
  ldK h2 (q1.add 4) fun v186 =>
  gInt .u64 v186 fun x_187 =>
  HC gnomonlaw01_twin.id #[.agg #[.int .i64 x_179, .slice a_181 l_181 c_181, .slice a_183 l_183 c_183, .int .i64 x_185, .int .u64 x_187]] h2 fun v188 h189 =>
  gAgg v188 fun y190 =>
  uncons y190 fun v191 y191 =>
  gInt .i64 v191 fun x_192 =>
  uncons y191 fun v193 y193 =>
  gSlice v193 fun a_194 l_194 c_194 =>
  uncons y193 fun v195 y195 =>
  gSlice v195 fun a_196 l_196 c_196 =>
  uncons y195 fun v197 y197 =>
  gInt .i64 v197 fun x_198 =>
  uncons y197 fun v199 y199 =>
  gInt .u64 v199 fun x_200 =>
  unnil y199 <| HC gnomonlaw01_list.id #[.agg #[.int .i64 x_192, .slice a_194 l_194 c_194, .slice a_196 l_196 c_196, .int .i64 x_198, .int .u64 x_200]] h189 fun v201 h202 =>
  gTup v201 fun y203 =>
  uncons y203 fun v204 y204 =>
  gSlice v204 fun a_205 l_205 c_205 =>
  uncons y204 fun v206 y206 =>
  gInt .u64 v206 fun x_207 =>
  uncons y206 fun v208 y208 =>
  gInt .i64 v208 fun x_209 =>
  unnil y208 <| ldK h202 (q1.add 0) fun v210 =>
  gInt .i64 v210 fun x_211 =>
  ldK h202 (q1.add 1) fun v212 =>
  gSlice v212 fun a_213 l_213 c_213 =>
  ldK h202 (q1.add 2) fun v214 =>
  gSlice v214 fun a_215 l_215 c_215 =>
  ldK h202 (q1.add 3) fun v216 =>
  gInt .i64 v216 fun x_217 =>
  ldK h202 (q1.add 4) fun v218 =>
  gInt .u64 v218 fun x_219 =>
  HC gnomonlaw01_doc.id #[.agg #[.int .i64 x_211, .slice a_213 l_213 c_213, .slice a_215 l_215 c_215, .int .i64 x_217, .int .u64 x_219]] h202 fun v220 h221 =>
  gTup v220 fun y222 =>
  uncons y222 fun v223 y223 =>
  gSlice v223 fun a_224 l_224 c_224 =>
  uncons y223 fun v225 y225 =>
  gInt .u64 v225 fun x_226 =>
  uncons y225 fun v227 y227 =>
  gInt .i64 v227 fun x_228 =>
  unnil y227 <| HC gnomonlaw01_told.id #[.slice a_205 l_205 c_205, .int .i64 x_209, .slice a_224 l_224 c_224, .int .i64 x_228] h221 fun v229 h230 =>
  gBool v229 fun b_231 =>
  cond b_231 (R (.bool (x_207 == x_226)) h230) (R (.bool false) h230)) (cond (x_4 == 9) (ldK h2 (q1.add 0) fun v232 =>
  gInt .i64 v232 fun x_233 =>
  ldK h2 (q1.add 1) fun v234 =>
  gSlice v234 fun a_235 l_235 c_235 =>
  ldK h2 (q1.add 2) fun v236 =>
  gSlice v236 fun a_237 l_237 c_237 =>
  ldK h2 (q1.add 3) fun v238 =>
  gInt .i64 v238 fun x_239 =>
  ldK h2 (q1.add 4) fun v240 =>
  gInt .u64 v240 fun x_241 =>
  HC gnomonlaw01_twin.id #[.agg #[.int .i64 x_233, .slice a_235 l_235 c_235, .slice a_237 l_237 c_237, .int .i64 x_239, .int .u64 x_241]] h2 fun v242 h243 =>
  gAgg v242 fun y244 =>
  uncons y244 fun v245 y245 =>
  gInt .i64 v245 fun x_246 =>
  uncons y245 fun v247 y247 =>
  gSlice v247 fun a_248 l_248 c_248 =>
  uncons y247 fun v249 y249 =>
  gSlice v249 fun a_250 l_250 c_250 =>
  uncons y249 fun v251 y251 =>
  gInt .i64 v251 fun x_252 =>
  uncons y251 fun v253 y253 =>
  gInt .u64 v253 fun x_254 =>
  unnil y253 <| HC gnomonlaw01_list.id #[.agg #[.int .i64 x_246, .slice a_248 l_248 c_248, .slice a_250 l_250 c_250, .int .i64 x_252, .int .u64 x_254]] h243 fun v255 h256 =>
  gTup v255 fun y257 =>
  uncons y257 fun v258 y258 =>
  gSlice v258 fun a_259 l_259 c_259 =>
  uncons y258 fun v260 y260 =>
  gInt .u64 v260 fun x_261 =>
  uncons y260 fun v262 y262 =>
  gInt .i64 v262 fun x_263 =>
  unnil y262 <| ldK h256 (q1.add 0) fun v264 =>
  gInt .i64 v264 fun x_265 =>
  ldK h256 (q1.add 1) fun v266 =>
  gSlice v266 fun a_267 l_267 c_267 =>
  ldK h256 (q1.add 2) fun v268 =>
  gSlice v268 fun a_269 l_269 c_269 =>
  ldK h256 (q1.add 3) fun v270 =>
  gInt .i64 v270 fun x_271 =>
  ldK h256 (q1.add 4) fun v272 =>
  gInt .u64 v272 fun x_273 =>
  HC gnomonlaw01_doc.id #[.agg #[.int .i64 x_265, .slice a_267 l_267 c_267, .slice a_269 l_269 c_269, .int .i64 x_271, .int .u64 x_273]] h256 fun v274 h275 =>
  gTup v274 fun y276 =>
  uncons y276 fun v277 y277 =>
  gSlice v277 fun a_278 l_278 c_278 =>
  uncons y277 fun v279 y279 =>
  gInt .u64 v279 fun x_280 =>
  uncons y279 fun v281 y281 =>
  gInt .i64 v281 fun x_282 =>
  unnil y281 <| HC gnomonlaw01_told.id #[.slice a_259 l_259 c_259, .int .i64 x_263, .slice a_278 l_278 c_278, .int .i64 x_282] h275 fun v283 h284 =>
  gBool v283 fun b_285 =>
  cond b_285 (R (.bool (x_261 == x_280)) h284) (R (.bool false) h284)) (cond (x_4 == 10) (ldK h2 (q1.add 0) fun v286 =>
  gInt .i64 v286 fun x_287 =>
  ldK h2 (q1.add 1) fun v288 =>
  gSlice v288 fun a_289 l_289 c_289 =>
  ldK h2 (q1.add 2) fun v290 =>
  gSlice v290 fun a_291 l_291 c_291 =>
  ldK h2 (q1.add 3) fun v292 =>
  gInt .i64 v292 fun x_293 =>
  ldK h2 (q1.add 4) fun v294 =>
  gInt .u64 v294 fun x_295 =>
  HC gnomonlaw01_twin.id #[.agg #[.int .i64 x_287, .slice a_289 l_289 c_289, .slice a_291 l_291 c_291, .int .i64 x_293, .int .u64 x_295]] h2 fun v296 h297 =>
  gAgg v296 fun y298 =>
  uncons y298 fun v299 y299 =>
  gInt .i64 v299 fun x_300 =>
  uncons y299 fun v301 y301 =>
  gSlice v301 fun a_302 l_302 c_302 =>
  uncons y301 fun v303 y303 =>
  gSlice v303 fun a_304 l_304 c_304 =>
  uncons y303 fun v305 y305 =>
  gInt .i64 v305 fun x_306 =>
  uncons y305 fun v307 y307 =>
  gInt .u64 v307 fun x_308 =>
  unnil y307 <| HC gnomonlaw01_list.id #[.agg #[.int .i64 x_300, .slice a_302 l_302 c_302, .slice a_304 l_304 c_304, .int .i64 x_306, .int .u64 x_308]] h297 fun v309 h310 =>
  gTup v309 fun y311 =>
  uncons y311 fun v312 y312 =>
  gSlice v312 fun a_313 l_313 c_313 =>
  uncons y312 fun v314 y314 =>
  gInt .u64 v314 fun x_315 =>
  uncons y314 fun v316 y316 =>
  gInt .i64 v316 fun x_317 =>
  unnil y316 <| ldK h310 (q1.add 0) fun v318 =>
  gInt .i64 v318 fun x_319 =>
  ldK h310 (q1.add 1) fun v320 =>
  gSlice v320 fun a_321 l_321 c_321 =>
  ldK h310 (q1.add 2) fun v322 =>
  gSlice v322 fun a_323 l_323 c_323 =>
  ldK h310 (q1.add 3) fun v324 =>
  gInt .i64 v324 fun x_325 =>
  ldK h310 (q1.add 4) fun v326 =>
  gInt .u64 v326 fun x_327 =>
  HC gnomonlaw01_doc.id #[.agg #[.int .i64 x_319, .slice a_321 l_321 c_321, .slice a_323 l_323 c_323, .int .i64 x_325, .int .u64 x_327]] h310 fun v328 h329 =>
  gTup v328 fun y330 =>
  uncons y330 fun v331 y331 =>
  gSlice v331 fun a_332 l_332 c_332 =>
  uncons y331 fun v333 y333 =>
  gInt .u64 v333 fun x_334 =>
  uncons y333 fun v335 y335 =>
  gInt .i64 v335 fun x_336 =>
  unnil y335 <| HC gnomonlaw01_told.id #[.slice a_313 l_313 c_313, .int .i64 x_317, .slice a_332 l_332 c_332, .int .i64 x_336] h329 fun v337 h338 =>
  gBool v337 fun b_339 =>
  cond b_339 (R (.bool (x_315 == x_334)) h338) (R (.bool false) h338)) (cond (x_4 == 11) (ldK h2 (q1.add 0) fun v340 =>
  gInt .i64 v340 fun x_341 =>
  ldK h2 (q1.add 1) fun v342 =>
  gSlice v342 fun a_343 l_343 c_343 =>
  ldK h2 (q1.add 2) fun v344 =>
  gSlice v344 fun a_345 l_345 c_345 =>
  ldK h2 (q1.add 3) fun v346 =>
  gInt .i64 v346 fun x_347 =>
  ldK h2 (q1.add 4) fun v348 =>
  gInt .u64 v348 fun x_349 =>
  HC gnomonlaw01_twin.id #[.agg #[.int .i64 x_341, .slice a_343 l_343 c_343, .slice a_345 l_345 c_345, .int .i64 x_347, .int .u64 x_349]] h2 fun v350 h351 =>
  gAgg v350 fun y352 =>
  uncons y352 fun v353 y353 =>
  gInt .i64 v353 fun x_354 =>
  uncons y353 fun v355 y355 =>
  gSlice v355 fun a_356 l_356 c_356 =>
  uncons y355 fun v357 y357 =>
  gSlice v357 fun a_358 l_358 c_358 =>
  uncons y357 fun v359 y359 =>
  gInt .i64 v359 fun x_360 =>
  uncons y359 fun v361 y361 =>
  gInt .u64 v361 fun x_362 =>
  unnil y361 <| HC gnomonlaw01_list.id #[.agg #[.int .i64 x_354, .slice a_356 l_356 c_356, .slice a_358 l_358 c_358, .int .i64 x_360, .int .u64 x_362]] h351 fun v363 h364 =>
  gTup v363 fun y365 =>
  uncons y365 fun v366 y366 =>
  gSlice v366 fun a_367 l_367 c_367 =>
  uncons y366 fun v368 y368 =>
  gInt .u64 v368 fun x_369 =>
  uncons y368 fun v370 y370 =>
  gInt .i64 v370 fun x_371 =>
  unnil y370 <| ldK h364 (q1.add 0) fun v372 =>
  gInt .i64 v372 fun x_373 =>
  ldK h364 (q1.add 1) fun v374 =>
  gSlice v374 fun a_375 l_375 c_375 =>
  ldK h364 (q1.add 2) fun v376 =>
  gSlice v376 fun a_377 l_377 c_377 =>
  ldK h364 (q1.add 3) fun v378 =>
  gInt .i64 v378 fun x_379 =>
  ldK h364 (q1.add 4) fun v380 =>
  gInt .u64 v380 fun x_381 =>
  HC gnomonlaw01_doc.id #[.agg #[.int .i64 x_373, .slice a_375 l_375 c_375, .slice a_377 l_377 c_377, .int .i64 x_379, .int .u64 x_381]] h364 fun v382 h383 =>
  gTup v382 fun y384 =>
  uncons y384 fun v385 y385 =>
  gSlice v385 fun a_386 l_386 c_386 =>
  uncons y385 fun v387 y387 =>
  gInt .u64 v387 fun x_388 =>
  uncons y387 fun v389 y389 =>
  gInt .i64 v389 fun x_390 =>
  unnil y389 <| HC gnomonlaw01_told.id #[.slice a_367 l_367 c_367, .int .i64 x_371, .slice a_386 l_386 c_386, .int .i64 x_390] h383 fun v391 h392 =>
  gBool v391 fun b_393 =>
  cond b_393 (R (.bool (x_369 == x_388)) h392) (R (.bool false) h392)) (cond (x_4 == 12) (ldK h2 (q1.add 0) fun v394 =>
  gInt .i64 v394 fun x_395 =>
  ldK h2 (q1.add 1) fun v396 =>
  gSlice v396 fun a_397 l_397 c_397 =>
  ldK h2 (q1.add 2) fun v398 =>
  gSlice v398 fun a_399 l_399 c_399 =>
  ldK h2 (q1.add 3) fun v400 =>
  gInt .i64 v400 fun x_401 =>
  ldK h2 (q1.add 4) fun v402 =>
  gInt .u64 v402 fun x_403 =>
  HC gnomonlaw01_twin.id #[.agg #[.int .i64 x_395, .slice a_397 l_397 c_397, .slice a_399 l_399 c_399, .int .i64 x_401, .int .u64 x_403]] h2 fun v404 h405 =>
  gAgg v404 fun y406 =>
  uncons y406 fun v407 y407 =>
  gInt .i64 v407 fun x_408 =>
  uncons y407 fun v409 y409 =>
  gSlice v409 fun a_410 l_410 c_410 =>
  uncons y409 fun v411 y411 =>
  gSlice v411 fun a_412 l_412 c_412 =>
  uncons y411 fun v413 y413 =>
  gInt .i64 v413 fun x_414 =>
  uncons y413 fun v415 y415 =>
  gInt .u64 v415 fun x_416 =>
  unnil y415 <| HC gnomonlaw01_list.id #[.agg #[.int .i64 x_408, .slice a_410 l_410 c_410, .slice a_412 l_412 c_412, .int .i64 x_414, .int .u64 x_416]] h405 fun v417 h418 =>
  gTup v417 fun y419 =>
  uncons y419 fun v420 y420 =>
  gSlice v420 fun a_421 l_421 c_421 =>
  uncons y420 fun v422 y422 =>
  gInt .u64 v422 fun x_423 =>
  uncons y422 fun v424 y424 =>
  gInt .i64 v424 fun x_425 =>
  unnil y424 <| ldK h418 (q1.add 0) fun v426 =>
  gInt .i64 v426 fun x_427 =>
  ldK h418 (q1.add 1) fun v428 =>
  gSlice v428 fun a_429 l_429 c_429 =>
  ldK h418 (q1.add 2) fun v430 =>
  gSlice v430 fun a_431 l_431 c_431 =>
  ldK h418 (q1.add 3) fun v432 =>
  gInt .i64 v432 fun x_433 =>
  ldK h418 (q1.add 4) fun v434 =>
  gInt .u64 v434 fun x_435 =>
  HC gnomonlaw01_doc.id #[.agg #[.int .i64 x_427, .slice a_429 l_429 c_429, .slice a_431 l_431 c_431, .int .i64 x_433, .int .u64 x_435]] h418 fun v436 h437 =>
  gTup v436 fun y438 =>
  uncons y438 fun v439 y439 =>
  gSlice v439 fun a_440 l_440 c_440 =>
  uncons y439 fun v441 y441 =>
  gInt .u64 v441 fun x_442 =>
  uncons y441 fun v443 y443 =>
  gInt .i64 v443 fun x_444 =>
  unnil y443 <| HC gnomonlaw01_told.id #[.slice a_421 l_421 c_421, .int .i64 x_425, .slice a_440 l_440 c_440, .int .i64 x_444] h437 fun v445 h446 =>
  gBool v445 fun b_447 =>
  cond b_447 (R (.bool (x_423 == x_442)) h446) (R (.bool false) h446)) (cond (x_4 == 13) (ldK h2 (q1.add 0) fun v448 =>
  gInt .i64 v448 fun x_449 =>
  ldK h2 (q1.add 1) fun v450 =>
  gSlice v450 fun a_451 l_451 c_451 =>
  ldK h2 (q1.add 2) fun v452 =>
  gSlice v452 fun a_453 l_453 c_453 =>
  ldK h2 (q1.add 3) fun v454 =>
  gInt .i64 v454 fun x_455 =>
  ldK h2 (q1.add 4) fun v456 =>
  gInt .u64 v456 fun x_457 =>
  HC gnomonlaw01_twin.id #[.agg #[.int .i64 x_449, .slice a_451 l_451 c_451, .slice a_453 l_453 c_453, .int .i64 x_455, .int .u64 x_457]] h2 fun v458 h459 =>
  gAgg v458 fun y460 =>
  uncons y460 fun v461 y461 =>
  gInt .i64 v461 fun x_462 =>
  uncons y461 fun v463 y463 =>
  gSlice v463 fun a_464 l_464 c_464 =>
  uncons y463 fun v465 y465 =>
  gSlice v465 fun a_466 l_466 c_466 =>
  uncons y465 fun v467 y467 =>
  gInt .i64 v467 fun x_468 =>
  uncons y467 fun v469 y469 =>
  gInt .u64 v469 fun x_470 =>
  unnil y469 <| HC gnomonlaw01_list.id #[.agg #[.int .i64 x_462, .slice a_464 l_464 c_464, .slice a_466 l_466 c_466, .int .i64 x_468, .int .u64 x_470]] h459 fun v471 h472 =>
  gTup v471 fun y473 =>
  uncons y473 fun v474 y474 =>
  gSlice v474 fun a_475 l_475 c_475 =>
  uncons y474 fun v476 y476 =>
  gInt .u64 v476 fun x_477 =>
  uncons y476 fun v478 y478 =>
  gInt .i64 v478 fun x_479 =>
  unnil y478 <| ldK h472 (q1.add 0) fun v480 =>
  gInt .i64 v480 fun x_481 =>
  ldK h472 (q1.add 1) fun v482 =>
  gSlice v482 fun a_483 l_483 c_483 =>
  ldK h472 (q1.add 2) fun v484 =>
  gSlice v484 fun a_485 l_485 c_485 =>
  ldK h472 (q1.add 3) fun v486 =>
  gInt .i64 v486 fun x_487 =>
  ldK h472 (q1.add 4) fun v488 =>
  gInt .u64 v488 fun x_489 =>
  HC gnomonlaw01_doc.id #[.agg #[.int .i64 x_481, .slice a_483 l_483 c_483, .slice a_485 l_485 c_485, .int .i64 x_487, .int .u64 x_489]] h472 fun v490 h491 =>
  gTup v490 fun y492 =>
  uncons y492 fun v493 y493 =>
  gSlice v493 fun a_494 l_494 c_494 =>
  uncons y493 fun v495 y495 =>
  gInt .u64 v495 fun x_496 =>
  uncons y495 fun v497 y497 =>
  gInt .i64 v497 fun x_498 =>
  unnil y497 <| HC gnomonlaw01_told.id #[.slice a_475 l_475 c_475, .int .i64 x_479, .slice a_494 l_494 c_494, .int .i64 x_498] h491 fun v499 h500 =>
  gBool v499 fun b_501 =>
  cond b_501 (R (.bool (x_477 == x_496)) h500) (R (.bool false) h500)) (cond (x_4 == 14) (ldK h2 (q1.add 0) fun v502 =>
  gInt .i64 v502 fun x_503 =>
  ldK h2 (q1.add 1) fun v504 =>
  gSlice v504 fun a_505 l_505 c_505 =>
  ldK h2 (q1.add 2) fun v506 =>
  gSlice v506 fun a_507 l_507 c_507 =>
  ldK h2 (q1.add 3) fun v508 =>
  gInt .i64 v508 fun x_509 =>
  ldK h2 (q1.add 4) fun v510 =>
  gInt .u64 v510 fun x_511 =>
  HC gnomonlaw01_twin.id #[.agg #[.int .i64 x_503, .slice a_505 l_505 c_505, .slice a_507 l_507 c_507, .int .i64 x_509, .int .u64 x_511]] h2 fun v512 h513 =>
  gAgg v512 fun y514 =>
  uncons y514 fun v515 y515 =>
  gInt .i64 v515 fun x_516 =>
  uncons y515 fun v517 y517 =>
  gSlice v517 fun a_518 l_518 c_518 =>
  uncons y517 fun v519 y519 =>
  gSlice v519 fun a_520 l_520 c_520 =>
  uncons y519 fun v521 y521 =>
  gInt .i64 v521 fun x_522 =>
  uncons y521 fun v523 y523 =>
  gInt .u64 v523 fun x_524 =>
  unnil y523 <| HC gnomonlaw01_list.id #[.agg #[.int .i64 x_516, .slice a_518 l_518 c_518, .slice a_520 l_520 c_520, .int .i64 x_522, .int .u64 x_524]] h513 fun v525 h526 =>
  gTup v525 fun y527 =>
  uncons y527 fun v528 y528 =>
  gSlice v528 fun a_529 l_529 c_529 =>
  uncons y528 fun v530 y530 =>
  gInt .u64 v530 fun x_531 =>
  uncons y530 fun v532 y532 =>
  gInt .i64 v532 fun x_533 =>
  unnil y532 <| ldK h526 (q1.add 0) fun v534 =>
  gInt .i64 v534 fun x_535 =>
  ldK h526 (q1.add 1) fun v536 =>
  gSlice v536 fun a_537 l_537 c_537 =>
  ldK h526 (q1.add 2) fun v538 =>
  gSlice v538 fun a_539 l_539 c_539 =>
  ldK h526 (q1.add 3) fun v540 =>
  gInt .i64 v540 fun x_541 =>
  ldK h526 (q1.add 4) fun v542 =>
  gInt .u64 v542 fun x_543 =>
  HC gnomonlaw01_doc.id #[.agg #[.int .i64 x_535, .slice a_537 l_537 c_537, .slice a_539 l_539 c_539, .int .i64 x_541, .int .u64 x_543]] h526 fun v544 h545 =>
  gTup v544 fun y546 =>
  uncons y546 fun v547 y547 =>
  gSlice v547 fun a_548 l_548 c_548 =>
  uncons y547 fun v549 y549 =>
  gInt .u64 v549 fun x_550 =>
  uncons y549 fun v551 y551 =>
  gInt .i64 v551 fun x_552 =>
  unnil y551 <| HC gnomonlaw01_told.id #[.slice a_529 l_529 c_529, .int .i64 x_533, .slice a_548 l_548 c_548, .int .i64 x_552] h545 fun v553 h554 =>
  gBool v553 fun b_555 =>
  cond b_555 (R (.bool (x_531 == x_550)) h554) (R (.bool false) h554)) (R (.bool true) h2))))))))))))))
def D1.g (R : Rt) (fr : Fr) (h : Hp) : Prop := gAgg (fr 0) fun z0 => uncons z0 fun w0_0 z0_0 => gInt .i64 w0_0 fun x0_0 => uncons z0_0 fun w0_1 z0_1 => gSlice w0_1 fun a0_1 l0_1 c0_1 => uncons z0_1 fun w0_2 z0_2 => gSlice w0_2 fun a0_2 l0_2 c0_2 => uncons z0_2 fun w0_3 z0_3 => gInt .i64 w0_3 fun x0_3 => uncons z0_3 fun w0_4 z0_4 => gInt .u64 w0_4 fun x0_4 => unnil z0_4 <| D1.t R x0_0 a0_1 l0_1 c0_1 a0_2 l0_2 c0_2 x0_3 x0_4 h
theorem D1.ok (R : Rt) (fr : Fr) (h : Hp) (g : D1.g R fr h) : den prog E C (retQ E [.tmp 2] R) fr h := by
  obtain ⟨z0, e0, g0_0⟩ := gAgg_elim' g
  obtain ⟨w0_0, z0_0, rfl, g0_0x⟩ := uncons_elim g0_0
  obtain ⟨x0_0, rfl, g0_1⟩ := gInt_elim g0_0x
  obtain ⟨w0_1, z0_1, rfl, g0_1x⟩ := uncons_elim g0_1
  obtain ⟨a0_1, l0_1, c0_1, rfl, g0_2⟩ := gSlice_elim g0_1x
  obtain ⟨w0_2, z0_2, rfl, g0_2x⟩ := uncons_elim g0_2
  obtain ⟨a0_2, l0_2, c0_2, rfl, g0_3⟩ := gSlice_elim g0_2x
  obtain ⟨w0_3, z0_3, rfl, g0_3x⟩ := uncons_elim g0_3
  obtain ⟨x0_3, rfl, g0_4⟩ := gInt_elim g0_3x
  obtain ⟨w0_4, z0_4, rfl, g0_4x⟩ := uncons_elim g0_4
  obtain ⟨x0_4, rfl, g0_5⟩ := gInt_elim g0_4x
  obtain ⟨rfl, g⟩ := unnil_elim g0_5
  exact den_enter [(0, .agg #[.int .i64 x0_0, .slice a0_1 l0_1 c0_1, .slice a0_2 l0_2 c0_2, .int .i64 x0_3, .int .u64 x0_4])] ⟨e0, trivial⟩ (by kernel_rfl) g
def t (x0_0 : Int) (a0_1 : Option Addr) (l0_1 : Nat) (c0_1 : Nat) (a0_2 : Option Addr) (l0_2 : Nat) (c0_2 : Nat) (x0_3 : Int) (x0_4 : Int) (h : Hp) (R : Rt) : Prop := D1.t R x0_0 a0_1 l0_1 c0_1 a0_2 l0_2 c0_2 x0_3 x0_4 h
theorem ok {x0_0 : Int} {a0_1 : Option Addr} {l0_1 : Nat} {c0_1 : Nat} {a0_2 : Option Addr} {l0_2 : Nat} {c0_2 : Nat} {x0_3 : Int} {x0_4 : Int} {h : Hp} {R : Rt} (g : t x0_0 a0_1 l0_1 c0_1 a0_2 l0_2 c0_2 x0_3 x0_4 h R) : HC id #[.agg #[.int .i64 x0_0, .slice a0_1 l0_1 c0_1, .slice a0_2 l0_2 c0_2, .int .i64 x0_3, .int .u64 x0_4]] h R :=
  calls_of_den' envOk (c := C) (rs := [.tmp 2]) Tryd.func28 (by kernel_rfl) (by kernel_rfl) (by kernel_rfl) (args := [.agg #[.int .i64 x0_0, .slice a0_1 l0_1 c0_1, .slice a0_2 l0_2 c0_2, .int .i64 x0_3, .int .u64 x0_4]]) (by kernel_rfl) (D1.ok R _ h (gAgg_intro rfl (uncons_intro (gInt_intro rfl (uncons_intro (gSlice_intro rfl (uncons_intro (gSlice_intro rfl (uncons_intro (gInt_intro rfl (uncons_intro (gInt_intro rfl (unnil_intro (g))))))))))))))
end gnomonlaw01_plays

namespace bits_Len64
noncomputable def C : Code := bodyOf Tryd.f29
def D4.t (R : Rt) (x0 : Int) (x2 : Int) (h : Hp) : Prop :=
  letK (IntKind.u8.wrap x0) fun n6 =>
  idxS (⟨#[0, 1, 2, 2, 3, 3, 3, 3, 4, 4, 4, 4, 4, 4, 4, 4, 5, 5, 5, 5, 5, 5, 5, 5, 5, 5, 5, 5, 5, 5, 5, 5, 6, 6, 6, 6, 6, 6, 6, 6, 6, 6, 6, 6, 6, 6, 6, 6, 6, 6, 6, 6, 6, 6, 6, 6, 6, 6, 6, 6, 6, 6, 6, 6, 7, 7, 7, 7, 7, 7, 7, 7, 7, 7, 7, 7, 7, 7, 7, 7, 7, 7, 7, 7, 7, 7, 7, 7, 7, 7, 7, 7, 7, 7, 7, 7, 7, 7, 7, 7, 7, 7, 7, 7, 7, 7, 7, 7, 7, 7, 7, 7, 7, 7, 7, 7, 7, 7, 7, 7, 7, 7, 7, 7, 7, 7, 7, 7, 8, 8, 8, 8, 8, 8, 8, 8, 8, 8, 8, 8, 8, 8, 8, 8, 8, 8, 8, 8, 8, 8, 8, 8, 8, 8, 8, 8, 8, 8, 8, 8, 8, 8, 8, 8, 8, 8, 8, 8, 8, 8, 8, 8, 8, 8, 8, 8, 8, 8, 8, 8, 8, 8, 8, 8, 8, 8, 8, 8, 8, 8, 8, 8, 8, 8, 8, 8, 8, 8, 8, 8, 8, 8, 8, 8, 8, 8, 8, 8, 8, 8, 8, 8, 8, 8, 8, 8, 8, 8, 8, 8, 8, 8, 8, 8, 8, 8, 8, 8, 8, 8, 8, 8, 8, 8, 8, 8, 8, 8, 8, 8, 8, 8, 8, 8, 8, 8, 8, 8, 8, 8, 8, 8, 8, 8, 8, 8]⟩ : ByteArray) n6 fun n7 =>
  letK (IntKind.i64.wrap n7) fun n8 =>
  letK (IntKind.i64.wrap (x2 + n8)) fun n9 =>
  R (.int .i64 n9) h
def D4.g (R : Rt) (fr : Fr) (h : Hp) : Prop := gInt .u64 (fr 0) fun x0 => gInt .i64 (fr 2) fun x2 => D4.t R x0 x2 h
theorem D4.ok (R : Rt) (fr : Fr) (h : Hp) (g : D4.g R fr h) : den prog E (cAt C [true, true, true, true]) (retQ E [.tmp 2] R) fr h := by
  obtain ⟨x0, e0, g⟩ := gInt_elim g
  obtain ⟨x2, e2, g⟩ := gInt_elim g
  exact den_enter [(0, .int .u64 x0), (2, .int .i64 x2)] ⟨e0, e2, trivial⟩ (by kernel_rfl) g
def D3.t (R : Rt) (x0 : Int) (x2 : Int) (h : Hp) : Prop :=
  cond (decide (x0 ≥ 256)) (0 ≤ (8 : Int) ∧ letK (shrI .u64 x0 8) fun n4 =>
  letK (IntKind.i64.wrap (x2 + 8)) fun n5 =>
  D4.t R n4 n5 h) (D4.t R x0 x2 h)
def D3.g (R : Rt) (fr : Fr) (h : Hp) : Prop := gInt .u64 (fr 0) fun x0 => gInt .i64 (fr 2) fun x2 => D3.t R x0 x2 h
theorem D3.ok (R : Rt) (fr : Fr) (h : Hp) (g : D3.g R fr h) : den prog E (cAt C [true, true, true]) (retQ E [.tmp 2] R) fr h := by
  obtain ⟨x0, e0, g⟩ := gInt_elim g
  obtain ⟨x2, e2, g⟩ := gInt_elim g
  exact den_cut 1 (r := (cAt C [true, true, true, true])) (by kernel_rfl) (D4.ok R) (den_enter [(0, .int .u64 x0), (2, .int .i64 x2)] ⟨e0, e2, trivial⟩ (by kernel_rfl) g)
def D2.t (R : Rt) (x0 : Int) (x2 : Int) (h : Hp) : Prop :=
  cond (decide (x0 ≥ 65536)) (0 ≤ (16 : Int) ∧ letK (shrI .u64 x0 16) fun n2 =>
  letK (IntKind.i64.wrap (x2 + 16)) fun n3 =>
  D3.t R n2 n3 h) (D3.t R x0 x2 h)
def D2.g (R : Rt) (fr : Fr) (h : Hp) : Prop := gInt .u64 (fr 0) fun x0 => gInt .i64 (fr 2) fun x2 => D2.t R x0 x2 h
theorem D2.ok (R : Rt) (fr : Fr) (h : Hp) (g : D2.g R fr h) : den prog E (cAt C [true, true]) (retQ E [.tmp 2] R) fr h := by
  obtain ⟨x0, e0, g⟩ := gInt_elim g
  obtain ⟨x2, e2, g⟩ := gInt_elim g
  exact den_cut 1 (r := (cAt C [true, true, true])) (by kernel_rfl) (D3.ok R) (den_enter [(0, .int .u64 x0), (2, .int .i64 x2)] ⟨e0, e2, trivial⟩ (by kernel_rfl) g)
def D1.t (R : Rt) (x0 : Int) (h : Hp) : Prop :=
  cond (decide (x0 ≥ 4294967296)) (0 ≤ (32 : Int) ∧ letK (shrI .u64 x0 32) fun n1 =>
  D2.t R n1 32 h) (D2.t R x0 0 h)
def D1.g (R : Rt) (fr : Fr) (h : Hp) : Prop := gInt .u64 (fr 0) fun x0 => D1.t R x0 h
theorem D1.ok (R : Rt) (fr : Fr) (h : Hp) (g : D1.g R fr h) : den prog E C (retQ E [.tmp 2] R) fr h := by
  obtain ⟨x0, e0, g⟩ := gInt_elim g
  exact den_cut 2 (r := (cAt C [true, true])) (by kernel_rfl) (D2.ok R) (den_enter [(0, .int .u64 x0)] ⟨e0, trivial⟩ (by kernel_rfl) g)
def t (x0 : Int) (h : Hp) (R : Rt) : Prop := D1.t R x0 h
theorem ok {x0 : Int} {h : Hp} {R : Rt} (g : t x0 h R) : HC id #[.int .u64 x0] h R :=
  calls_of_den' envOk (c := C) (rs := [.tmp 2]) Tryd.func29 (by kernel_rfl) (by kernel_rfl) (by kernel_rfl) (args := [.int .u64 x0]) (by kernel_rfl) (D1.ok R _ h (gInt_intro rfl (g)))
end bits_Len64

namespace bits_TrailingZeros64
noncomputable def C : Code := bodyOf Tryd.f30
def D2.t (R : Rt) (x0 : Int) (h : Hp) : Prop :=
  letK (IntKind.u64.wrap (0 - x0)) fun n1 =>
  letK (andI .u64 x0 n1) fun n2 =>
  letK (IntKind.u64.wrap (n2 * 285870213051353865)) fun n3 =>
  0 ≤ (58 : Int) ∧ letK (shrI .u64 n3 58) fun n4 =>
  idxK (some ⟨0, 0, none⟩) 64 n4 1 fun q5 =>
  ldK h q5 fun v6 =>
  gInt .u8 v6 fun x_7 =>
  letK (IntKind.i64.wrap x_7) fun n8 =>
  R (.int .i64 n8) h
def D2.g (R : Rt) (fr : Fr) (h : Hp) : Prop := gInt .u64 (fr 0) fun x0 => D2.t R x0 h
theorem D2.ok (R : Rt) (fr : Fr) (h : Hp) (g : D2.g R fr h) : den prog E (cAt C [true, true]) (retQ E [.tmp 2] R) fr h := by
  obtain ⟨x0, e0, g⟩ := gInt_elim g
  exact den_enter [(0, .int .u64 x0)] ⟨e0, trivial⟩ (by kernel_rfl) g
def D1.t (R : Rt) (x0 : Int) (h : Hp) : Prop :=
  cond (x0 == 0) (R (.int .i64 64) h) (D2.t R x0 h)
def D1.g (R : Rt) (fr : Fr) (h : Hp) : Prop := gInt .u64 (fr 0) fun x0 => D1.t R x0 h
theorem D1.ok (R : Rt) (fr : Fr) (h : Hp) (g : D1.g R fr h) : den prog E C (retQ E [.tmp 2] R) fr h := by
  obtain ⟨x0, e0, g⟩ := gInt_elim g
  exact den_cut 2 (r := (cAt C [true, true])) (by kernel_rfl) (D2.ok R) (den_enter [(0, .int .u64 x0)] ⟨e0, trivial⟩ (by kernel_rfl) g)
def t (x0 : Int) (h : Hp) (R : Rt) : Prop := D1.t R x0 h
theorem ok {x0 : Int} {h : Hp} {R : Rt} (g : t x0 h R) : HC id #[.int .u64 x0] h R :=
  calls_of_den' envOk (c := C) (rs := [.tmp 2]) Tryd.func30 (by kernel_rfl) (by kernel_rfl) (by kernel_rfl) (args := [.int .u64 x0]) (by kernel_rfl) (D1.ok R _ h (gInt_intro rfl (g)))
end bits_TrailingZeros64

namespace nat_Add
noncomputable def C : Code := bodyOf Tryd.f31
def D4.t (R : Rt) (a0 : Option Addr) (l0 : Nat) (c0 : Nat) (a6 : Option Addr) (l6 : Nat) (c6 : Nat) (x7 : Int) (h : Hp) : Prop :=
  idxK a6 l6 (((l0 : Nat) : Int)) 1 fun q10 =>
  stK h q10 (.int .u64 x7) fun h11 =>
  HC nat_told.id #[.slice a6 l6 c6] h11 fun v12 h13 =>
  gTup v12 fun y14 =>
  uncons y14 fun v15 y15 =>
  gSlice v15 fun a_16 l_16 c_16 =>
  uncons y15 fun v17 y17 =>
  gInt .i64 v17 fun x_18 =>
  unnil y17 <| R (.tuple #[.slice a_16 l_16 c_16, .int .i64 x_18]) h13
def D4.g (R : Rt) (fr : Fr) (h : Hp) : Prop := gSlice (fr 0) fun a0 l0 c0 => gSlice (fr 6) fun a6 l6 c6 => gInt .u64 (fr 7) fun x7 => D4.t R a0 l0 c0 a6 l6 c6 x7 h
theorem D4.ok (R : Rt) (fr : Fr) (h : Hp) (g : D4.g R fr h) : den prog E (cAt C [true, true, true, true, true, true]) (retQ E [.tmp 4, .tmp 5] R) fr h := by
  obtain ⟨a0, l0, c0, e0, g⟩ := gSlice_elim g
  obtain ⟨a6, l6, c6, e6, g⟩ := gSlice_elim g
  obtain ⟨x7, e7, g⟩ := gInt_elim g
  exact den_enter [(0, .slice a0 l0 c0), (6, .slice a6 l6 c6), (7, .int .u64 x7)] ⟨e0, e6, e7, trivial⟩ (by kernel_rfl) g
def L6.g (N : Option Addr → Nat → Nat → Option Addr → Nat → Nat → Option Addr → Nat → Nat → Int → Int → Int → Hp → Prop) (fr : Fr) (h : Hp) : Prop := gSlice (fr 0) fun a0 l0 c0 => gSlice (fr 1) fun a1 l1 c1 => gSlice (fr 6) fun a6 l6 c6 => gInt .u64 (fr 7) fun x7 => gInt .i64 (fr 30) fun x30 => gInt .i64 (fr 31) fun x31 => N a0 l0 c0 a1 l1 c1 a6 l6 c6 x7 x30 x31 h
def D7.t (R : Rt) (N6 : Option Addr → Nat → Nat → Option Addr → Nat → Nat → Option Addr → Nat → Nat → Int → Int → Int → Hp → Prop) (a0 : Option Addr) (l0 : Nat) (c0 : Nat) (a1 : Option Addr) (l1 : Nat) (c1 : Nat) (a6 : Option Addr) (l6 : Nat) (c6 : Nat) (x7 : Int) (x30 : Int) (x31 : Int) (h : Hp) : Prop :=
  cond (decide (x31 < x30)) (cond (decide (x31 < (((l1 : Nat) : Int)))) (idxK a1 l1 x31 1 fun q19 =>
  ldK h q19 fun v20 =>
  gInt .u64 v20 fun x_21 =>
  idxK a0 l0 x31 1 fun q22 =>
  ldK h q22 fun v23 =>
  gInt .u64 v23 fun x_24 =>
  addK x_24 x_21 x7 fun n25 m25 =>
  idxK a6 l6 x31 1 fun q26 =>
  stK h q26 (.int .u64 n25) fun h27 =>
  letK (IntKind.i64.wrap (x31 + 1)) fun n28 =>
  N6 a0 l0 c0 a1 l1 c1 a6 l6 c6 m25 x30 n28 h27) (idxK a0 l0 x31 1 fun q29 =>
  ldK h q29 fun v30 =>
  gInt .u64 v30 fun x_31 =>
  addK x_31 0 x7 fun n32 m32 =>
  idxK a6 l6 x31 1 fun q33 =>
  stK h q33 (.int .u64 n32) fun h34 =>
  letK (IntKind.i64.wrap (x31 + 1)) fun n35 =>
  N6 a0 l0 c0 a1 l1 c1 a6 l6 c6 m32 x30 n35 h34)) (D4.t R a0 l0 c0 a6 l6 c6 x7 h)
def D7.g (R : Rt) (N6 : Option Addr → Nat → Nat → Option Addr → Nat → Nat → Option Addr → Nat → Nat → Int → Int → Int → Hp → Prop) (fr : Fr) (h : Hp) : Prop := gSlice (fr 0) fun a0 l0 c0 => gSlice (fr 1) fun a1 l1 c1 => gSlice (fr 6) fun a6 l6 c6 => gInt .u64 (fr 7) fun x7 => gInt .i64 (fr 30) fun x30 => gInt .i64 (fr 31) fun x31 => D7.t R N6 a0 l0 c0 a1 l1 c1 a6 l6 c6 x7 x30 x31 h
theorem D7.ok (R : Rt) (N6 : Option Addr → Nat → Nat → Option Addr → Nat → Nat → Option Addr → Nat → Nat → Int → Int → Int → Hp → Prop) (fr : Fr) (h : Hp) (g : D7.g R N6 fr h) : den prog E (cAt C [true, true, true, true, true, false, true, false, false]) (Ex.then (L6.g N6) (Ex.inBlock 0 (Ex.then (D4.g R) (retQ E [.tmp 4, .tmp 5] R)))) fr h := by
  obtain ⟨a0, l0, c0, e0, g⟩ := gSlice_elim g
  obtain ⟨a1, l1, c1, e1, g⟩ := gSlice_elim g
  obtain ⟨a6, l6, c6, e6, g⟩ := gSlice_elim g
  obtain ⟨x7, e7, g⟩ := gInt_elim g
  obtain ⟨x30, e30, g⟩ := gInt_elim g
  obtain ⟨x31, e31, g⟩ := gInt_elim g
  exact den_enter [(0, .slice a0 l0 c0), (1, .slice a1 l1 c1), (6, .slice a6 l6 c6), (7, .int .u64 x7), (30, .int .i64 x30), (31, .int .i64 x31)] ⟨e0, e1, e6, e7, e30, e31, trivial⟩ (by kernel_rfl) g
def L6.t (R : Rt) : Nat → Option Addr → Nat → Nat → Option Addr → Nat → Nat → Option Addr → Nat → Nat → Int → Int → Int → Hp → Prop
  | 0 => fun _ _ _ _ _ _ _ _ _ _ _ _ _ => False
  | n + 1 => fun a0 l0 c0 a1 l1 c1 a6 l6 c6 x7 x30 x31 h => D7.t R (L6.t R n) a0 l0 c0 a1 l1 c1 a6 l6 c6 x7 x30 x31 h
theorem L6.ok (R : Rt) (fr : Fr) (h : Hp) (g : L6.g (fun a0 l0 c0 a1 l1 c1 a6 l6 c6 x7 x30 x31 h => ∃ n, L6.t R n a0 l0 c0 a1 l1 c1 a6 l6 c6 x7 x30 x31 h) fr h) : den prog E (cAt C [true, true, true, true, true, false, true, false]) (Ex.inBlock 0 (Ex.then (D4.g R) (retQ E [.tmp 4, .tmp 5] R))) fr h := by
  obtain ⟨a0, l0, c0, e0, g⟩ := gSlice_elim g
  obtain ⟨a1, l1, c1, e1, g⟩ := gSlice_elim g
  obtain ⟨a6, l6, c6, e6, g⟩ := gSlice_elim g
  obtain ⟨x7, e7, g⟩ := gInt_elim g
  obtain ⟨x30, e30, g⟩ := gInt_elim g
  obtain ⟨x31, e31, g⟩ := gInt_elim g
  obtain ⟨n, g⟩ := g
  refine loop_ok (fun n => L6.g (L6.t R n)) (b := (cAt C [true, true, true, true, true, false, true, false, false])) (by kernel_rfl) (fun fr h g => ?_) (fun n => D7.ok R (L6.t R n)) n fr h (gSlice_intro e0 (gSlice_intro e1 (gSlice_intro e6 (gInt_intro e7 (gInt_intro e30 (gInt_intro e31 (g)))))))
  obtain ⟨a0, l0, c0, e0, g⟩ := gSlice_elim g
  obtain ⟨a1, l1, c1, e1, g⟩ := gSlice_elim g
  obtain ⟨a6, l6, c6, e6, g⟩ := gSlice_elim g
  obtain ⟨x7, e7, g⟩ := gInt_elim g
  obtain ⟨x30, e30, g⟩ := gInt_elim g
  obtain ⟨x31, e31, g⟩ := gInt_elim g
  exact g
theorem B8.ok (R : Rt) (fr : Fr) (h : Hp) (g : L6.g (fun a0 l0 c0 a1 l1 c1 a6 l6 c6 x7 x30 x31 h => ∃ n, L6.t R n a0 l0 c0 a1 l1 c1 a6 l6 c6 x7 x30 x31 h) fr h) : den prog E (cAt C [true, true, true, true, true, false, true]) (Ex.then (D4.g R) (retQ E [.tmp 4, .tmp 5] R)) fr h :=
  den_block (by kernel_rfl) (L6.ok R fr h g)
def D5.t (R : Rt) (a0 : Option Addr) (l0 : Nat) (c0 : Nat) (a1 : Option Addr) (l1 : Nat) (c1 : Nat) (a6 : Option Addr) (l6 : Nat) (c6 : Nat) (x7 : Int) (h : Hp) : Prop :=
  (∃ n, L6.t R n a0 l0 c0 a1 l1 c1 a6 l6 c6 x7 (((l0 : Nat) : Int)) 0 h)
def D5.g (R : Rt) (fr : Fr) (h : Hp) : Prop := gSlice (fr 0) fun a0 l0 c0 => gSlice (fr 1) fun a1 l1 c1 => gSlice (fr 6) fun a6 l6 c6 => gInt .u64 (fr 7) fun x7 => D5.t R a0 l0 c0 a1 l1 c1 a6 l6 c6 x7 h
theorem D5.ok (R : Rt) (fr : Fr) (h : Hp) (g : D5.g R fr h) : den prog E (cAt C [true, true, true, true, true, false]) (Ex.then (D4.g R) (retQ E [.tmp 4, .tmp 5] R)) fr h := by
  obtain ⟨a0, l0, c0, e0, g⟩ := gSlice_elim g
  obtain ⟨a1, l1, c1, e1, g⟩ := gSlice_elim g
  obtain ⟨a6, l6, c6, e6, g⟩ := gSlice_elim g
  obtain ⟨x7, e7, g⟩ := gInt_elim g
  exact den_cut 1 (r := (cAt C [true, true, true, true, true, false, true])) (by kernel_rfl) (B8.ok R) (den_enter [(0, .slice a0 l0 c0), (1, .slice a1 l1 c1), (6, .slice a6 l6 c6), (7, .int .u64 x7)] ⟨e0, e1, e6, e7, trivial⟩ (by kernel_rfl) g)
theorem W9.ok (R : Rt) (fr : Fr) (h : Hp) (g : D5.g R fr h) : den prog E (cAt C [true, true, true, true, true]) (retQ E [.tmp 4, .tmp 5] R) fr h :=
  den_then (by kernel_rfl) (D4.ok R) (D5.ok R fr h g)
def D3.t (R : Rt) (a0 : Option Addr) (l0 : Nat) (c0 : Nat) (a1 : Option Addr) (l1 : Nat) (c1 : Nat) (h : Hp) : Prop :=
  letK (IntKind.i64.wrap ((((l0 : Nat) : Int)) + 1)) fun n7 =>
  mkK h 27 T27 n7 n7 fun q8 h9 =>
  D5.t R a0 l0 c0 a1 l1 c1 (some q8) n7.toNat n7.toNat 0 h9
def D3.g (R : Rt) (fr : Fr) (h : Hp) : Prop := gSlice (fr 0) fun a0 l0 c0 => gSlice (fr 1) fun a1 l1 c1 => D3.t R a0 l0 c0 a1 l1 c1 h
theorem D3.ok (R : Rt) (fr : Fr) (h : Hp) (g : D3.g R fr h) : den prog E (cAt C [true, true, true]) (retQ E [.tmp 4, .tmp 5] R) fr h := by
  obtain ⟨a0, l0, c0, e0, g⟩ := gSlice_elim g
  obtain ⟨a1, l1, c1, e1, g⟩ := gSlice_elim g
  exact den_cut 2 (r := (cAt C [true, true, true, true, true])) (by kernel_rfl) (W9.ok R) (den_enter [(0, .slice a0 l0 c0), (1, .slice a1 l1 c1)] ⟨e0, e1, trivial⟩ (by kernel_rfl) g)
def D2.t (R : Rt) (a0 : Option Addr) (l0 : Nat) (c0 : Nat) (a1 : Option Addr) (l1 : Nat) (c1 : Nat) (h : Hp) : Prop :=
  cond (decide ((((l0 : Nat) : Int)) < (((l1 : Nat) : Int)))) (D3.t R a1 l1 c1 a0 l0 c0 h) (D3.t R a0 l0 c0 a1 l1 c1 h)
def D2.g (R : Rt) (fr : Fr) (h : Hp) : Prop := gSlice (fr 0) fun a0 l0 c0 => gSlice (fr 1) fun a1 l1 c1 => D2.t R a0 l0 c0 a1 l1 c1 h
theorem D2.ok (R : Rt) (fr : Fr) (h : Hp) (g : D2.g R fr h) : den prog E (cAt C [true, true]) (retQ E [.tmp 4, .tmp 5] R) fr h := by
  obtain ⟨a0, l0, c0, e0, g⟩ := gSlice_elim g
  obtain ⟨a1, l1, c1, e1, g⟩ := gSlice_elim g
  exact den_cut 1 (r := (cAt C [true, true, true])) (by kernel_rfl) (D3.ok R) (den_enter [(0, .slice a0 l0 c0), (1, .slice a1 l1 c1)] ⟨e0, e1, trivial⟩ (by kernel_rfl) g)
def D1.t (R : Rt) (a0 : Option Addr) (l0 : Nat) (c0 : Nat) (a1 : Option Addr) (l1 : Nat) (c1 : Nat) (h : Hp) : Prop :=
  HC nat_Form.id #[.slice a0 l0 c0] h fun v1 h2 =>
  gBool v1 fun b_3 =>
  cond (!b_3) (R (.tuple #[.slice none 0 0, .int .i64 2]) h2) (HC nat_Form.id #[.slice a1 l1 c1] h2 fun v4 h5 =>
  gBool v4 fun b_6 =>
  cond (!b_6) (R (.tuple #[.slice none 0 0, .int .i64 2]) h5) (D2.t R a0 l0 c0 a1 l1 c1 h5))
def D1.g (R : Rt) (fr : Fr) (h : Hp) : Prop := gSlice (fr 0) fun a0 l0 c0 => gSlice (fr 1) fun a1 l1 c1 => D1.t R a0 l0 c0 a1 l1 c1 h
theorem D1.ok (R : Rt) (fr : Fr) (h : Hp) (g : D1.g R fr h) : den prog E C (retQ E [.tmp 4, .tmp 5] R) fr h := by
  obtain ⟨a0, l0, c0, e0, g⟩ := gSlice_elim g
  obtain ⟨a1, l1, c1, e1, g⟩ := gSlice_elim g
  exact den_cut 2 (r := (cAt C [true, true])) (by kernel_rfl) (D2.ok R) (den_enter [(0, .slice a0 l0 c0), (1, .slice a1 l1 c1)] ⟨e0, e1, trivial⟩ (by kernel_rfl) g)
def t (a0 : Option Addr) (l0 : Nat) (c0 : Nat) (a1 : Option Addr) (l1 : Nat) (c1 : Nat) (h : Hp) (R : Rt) : Prop := D1.t R a0 l0 c0 a1 l1 c1 h
theorem ok {a0 : Option Addr} {l0 : Nat} {c0 : Nat} {a1 : Option Addr} {l1 : Nat} {c1 : Nat} {h : Hp} {R : Rt} (g : t a0 l0 c0 a1 l1 c1 h R) : HC id #[.slice a0 l0 c0, .slice a1 l1 c1] h R :=
  calls_of_den' envOk (c := C) (rs := [.tmp 4, .tmp 5]) Tryd.func31 (by kernel_rfl) (by kernel_rfl) (by kernel_rfl) (args := [.slice a0 l0 c0, .slice a1 l1 c1]) (by kernel_rfl) (D1.ok R _ h (gSlice_intro rfl (gSlice_intro rfl (g))))
end nat_Add

namespace nat_Sub
noncomputable def C : Code := bodyOf Tryd.f32
def D3.t (R : Rt) (a6 : Option Addr) (l6 : Nat) (c6 : Nat) (h : Hp) : Prop :=
  HC nat_told.id #[.slice a6 l6 c6] h fun v12 h13 =>
  gTup v12 fun y14 =>
  uncons y14 fun v15 y15 =>
  gSlice v15 fun a_16 l_16 c_16 =>
  uncons y15 fun v17 y17 =>
  gInt .i64 v17 fun x_18 =>
  unnil y17 <| R (.tuple #[.slice a_16 l_16 c_16, .int .i64 x_18]) h13
def D3.g (R : Rt) (fr : Fr) (h : Hp) : Prop := gSlice (fr 6) fun a6 l6 c6 => D3.t R a6 l6 c6 h
theorem D3.ok (R : Rt) (fr : Fr) (h : Hp) (g : D3.g R fr h) : den prog E (cAt C [true, true, true, true, true, true]) (retQ E [.tmp 4, .tmp 5] R) fr h := by
  obtain ⟨a6, l6, c6, e6, g⟩ := gSlice_elim g
  exact den_enter [(6, .slice a6 l6 c6)] ⟨e6, trivial⟩ (by kernel_rfl) g
def L5.g (N : Option Addr → Nat → Nat → Option Addr → Nat → Nat → Option Addr → Nat → Nat → Int → Int → Int → Hp → Prop) (fr : Fr) (h : Hp) : Prop := gSlice (fr 0) fun a0 l0 c0 => gSlice (fr 1) fun a1 l1 c1 => gSlice (fr 6) fun a6 l6 c6 => gInt .u64 (fr 7) fun x7 => gInt .i64 (fr 26) fun x26 => gInt .i64 (fr 27) fun x27 => N a0 l0 c0 a1 l1 c1 a6 l6 c6 x7 x26 x27 h
def D6.t (R : Rt) (N5 : Option Addr → Nat → Nat → Option Addr → Nat → Nat → Option Addr → Nat → Nat → Int → Int → Int → Hp → Prop) (a0 : Option Addr) (l0 : Nat) (c0 : Nat) (a1 : Option Addr) (l1 : Nat) (c1 : Nat) (a6 : Option Addr) (l6 : Nat) (c6 : Nat) (x7 : Int) (x26 : Int) (x27 : Int) (h : Hp) : Prop :=
  cond (decide (x27 < x26)) (cond (decide (x27 < (((l1 : Nat) : Int)))) (idxK a1 l1 x27 1 fun q19 =>
  ldK h q19 fun v20 =>
  gInt .u64 v20 fun x_21 =>
  idxK a0 l0 x27 1 fun q22 =>
  ldK h q22 fun v23 =>
  gInt .u64 v23 fun x_24 =>
  subK x_24 x_21 x7 fun n25 m25 =>
  idxK a6 l6 x27 1 fun q26 =>
  stK h q26 (.int .u64 n25) fun h27 =>
  letK (IntKind.i64.wrap (x27 + 1)) fun n28 =>
  N5 a0 l0 c0 a1 l1 c1 a6 l6 c6 m25 x26 n28 h27) (idxK a0 l0 x27 1 fun q29 =>
  ldK h q29 fun v30 =>
  gInt .u64 v30 fun x_31 =>
  subK x_31 0 x7 fun n32 m32 =>
  idxK a6 l6 x27 1 fun q33 =>
  stK h q33 (.int .u64 n32) fun h34 =>
  letK (IntKind.i64.wrap (x27 + 1)) fun n35 =>
  N5 a0 l0 c0 a1 l1 c1 a6 l6 c6 m32 x26 n35 h34)) (D3.t R a6 l6 c6 h)
def D6.g (R : Rt) (N5 : Option Addr → Nat → Nat → Option Addr → Nat → Nat → Option Addr → Nat → Nat → Int → Int → Int → Hp → Prop) (fr : Fr) (h : Hp) : Prop := gSlice (fr 0) fun a0 l0 c0 => gSlice (fr 1) fun a1 l1 c1 => gSlice (fr 6) fun a6 l6 c6 => gInt .u64 (fr 7) fun x7 => gInt .i64 (fr 26) fun x26 => gInt .i64 (fr 27) fun x27 => D6.t R N5 a0 l0 c0 a1 l1 c1 a6 l6 c6 x7 x26 x27 h
theorem D6.ok (R : Rt) (N5 : Option Addr → Nat → Nat → Option Addr → Nat → Nat → Option Addr → Nat → Nat → Int → Int → Int → Hp → Prop) (fr : Fr) (h : Hp) (g : D6.g R N5 fr h) : den prog E (cAt C [true, true, true, true, true, false, true, false, false]) (Ex.then (L5.g N5) (Ex.inBlock 0 (Ex.then (D3.g R) (retQ E [.tmp 4, .tmp 5] R)))) fr h := by
  obtain ⟨a0, l0, c0, e0, g⟩ := gSlice_elim g
  obtain ⟨a1, l1, c1, e1, g⟩ := gSlice_elim g
  obtain ⟨a6, l6, c6, e6, g⟩ := gSlice_elim g
  obtain ⟨x7, e7, g⟩ := gInt_elim g
  obtain ⟨x26, e26, g⟩ := gInt_elim g
  obtain ⟨x27, e27, g⟩ := gInt_elim g
  exact den_enter [(0, .slice a0 l0 c0), (1, .slice a1 l1 c1), (6, .slice a6 l6 c6), (7, .int .u64 x7), (26, .int .i64 x26), (27, .int .i64 x27)] ⟨e0, e1, e6, e7, e26, e27, trivial⟩ (by kernel_rfl) g
def L5.t (R : Rt) : Nat → Option Addr → Nat → Nat → Option Addr → Nat → Nat → Option Addr → Nat → Nat → Int → Int → Int → Hp → Prop
  | 0 => fun _ _ _ _ _ _ _ _ _ _ _ _ _ => False
  | n + 1 => fun a0 l0 c0 a1 l1 c1 a6 l6 c6 x7 x26 x27 h => D6.t R (L5.t R n) a0 l0 c0 a1 l1 c1 a6 l6 c6 x7 x26 x27 h
theorem L5.ok (R : Rt) (fr : Fr) (h : Hp) (g : L5.g (fun a0 l0 c0 a1 l1 c1 a6 l6 c6 x7 x26 x27 h => ∃ n, L5.t R n a0 l0 c0 a1 l1 c1 a6 l6 c6 x7 x26 x27 h) fr h) : den prog E (cAt C [true, true, true, true, true, false, true, false]) (Ex.inBlock 0 (Ex.then (D3.g R) (retQ E [.tmp 4, .tmp 5] R))) fr h := by
  obtain ⟨a0, l0, c0, e0, g⟩ := gSlice_elim g
  obtain ⟨a1, l1, c1, e1, g⟩ := gSlice_elim g
  obtain ⟨a6, l6, c6, e6, g⟩ := gSlice_elim g
  obtain ⟨x7, e7, g⟩ := gInt_elim g
  obtain ⟨x26, e26, g⟩ := gInt_elim g
  obtain ⟨x27, e27, g⟩ := gInt_elim g
  obtain ⟨n, g⟩ := g
  refine loop_ok (fun n => L5.g (L5.t R n)) (b := (cAt C [true, true, true, true, true, false, true, false, false])) (by kernel_rfl) (fun fr h g => ?_) (fun n => D6.ok R (L5.t R n)) n fr h (gSlice_intro e0 (gSlice_intro e1 (gSlice_intro e6 (gInt_intro e7 (gInt_intro e26 (gInt_intro e27 (g)))))))
  obtain ⟨a0, l0, c0, e0, g⟩ := gSlice_elim g
  obtain ⟨a1, l1, c1, e1, g⟩ := gSlice_elim g
  obtain ⟨a6, l6, c6, e6, g⟩ := gSlice_elim g
  obtain ⟨x7, e7, g⟩ := gInt_elim g
  obtain ⟨x26, e26, g⟩ := gInt_elim g
  obtain ⟨x27, e27, g⟩ := gInt_elim g
  exact g
theorem B7.ok (R : Rt) (fr : Fr) (h : Hp) (g : L5.g (fun a0 l0 c0 a1 l1 c1 a6 l6 c6 x7 x26 x27 h => ∃ n, L5.t R n a0 l0 c0 a1 l1 c1 a6 l6 c6 x7 x26 x27 h) fr h) : den prog E (cAt C [true, true, true, true, true, false, true]) (Ex.then (D3.g R) (retQ E [.tmp 4, .tmp 5] R)) fr h :=
  den_block (by kernel_rfl) (L5.ok R fr h g)
def D4.t (R : Rt) (a0 : Option Addr) (l0 : Nat) (c0 : Nat) (a1 : Option Addr) (l1 : Nat) (c1 : Nat) (a6 : Option Addr) (l6 : Nat) (c6 : Nat) (x7 : Int) (h : Hp) : Prop :=
  (∃ n, L5.t R n a0 l0 c0 a1 l1 c1 a6 l6 c6 x7 (((l0 : Nat) : Int)) 0 h)
def D4.g (R : Rt) (fr : Fr) (h : Hp) : Prop := gSlice (fr 0) fun a0 l0 c0 => gSlice (fr 1) fun a1 l1 c1 => gSlice (fr 6) fun a6 l6 c6 => gInt .u64 (fr 7) fun x7 => D4.t R a0 l0 c0 a1 l1 c1 a6 l6 c6 x7 h
theorem D4.ok (R : Rt) (fr : Fr) (h : Hp) (g : D4.g R fr h) : den prog E (cAt C [true, true, true, true, true, false]) (Ex.then (D3.g R) (retQ E [.tmp 4, .tmp 5] R)) fr h := by
  obtain ⟨a0, l0, c0, e0, g⟩ := gSlice_elim g
  obtain ⟨a1, l1, c1, e1, g⟩ := gSlice_elim g
  obtain ⟨a6, l6, c6, e6, g⟩ := gSlice_elim g
  obtain ⟨x7, e7, g⟩ := gInt_elim g
  exact den_cut 1 (r := (cAt C [true, true, true, true, true, false, true])) (by kernel_rfl) (B7.ok R) (den_enter [(0, .slice a0 l0 c0), (1, .slice a1 l1 c1), (6, .slice a6 l6 c6), (7, .int .u64 x7)] ⟨e0, e1, e6, e7, trivial⟩ (by kernel_rfl) g)
theorem W8.ok (R : Rt) (fr : Fr) (h : Hp) (g : D4.g R fr h) : den prog E (cAt C [true, true, true, true, true]) (retQ E [.tmp 4, .tmp 5] R) fr h :=
  den_then (by kernel_rfl) (D3.ok R) (D4.ok R fr h g)
def D2.t (R : Rt) (a0 : Option Addr) (l0 : Nat) (c0 : Nat) (a1 : Option Addr) (l1 : Nat) (c1 : Nat) (h : Hp) : Prop :=
  HC nat_Cmp.id #[.slice a0 l0 c0, .slice a1 l1 c1] h fun v7 h8 =>
  gInt .i64 v7 fun x_9 =>
  cond (decide (x_9 < 0)) (R (.tuple #[.slice none 0 0, .int .i64 3]) h8) (mkK h8 27 T27 (((l0 : Nat) : Int)) (((l0 : Nat) : Int)) fun q10 h11 =>
  D4.t R a0 l0 c0 a1 l1 c1 (some q10) ((((l0 : Nat) : Int)).toNat) ((((l0 : Nat) : Int)).toNat) 0 h11)
def D2.g (R : Rt) (fr : Fr) (h : Hp) : Prop := gSlice (fr 0) fun a0 l0 c0 => gSlice (fr 1) fun a1 l1 c1 => D2.t R a0 l0 c0 a1 l1 c1 h
theorem D2.ok (R : Rt) (fr : Fr) (h : Hp) (g : D2.g R fr h) : den prog E (cAt C [true, true]) (retQ E [.tmp 4, .tmp 5] R) fr h := by
  obtain ⟨a0, l0, c0, e0, g⟩ := gSlice_elim g
  obtain ⟨a1, l1, c1, e1, g⟩ := gSlice_elim g
  exact den_cut 3 (r := (cAt C [true, true, true, true, true])) (by kernel_rfl) (W8.ok R) (den_enter [(0, .slice a0 l0 c0), (1, .slice a1 l1 c1)] ⟨e0, e1, trivial⟩ (by kernel_rfl) g)
def D1.t (R : Rt) (a0 : Option Addr) (l0 : Nat) (c0 : Nat) (a1 : Option Addr) (l1 : Nat) (c1 : Nat) (h : Hp) : Prop :=
  HC nat_Form.id #[.slice a0 l0 c0] h fun v1 h2 =>
  gBool v1 fun b_3 =>
  cond (!b_3) (R (.tuple #[.slice none 0 0, .int .i64 2]) h2) (HC nat_Form.id #[.slice a1 l1 c1] h2 fun v4 h5 =>
  gBool v4 fun b_6 =>
  cond (!b_6) (R (.tuple #[.slice none 0 0, .int .i64 2]) h5) (D2.t R a0 l0 c0 a1 l1 c1 h5))
def D1.g (R : Rt) (fr : Fr) (h : Hp) : Prop := gSlice (fr 0) fun a0 l0 c0 => gSlice (fr 1) fun a1 l1 c1 => D1.t R a0 l0 c0 a1 l1 c1 h
theorem D1.ok (R : Rt) (fr : Fr) (h : Hp) (g : D1.g R fr h) : den prog E C (retQ E [.tmp 4, .tmp 5] R) fr h := by
  obtain ⟨a0, l0, c0, e0, g⟩ := gSlice_elim g
  obtain ⟨a1, l1, c1, e1, g⟩ := gSlice_elim g
  exact den_cut 2 (r := (cAt C [true, true])) (by kernel_rfl) (D2.ok R) (den_enter [(0, .slice a0 l0 c0), (1, .slice a1 l1 c1)] ⟨e0, e1, trivial⟩ (by kernel_rfl) g)
def t (a0 : Option Addr) (l0 : Nat) (c0 : Nat) (a1 : Option Addr) (l1 : Nat) (c1 : Nat) (h : Hp) (R : Rt) : Prop := D1.t R a0 l0 c0 a1 l1 c1 h
theorem ok {a0 : Option Addr} {l0 : Nat} {c0 : Nat} {a1 : Option Addr} {l1 : Nat} {c1 : Nat} {h : Hp} {R : Rt} (g : t a0 l0 c0 a1 l1 c1 h R) : HC id #[.slice a0 l0 c0, .slice a1 l1 c1] h R :=
  calls_of_den' envOk (c := C) (rs := [.tmp 4, .tmp 5]) Tryd.func32 (by kernel_rfl) (by kernel_rfl) (by kernel_rfl) (args := [.slice a0 l0 c0, .slice a1 l1 c1]) (by kernel_rfl) (D1.ok R _ h (gSlice_intro rfl (gSlice_intro rfl (g))))
end nat_Sub

namespace nat_told
noncomputable def C : Code := bodyOf Tryd.f33
def D1.t (R : Rt) (a0 : Option Addr) (l0 : Nat) (c0 : Nat) (h : Hp) : Prop :=
  HC nat_trim.id #[.slice a0 l0 c0] h fun v1 h2 =>
  gSlice v1 fun a_3 l_3 c_3 =>
  cond (decide ((((l_3 : Nat) : Int)) > 8192)) (R (.tuple #[.slice none 0 0, .int .i64 5]) h2) (R (.tuple #[.slice a_3 l_3 c_3, .int .i64 0]) h2)
def D1.g (R : Rt) (fr : Fr) (h : Hp) : Prop := gSlice (fr 0) fun a0 l0 c0 => D1.t R a0 l0 c0 h
theorem D1.ok (R : Rt) (fr : Fr) (h : Hp) (g : D1.g R fr h) : den prog E C (retQ E [.tmp 2, .tmp 3] R) fr h := by
  obtain ⟨a0, l0, c0, e0, g⟩ := gSlice_elim g
  exact den_enter [(0, .slice a0 l0 c0)] ⟨e0, trivial⟩ (by kernel_rfl) g
def t (a0 : Option Addr) (l0 : Nat) (c0 : Nat) (h : Hp) (R : Rt) : Prop := D1.t R a0 l0 c0 h
theorem ok {a0 : Option Addr} {l0 : Nat} {c0 : Nat} {h : Hp} {R : Rt} (g : t a0 l0 c0 h R) : HC id #[.slice a0 l0 c0] h R :=
  calls_of_den' envOk (c := C) (rs := [.tmp 2, .tmp 3]) Tryd.func33 (by kernel_rfl) (by kernel_rfl) (by kernel_rfl) (args := [.slice a0 l0 c0]) (by kernel_rfl) (D1.ok R _ h (gSlice_intro rfl (g)))
end nat_told

namespace bits_Mul64
noncomputable def C : Code := bodyOf Tryd.f34
def D1.t (R : Rt) (x0 : Int) (x1 : Int) (h : Hp) : Prop :=
  letK (andI .u64 x0 4294967295) fun n1 =>
  0 ≤ (32 : Int) ∧ letK (shrI .u64 x0 32) fun n2 =>
  letK (andI .u64 x1 4294967295) fun n3 =>
  0 ≤ (32 : Int) ∧ letK (shrI .u64 x1 32) fun n4 =>
  letK (IntKind.u64.wrap (n1 * n3)) fun n5 =>
  letK (IntKind.u64.wrap (n2 * n3)) fun n6 =>
  0 ≤ (32 : Int) ∧ letK (shrI .u64 n5 32) fun n7 =>
  letK (IntKind.u64.wrap (n6 + n7)) fun n8 =>
  letK (andI .u64 n8 4294967295) fun n9 =>
  0 ≤ (32 : Int) ∧ letK (shrI .u64 n8 32) fun n10 =>
  letK (IntKind.u64.wrap (n1 * n4)) fun n11 =>
  letK (IntKind.u64.wrap (n9 + n11)) fun n12 =>
  letK (IntKind.u64.wrap (n2 * n4)) fun n13 =>
  letK (IntKind.u64.wrap (n13 + n10)) fun n14 =>
  0 ≤ (32 : Int) ∧ letK (shrI .u64 n12 32) fun n15 =>
  letK (IntKind.u64.wrap (n14 + n15)) fun n16 =>
  letK (IntKind.u64.wrap (x0 * x1)) fun n17 =>
  R (.tuple #[.int .u64 n16, .int .u64 n17]) h
def D1.g (R : Rt) (fr : Fr) (h : Hp) : Prop := gInt .u64 (fr 0) fun x0 => gInt .u64 (fr 1) fun x1 => D1.t R x0 x1 h
theorem D1.ok (R : Rt) (fr : Fr) (h : Hp) (g : D1.g R fr h) : den prog E C (retQ E [.tmp 4, .tmp 5] R) fr h := by
  obtain ⟨x0, e0, g⟩ := gInt_elim g
  obtain ⟨x1, e1, g⟩ := gInt_elim g
  exact den_enter [(0, .int .u64 x0), (1, .int .u64 x1)] ⟨e0, e1, trivial⟩ (by kernel_rfl) g
def t (x0 : Int) (x1 : Int) (h : Hp) (R : Rt) : Prop := D1.t R x0 x1 h
theorem ok {x0 : Int} {x1 : Int} {h : Hp} {R : Rt} (g : t x0 x1 h R) : HC id #[.int .u64 x0, .int .u64 x1] h R :=
  calls_of_den' envOk (c := C) (rs := [.tmp 4, .tmp 5]) Tryd.func34 (by kernel_rfl) (by kernel_rfl) (by kernel_rfl) (args := [.int .u64 x0, .int .u64 x1]) (by kernel_rfl) (D1.ok R _ h (gInt_intro rfl (gInt_intro rfl (g))))
end bits_Mul64

namespace bits_Div64
noncomputable def C : Code := bodyOf Tryd.f36
def D5.t (R : Rt) (x2 : Int) (x8 : Int) (x14 : Int) (x15 : Int) (x17 : Int) (x18 : Int) (h : Hp) : Prop :=
  letK (IntKind.u64.wrap (x15 * 4294967296)) fun n27 =>
  letK (IntKind.u64.wrap (n27 + x18)) fun n28 =>
  letK (IntKind.u64.wrap (x17 * 4294967296)) fun n29 =>
  letK (IntKind.u64.wrap (n29 + x14)) fun n30 =>
  letK (IntKind.u64.wrap (x18 * x2)) fun n31 =>
  letK (IntKind.u64.wrap (n30 - n31)) fun n32 =>
  0 ≤ x8 ∧ letK (shrI .u64 n32 x8) fun n33 =>
  R (.tuple #[.int .u64 n28, .int .u64 n33]) h
def D5.g (R : Rt) (fr : Fr) (h : Hp) : Prop := gInt .u64 (fr 2) fun x2 => gInt .u64 (fr 8) fun x8 => gInt .u64 (fr 14) fun x14 => gInt .u64 (fr 15) fun x15 => gInt .u64 (fr 17) fun x17 => gInt .u64 (fr 18) fun x18 => D5.t R x2 x8 x14 x15 x17 x18 h
theorem D5.ok (R : Rt) (fr : Fr) (h : Hp) (g : D5.g R fr h) : den prog E (cAt C [true, true, true, true, true, true, true, true, true, true, true, true, true, true, true, true, true, true, true]) (retQ E [.tmp 6, .tmp 7] R) fr h := by
  obtain ⟨x2, e2, g⟩ := gInt_elim g
  obtain ⟨x8, e8, g⟩ := gInt_elim g
  obtain ⟨x14, e14, g⟩ := gInt_elim g
  obtain ⟨x15, e15, g⟩ := gInt_elim g
  obtain ⟨x17, e17, g⟩ := gInt_elim g
  obtain ⟨x18, e18, g⟩ := gInt_elim g
  exact den_enter [(2, .int .u64 x2), (8, .int .u64 x8), (14, .int .u64 x14), (15, .int .u64 x15), (17, .int .u64 x17), (18, .int .u64 x18)] ⟨e2, e8, e14, e15, e17, e18, trivial⟩ (by kernel_rfl) g
def L6.g (N : Int → Int → Int → Int → Int → Int → Int → Int → Int → Hp → Prop) (fr : Fr) (h : Hp) : Prop := gInt .u64 (fr 2) fun x2 => gInt .u64 (fr 8) fun x8 => gInt .u64 (fr 9) fun x9 => gInt .u64 (fr 10) fun x10 => gInt .u64 (fr 14) fun x14 => gInt .u64 (fr 15) fun x15 => gInt .u64 (fr 16) fun x16 => gInt .u64 (fr 17) fun x17 => gInt .u64 (fr 18) fun x18 => N x2 x8 x9 x10 x14 x15 x16 x17 x18 h
def D8.t (R : Rt) (N6 : Int → Int → Int → Int → Int → Int → Int → Int → Int → Hp → Prop) (x2 : Int) (x8 : Int) (x9 : Int) (x10 : Int) (x14 : Int) (x15 : Int) (x16 : Int) (x17 : Int) (x18 : Int) (h : Hp) : Prop :=
  letK (IntKind.u64.wrap (x18 - 1)) fun n34 =>
  letK (IntKind.u64.wrap (x16 + x9)) fun n35 =>
  cond (decide (n35 ≥ 4294967296)) (D5.t R x2 x8 x14 x15 x17 n34 h) (N6 x2 x8 x9 x10 x14 x15 n35 x17 n34 h)
def D8.g (R : Rt) (N6 : Int → Int → Int → Int → Int → Int → Int → Int → Int → Hp → Prop) (fr : Fr) (h : Hp) : Prop := gInt .u64 (fr 2) fun x2 => gInt .u64 (fr 8) fun x8 => gInt .u64 (fr 9) fun x9 => gInt .u64 (fr 10) fun x10 => gInt .u64 (fr 14) fun x14 => gInt .u64 (fr 15) fun x15 => gInt .u64 (fr 16) fun x16 => gInt .u64 (fr 17) fun x17 => gInt .u64 (fr 18) fun x18 => D8.t R N6 x2 x8 x9 x10 x14 x15 x16 x17 x18 h
theorem D8.ok (R : Rt) (N6 : Int → Int → Int → Int → Int → Int → Int → Int → Int → Hp → Prop) (fr : Fr) (h : Hp) (g : D8.g R N6 fr h) : den prog E (cAt C [true, true, true, true, true, true, true, true, true, true, true, true, true, true, true, true, true, true, false, false, false, true]) (Ex.then (L6.g N6) (Ex.inBlock 2 (Ex.then (D5.g R) (retQ E [.tmp 6, .tmp 7] R)))) fr h := by
  obtain ⟨x2, e2, g⟩ := gInt_elim g
  obtain ⟨x8, e8, g⟩ := gInt_elim g
  obtain ⟨x9, e9, g⟩ := gInt_elim g
  obtain ⟨x10, e10, g⟩ := gInt_elim g
  obtain ⟨x14, e14, g⟩ := gInt_elim g
  obtain ⟨x15, e15, g⟩ := gInt_elim g
  obtain ⟨x16, e16, g⟩ := gInt_elim g
  obtain ⟨x17, e17, g⟩ := gInt_elim g
  obtain ⟨x18, e18, g⟩ := gInt_elim g
  exact den_enter [(2, .int .u64 x2), (8, .int .u64 x8), (9, .int .u64 x9), (10, .int .u64 x10), (14, .int .u64 x14), (15, .int .u64 x15), (16, .int .u64 x16), (17, .int .u64 x17), (18, .int .u64 x18)] ⟨e2, e8, e9, e10, e14, e15, e16, e17, e18, trivial⟩ (by kernel_rfl) g
def D7.t (R : Rt) (N6 : Int → Int → Int → Int → Int → Int → Int → Int → Int → Hp → Prop) (x2 : Int) (x8 : Int) (x9 : Int) (x10 : Int) (x14 : Int) (x15 : Int) (x16 : Int) (x17 : Int) (x18 : Int) (h : Hp) : Prop :=
  cond (decide (x18 ≥ 4294967296)) (D8.t R N6 x2 x8 x9 x10 x14 x15 x16 x17 x18 h) (letK (IntKind.u64.wrap (x18 * x10)) fun n36 =>
  letK (IntKind.u64.wrap (4294967296 * x16)) fun n37 =>
  letK (IntKind.u64.wrap (n37 + x14)) fun n38 =>
  cond (decide (n36 > n38)) (D8.t R N6 x2 x8 x9 x10 x14 x15 x16 x17 x18 h) (D5.t R x2 x8 x14 x15 x17 x18 h))
def D7.g (R : Rt) (N6 : Int → Int → Int → Int → Int → Int → Int → Int → Int → Hp → Prop) (fr : Fr) (h : Hp) : Prop := gInt .u64 (fr 2) fun x2 => gInt .u64 (fr 8) fun x8 => gInt .u64 (fr 9) fun x9 => gInt .u64 (fr 10) fun x10 => gInt .u64 (fr 14) fun x14 => gInt .u64 (fr 15) fun x15 => gInt .u64 (fr 16) fun x16 => gInt .u64 (fr 17) fun x17 => gInt .u64 (fr 18) fun x18 => D7.t R N6 x2 x8 x9 x10 x14 x15 x16 x17 x18 h
theorem D7.ok (R : Rt) (N6 : Int → Int → Int → Int → Int → Int → Int → Int → Int → Hp → Prop) (fr : Fr) (h : Hp) (g : D7.g R N6 fr h) : den prog E (cAt C [true, true, true, true, true, true, true, true, true, true, true, true, true, true, true, true, true, true, false, false, false]) (Ex.then (L6.g N6) (Ex.inBlock 2 (Ex.then (D5.g R) (retQ E [.tmp 6, .tmp 7] R)))) fr h := by
  obtain ⟨x2, e2, g⟩ := gInt_elim g
  obtain ⟨x8, e8, g⟩ := gInt_elim g
  obtain ⟨x9, e9, g⟩ := gInt_elim g
  obtain ⟨x10, e10, g⟩ := gInt_elim g
  obtain ⟨x14, e14, g⟩ := gInt_elim g
  obtain ⟨x15, e15, g⟩ := gInt_elim g
  obtain ⟨x16, e16, g⟩ := gInt_elim g
  obtain ⟨x17, e17, g⟩ := gInt_elim g
  obtain ⟨x18, e18, g⟩ := gInt_elim g
  exact den_cut 1 (r := (cAt C [true, true, true, true, true, true, true, true, true, true, true, true, true, true, true, true, true, true, false, false, false, true])) (by kernel_rfl) (D8.ok R N6) (den_enter [(2, .int .u64 x2), (8, .int .u64 x8), (9, .int .u64 x9), (10, .int .u64 x10), (14, .int .u64 x14), (15, .int .u64 x15), (16, .int .u64 x16), (17, .int .u64 x17), (18, .int .u64 x18)] ⟨e2, e8, e9, e10, e14, e15, e16, e17, e18, trivial⟩ (by kernel_rfl) g)
def L6.t (R : Rt) : Nat → Int → Int → Int → Int → Int → Int → Int → Int → Int → Hp → Prop
  | 0 => fun _ _ _ _ _ _ _ _ _ _ => False
  | n + 1 => fun x2 x8 x9 x10 x14 x15 x16 x17 x18 h => D7.t R (L6.t R n) x2 x8 x9 x10 x14 x15 x16 x17 x18 h
theorem L6.ok (R : Rt) (fr : Fr) (h : Hp) (g : L6.g (fun x2 x8 x9 x10 x14 x15 x16 x17 x18 h => ∃ n, L6.t R n x2 x8 x9 x10 x14 x15 x16 x17 x18 h) fr h) : den prog E (cAt C [true, true, true, true, true, true, true, true, true, true, true, true, true, true, true, true, true, true, false, false]) (Ex.inBlock 2 (Ex.then (D5.g R) (retQ E [.tmp 6, .tmp 7] R))) fr h := by
  obtain ⟨x2, e2, g⟩ := gInt_elim g
  obtain ⟨x8, e8, g⟩ := gInt_elim g
  obtain ⟨x9, e9, g⟩ := gInt_elim g
  obtain ⟨x10, e10, g⟩ := gInt_elim g
  obtain ⟨x14, e14, g⟩ := gInt_elim g
  obtain ⟨x15, e15, g⟩ := gInt_elim g
  obtain ⟨x16, e16, g⟩ := gInt_elim g
  obtain ⟨x17, e17, g⟩ := gInt_elim g
  obtain ⟨x18, e18, g⟩ := gInt_elim g
  obtain ⟨n, g⟩ := g
  refine loop_ok (fun n => L6.g (L6.t R n)) (b := (cAt C [true, true, true, true, true, true, true, true, true, true, true, true, true, true, true, true, true, true, false, false, false])) (by kernel_rfl) (fun fr h g => ?_) (fun n => D7.ok R (L6.t R n)) n fr h (gInt_intro e2 (gInt_intro e8 (gInt_intro e9 (gInt_intro e10 (gInt_intro e14 (gInt_intro e15 (gInt_intro e16 (gInt_intro e17 (gInt_intro e18 (g))))))))))
  obtain ⟨x2, e2, g⟩ := gInt_elim g
  obtain ⟨x8, e8, g⟩ := gInt_elim g
  obtain ⟨x9, e9, g⟩ := gInt_elim g
  obtain ⟨x10, e10, g⟩ := gInt_elim g
  obtain ⟨x14, e14, g⟩ := gInt_elim g
  obtain ⟨x15, e15, g⟩ := gInt_elim g
  obtain ⟨x16, e16, g⟩ := gInt_elim g
  obtain ⟨x17, e17, g⟩ := gInt_elim g
  obtain ⟨x18, e18, g⟩ := gInt_elim g
  exact g
theorem B9.ok (R : Rt) (fr : Fr) (h : Hp) (g : L6.g (fun x2 x8 x9 x10 x14 x15 x16 x17 x18 h => ∃ n, L6.t R n x2 x8 x9 x10 x14 x15 x16 x17 x18 h) fr h) : den prog E (cAt C [true, true, true, true, true, true, true, true, true, true, true, true, true, true, true, true, true, true, false]) (Ex.then (D5.g R) (retQ E [.tmp 6, .tmp 7] R)) fr h :=
  den_block (by kernel_rfl) (L6.ok R fr h g)
theorem W10.ok (R : Rt) (fr : Fr) (h : Hp) (g : L6.g (fun x2 x8 x9 x10 x14 x15 x16 x17 x18 h => ∃ n, L6.t R n x2 x8 x9 x10 x14 x15 x16 x17 x18 h) fr h) : den prog E (cAt C [true, true, true, true, true, true, true, true, true, true, true, true, true, true, true, true, true, true]) (retQ E [.tmp 6, .tmp 7] R) fr h :=
  den_then (by kernel_rfl) (D5.ok R) (B9.ok R fr h g)
def D4.t (R : Rt) (x2 : Int) (x8 : Int) (x9 : Int) (x10 : Int) (x11 : Int) (x13 : Int) (x14 : Int) (x15 : Int) (h : Hp) : Prop :=
  letK (IntKind.u64.wrap (x11 * 4294967296)) fun n20 =>
  letK (IntKind.u64.wrap (n20 + x13)) fun n21 =>
  letK (IntKind.u64.wrap (x15 * x2)) fun n22 =>
  letK (IntKind.u64.wrap (n21 - n22)) fun n23 =>
  x9 ≠ 0 ∧ letK (IntKind.u64.wrap (Int.tdiv n23 x9)) fun n24 =>
  letK (IntKind.u64.wrap (n24 * x9)) fun n25 =>
  letK (IntKind.u64.wrap (n23 - n25)) fun n26 =>
  (∃ n, L6.t R n x2 x8 x9 x10 x14 x15 n26 n23 n24 h)
def D4.g (R : Rt) (fr : Fr) (h : Hp) : Prop := gInt .u64 (fr 2) fun x2 => gInt .u64 (fr 8) fun x8 => gInt .u64 (fr 9) fun x9 => gInt .u64 (fr 10) fun x10 => gInt .u64 (fr 11) fun x11 => gInt .u64 (fr 13) fun x13 => gInt .u64 (fr 14) fun x14 => gInt .u64 (fr 15) fun x15 => D4.t R x2 x8 x9 x10 x11 x13 x14 x15 h
theorem D4.ok (R : Rt) (fr : Fr) (h : Hp) (g : D4.g R fr h) : den prog E (cAt C [true, true, true, true, true, true, true, true, true, true, true, true, true, true, true]) (retQ E [.tmp 6, .tmp 7] R) fr h := by
  obtain ⟨x2, e2, g⟩ := gInt_elim g
  obtain ⟨x8, e8, g⟩ := gInt_elim g
  obtain ⟨x9, e9, g⟩ := gInt_elim g
  obtain ⟨x10, e10, g⟩ := gInt_elim g
  obtain ⟨x11, e11, g⟩ := gInt_elim g
  obtain ⟨x13, e13, g⟩ := gInt_elim g
  obtain ⟨x14, e14, g⟩ := gInt_elim g
  obtain ⟨x15, e15, g⟩ := gInt_elim g
  exact den_cut 3 (r := (cAt C [true, true, true, true, true, true, true, true, true, true, true, true, true, true, true, true, true, true])) (by kernel_rfl) (W10.ok R) (den_enter [(2, .int .u64 x2), (8, .int .u64 x8), (9, .int .u64 x9), (10, .int .u64 x10), (11, .int .u64 x11), (13, .int .u64 x13), (14, .int .u64 x14), (15, .int .u64 x15)] ⟨e2, e8, e9, e10, e11, e13, e14, e15, trivial⟩ (by kernel_rfl) g)
def L11.g (N : Int → Int → Int → Int → Int → Int → Int → Int → Int → Hp → Prop) (fr : Fr) (h : Hp) : Prop := gInt .u64 (fr 2) fun x2 => gInt .u64 (fr 8) fun x8 => gInt .u64 (fr 9) fun x9 => gInt .u64 (fr 10) fun x10 => gInt .u64 (fr 11) fun x11 => gInt .u64 (fr 13) fun x13 => gInt .u64 (fr 14) fun x14 => gInt .u64 (fr 15) fun x15 => gInt .u64 (fr 16) fun x16 => N x2 x8 x9 x10 x11 x13 x14 x15 x16 h
def D13.t (R : Rt) (N11 : Int → Int → Int → Int → Int → Int → Int → Int → Int → Hp → Prop) (x2 : Int) (x8 : Int) (x9 : Int) (x10 : Int) (x11 : Int) (x13 : Int) (x14 : Int) (x15 : Int) (x16 : Int) (h : Hp) : Prop :=
  letK (IntKind.u64.wrap (x15 - 1)) fun n39 =>
  letK (IntKind.u64.wrap (x16 + x9)) fun n40 =>
  cond (decide (n40 ≥ 4294967296)) (D4.t R x2 x8 x9 x10 x11 x13 x14 n39 h) (N11 x2 x8 x9 x10 x11 x13 x14 n39 n40 h)
def D13.g (R : Rt) (N11 : Int → Int → Int → Int → Int → Int → Int → Int → Int → Hp → Prop) (fr : Fr) (h : Hp) : Prop := gInt .u64 (fr 2) fun x2 => gInt .u64 (fr 8) fun x8 => gInt .u64 (fr 9) fun x9 => gInt .u64 (fr 10) fun x10 => gInt .u64 (fr 11) fun x11 => gInt .u64 (fr 13) fun x13 => gInt .u64 (fr 14) fun x14 => gInt .u64 (fr 15) fun x15 => gInt .u64 (fr 16) fun x16 => D13.t R N11 x2 x8 x9 x10 x11 x13 x14 x15 x16 h
theorem D13.ok (R : Rt) (N11 : Int → Int → Int → Int → Int → Int → Int → Int → Int → Hp → Prop) (fr : Fr) (h : Hp) (g : D13.g R N11 fr h) : den prog E (cAt C [true, true, true, true, true, true, true, true, true, true, true, true, true, true, false, false, false, true]) (Ex.then (L11.g N11) (Ex.inBlock 0 (Ex.then (D4.g R) (retQ E [.tmp 6, .tmp 7] R)))) fr h := by
  obtain ⟨x2, e2, g⟩ := gInt_elim g
  obtain ⟨x8, e8, g⟩ := gInt_elim g
  obtain ⟨x9, e9, g⟩ := gInt_elim g
  obtain ⟨x10, e10, g⟩ := gInt_elim g
  obtain ⟨x11, e11, g⟩ := gInt_elim g
  obtain ⟨x13, e13, g⟩ := gInt_elim g
  obtain ⟨x14, e14, g⟩ := gInt_elim g
  obtain ⟨x15, e15, g⟩ := gInt_elim g
  obtain ⟨x16, e16, g⟩ := gInt_elim g
  exact den_enter [(2, .int .u64 x2), (8, .int .u64 x8), (9, .int .u64 x9), (10, .int .u64 x10), (11, .int .u64 x11), (13, .int .u64 x13), (14, .int .u64 x14), (15, .int .u64 x15), (16, .int .u64 x16)] ⟨e2, e8, e9, e10, e11, e13, e14, e15, e16, trivial⟩ (by kernel_rfl) g
def D12.t (R : Rt) (N11 : Int → Int → Int → Int → Int → Int → Int → Int → Int → Hp → Prop) (x2 : Int) (x8 : Int) (x9 : Int) (x10 : Int) (x11 : Int) (x13 : Int) (x14 : Int) (x15 : Int) (x16 : Int) (h : Hp) : Prop :=
  cond (decide (x15 ≥ 4294967296)) (D13.t R N11 x2 x8 x9 x10 x11 x13 x14 x15 x16 h) (letK (IntKind.u64.wrap (x15 * x10)) fun n41 =>
  letK (IntKind.u64.wrap (4294967296 * x16)) fun n42 =>
  letK (IntKind.u64.wrap (n42 + x13)) fun n43 =>
  cond (decide (n41 > n43)) (D13.t R N11 x2 x8 x9 x10 x11 x13 x14 x15 x16 h) (D4.t R x2 x8 x9 x10 x11 x13 x14 x15 h))
def D12.g (R : Rt) (N11 : Int → Int → Int → Int → Int → Int → Int → Int → Int → Hp → Prop) (fr : Fr) (h : Hp) : Prop := gInt .u64 (fr 2) fun x2 => gInt .u64 (fr 8) fun x8 => gInt .u64 (fr 9) fun x9 => gInt .u64 (fr 10) fun x10 => gInt .u64 (fr 11) fun x11 => gInt .u64 (fr 13) fun x13 => gInt .u64 (fr 14) fun x14 => gInt .u64 (fr 15) fun x15 => gInt .u64 (fr 16) fun x16 => D12.t R N11 x2 x8 x9 x10 x11 x13 x14 x15 x16 h
theorem D12.ok (R : Rt) (N11 : Int → Int → Int → Int → Int → Int → Int → Int → Int → Hp → Prop) (fr : Fr) (h : Hp) (g : D12.g R N11 fr h) : den prog E (cAt C [true, true, true, true, true, true, true, true, true, true, true, true, true, true, false, false, false]) (Ex.then (L11.g N11) (Ex.inBlock 0 (Ex.then (D4.g R) (retQ E [.tmp 6, .tmp 7] R)))) fr h := by
  obtain ⟨x2, e2, g⟩ := gInt_elim g
  obtain ⟨x8, e8, g⟩ := gInt_elim g
  obtain ⟨x9, e9, g⟩ := gInt_elim g
  obtain ⟨x10, e10, g⟩ := gInt_elim g
  obtain ⟨x11, e11, g⟩ := gInt_elim g
  obtain ⟨x13, e13, g⟩ := gInt_elim g
  obtain ⟨x14, e14, g⟩ := gInt_elim g
  obtain ⟨x15, e15, g⟩ := gInt_elim g
  obtain ⟨x16, e16, g⟩ := gInt_elim g
  exact den_cut 1 (r := (cAt C [true, true, true, true, true, true, true, true, true, true, true, true, true, true, false, false, false, true])) (by kernel_rfl) (D13.ok R N11) (den_enter [(2, .int .u64 x2), (8, .int .u64 x8), (9, .int .u64 x9), (10, .int .u64 x10), (11, .int .u64 x11), (13, .int .u64 x13), (14, .int .u64 x14), (15, .int .u64 x15), (16, .int .u64 x16)] ⟨e2, e8, e9, e10, e11, e13, e14, e15, e16, trivial⟩ (by kernel_rfl) g)
def L11.t (R : Rt) : Nat → Int → Int → Int → Int → Int → Int → Int → Int → Int → Hp → Prop
  | 0 => fun _ _ _ _ _ _ _ _ _ _ => False
  | n + 1 => fun x2 x8 x9 x10 x11 x13 x14 x15 x16 h => D12.t R (L11.t R n) x2 x8 x9 x10 x11 x13 x14 x15 x16 h
theorem L11.ok (R : Rt) (fr : Fr) (h : Hp) (g : L11.g (fun x2 x8 x9 x10 x11 x13 x14 x15 x16 h => ∃ n, L11.t R n x2 x8 x9 x10 x11 x13 x14 x15 x16 h) fr h) : den prog E (cAt C [true, true, true, true, true, true, true, true, true, true, true, true, true, true, false, false]) (Ex.inBlock 0 (Ex.then (D4.g R) (retQ E [.tmp 6, .tmp 7] R))) fr h := by
  obtain ⟨x2, e2, g⟩ := gInt_elim g
  obtain ⟨x8, e8, g⟩ := gInt_elim g
  obtain ⟨x9, e9, g⟩ := gInt_elim g
  obtain ⟨x10, e10, g⟩ := gInt_elim g
  obtain ⟨x11, e11, g⟩ := gInt_elim g
  obtain ⟨x13, e13, g⟩ := gInt_elim g
  obtain ⟨x14, e14, g⟩ := gInt_elim g
  obtain ⟨x15, e15, g⟩ := gInt_elim g
  obtain ⟨x16, e16, g⟩ := gInt_elim g
  obtain ⟨n, g⟩ := g
  refine loop_ok (fun n => L11.g (L11.t R n)) (b := (cAt C [true, true, true, true, true, true, true, true, true, true, true, true, true, true, false, false, false])) (by kernel_rfl) (fun fr h g => ?_) (fun n => D12.ok R (L11.t R n)) n fr h (gInt_intro e2 (gInt_intro e8 (gInt_intro e9 (gInt_intro e10 (gInt_intro e11 (gInt_intro e13 (gInt_intro e14 (gInt_intro e15 (gInt_intro e16 (g))))))))))
  obtain ⟨x2, e2, g⟩ := gInt_elim g
  obtain ⟨x8, e8, g⟩ := gInt_elim g
  obtain ⟨x9, e9, g⟩ := gInt_elim g
  obtain ⟨x10, e10, g⟩ := gInt_elim g
  obtain ⟨x11, e11, g⟩ := gInt_elim g
  obtain ⟨x13, e13, g⟩ := gInt_elim g
  obtain ⟨x14, e14, g⟩ := gInt_elim g
  obtain ⟨x15, e15, g⟩ := gInt_elim g
  obtain ⟨x16, e16, g⟩ := gInt_elim g
  exact g
theorem B14.ok (R : Rt) (fr : Fr) (h : Hp) (g : L11.g (fun x2 x8 x9 x10 x11 x13 x14 x15 x16 h => ∃ n, L11.t R n x2 x8 x9 x10 x11 x13 x14 x15 x16 h) fr h) : den prog E (cAt C [true, true, true, true, true, true, true, true, true, true, true, true, true, true, false]) (Ex.then (D4.g R) (retQ E [.tmp 6, .tmp 7] R)) fr h :=
  den_block (by kernel_rfl) (L11.ok R fr h g)
theorem W15.ok (R : Rt) (fr : Fr) (h : Hp) (g : L11.g (fun x2 x8 x9 x10 x11 x13 x14 x15 x16 h => ∃ n, L11.t R n x2 x8 x9 x10 x11 x13 x14 x15 x16 h) fr h) : den prog E (cAt C [true, true, true, true, true, true, true, true, true, true, true, true, true, true]) (retQ E [.tmp 6, .tmp 7] R) fr h :=
  den_then (by kernel_rfl) (D4.ok R) (B14.ok R fr h g)
def D3.t (R : Rt) (x0 : Int) (x1 : Int) (x2 : Int) (h : Hp) : Prop :=
  cond (x0 == 0) (x2 ≠ 0 ∧ letK (IntKind.u64.wrap (Int.tdiv x1 x2)) fun n1 =>
  x2 ≠ 0 ∧ letK (Int.tmod x1 x2) fun n2 =>
  R (.tuple #[.int .u64 n1, .int .u64 n2]) h) (HC bits_LeadingZeros64.id #[.int .u64 x2] h fun v3 h4 =>
  gInt .i64 v3 fun x_5 =>
  letK (IntKind.u64.wrap x_5) fun n6 =>
  0 ≤ n6 ∧ letK (shlI .u64 x2 n6) fun n7 =>
  0 ≤ (32 : Int) ∧ letK (shrI .u64 n7 32) fun n8 =>
  letK (andI .u64 n7 4294967295) fun n9 =>
  0 ≤ n6 ∧ letK (shlI .u64 x0 n6) fun n10 =>
  letK (IntKind.u64.wrap (64 - n6)) fun n11 =>
  0 ≤ n11 ∧ letK (shrI .u64 x1 n11) fun n12 =>
  letK (orI .u64 n10 n12) fun n13 =>
  0 ≤ n6 ∧ letK (shlI .u64 x1 n6) fun n14 =>
  0 ≤ (32 : Int) ∧ letK (shrI .u64 n14 32) fun n15 =>
  letK (andI .u64 n14 4294967295) fun n16 =>
  n8 ≠ 0 ∧ letK (IntKind.u64.wrap (Int.tdiv n13 n8)) fun n17 =>
  letK (IntKind.u64.wrap (n17 * n8)) fun n18 =>
  letK (IntKind.u64.wrap (n13 - n18)) fun n19 =>
  (∃ n, L11.t R n n7 n6 n8 n9 n13 n15 n16 n17 n19 h4))
def D3.g (R : Rt) (fr : Fr) (h : Hp) : Prop := gInt .u64 (fr 0) fun x0 => gInt .u64 (fr 1) fun x1 => gInt .u64 (fr 2) fun x2 => D3.t R x0 x1 x2 h
theorem D3.ok (R : Rt) (fr : Fr) (h : Hp) (g : D3.g R fr h) : den prog E (cAt C [true, true, true]) (retQ E [.tmp 6, .tmp 7] R) fr h := by
  obtain ⟨x0, e0, g⟩ := gInt_elim g
  obtain ⟨x1, e1, g⟩ := gInt_elim g
  obtain ⟨x2, e2, g⟩ := gInt_elim g
  exact den_cut 11 (r := (cAt C [true, true, true, true, true, true, true, true, true, true, true, true, true, true])) (by kernel_rfl) (W15.ok R) (den_enter [(0, .int .u64 x0), (1, .int .u64 x1), (2, .int .u64 x2)] ⟨e0, e1, e2, trivial⟩ (by kernel_rfl) g)
def D2.t (R : Rt) (x0 : Int) (x1 : Int) (x2 : Int) (h : Hp) : Prop :=
  cond (decide (x2 ≤ x0)) (False) (D3.t R x0 x1 x2 h)
def D2.g (R : Rt) (fr : Fr) (h : Hp) : Prop := gInt .u64 (fr 0) fun x0 => gInt .u64 (fr 1) fun x1 => gInt .u64 (fr 2) fun x2 => D2.t R x0 x1 x2 h
theorem D2.ok (R : Rt) (fr : Fr) (h : Hp) (g : D2.g R fr h) : den prog E (cAt C [true, true]) (retQ E [.tmp 6, .tmp 7] R) fr h := by
  obtain ⟨x0, e0, g⟩ := gInt_elim g
  obtain ⟨x1, e1, g⟩ := gInt_elim g
  obtain ⟨x2, e2, g⟩ := gInt_elim g
  exact den_cut 1 (r := (cAt C [true, true, true])) (by kernel_rfl) (D3.ok R) (den_enter [(0, .int .u64 x0), (1, .int .u64 x1), (2, .int .u64 x2)] ⟨e0, e1, e2, trivial⟩ (by kernel_rfl) g)
def D1.t (R : Rt) (x0 : Int) (x1 : Int) (x2 : Int) (h : Hp) : Prop :=
  cond (x2 == 0) (False) (D2.t R x0 x1 x2 h)
def D1.g (R : Rt) (fr : Fr) (h : Hp) : Prop := gInt .u64 (fr 0) fun x0 => gInt .u64 (fr 1) fun x1 => gInt .u64 (fr 2) fun x2 => D1.t R x0 x1 x2 h
theorem D1.ok (R : Rt) (fr : Fr) (h : Hp) (g : D1.g R fr h) : den prog E C (retQ E [.tmp 6, .tmp 7] R) fr h := by
  obtain ⟨x0, e0, g⟩ := gInt_elim g
  obtain ⟨x1, e1, g⟩ := gInt_elim g
  obtain ⟨x2, e2, g⟩ := gInt_elim g
  exact den_cut 2 (r := (cAt C [true, true])) (by kernel_rfl) (D2.ok R) (den_enter [(0, .int .u64 x0), (1, .int .u64 x1), (2, .int .u64 x2)] ⟨e0, e1, e2, trivial⟩ (by kernel_rfl) g)
def t (x0 : Int) (x1 : Int) (x2 : Int) (h : Hp) (R : Rt) : Prop := D1.t R x0 x1 x2 h
theorem ok {x0 : Int} {x1 : Int} {x2 : Int} {h : Hp} {R : Rt} (g : t x0 x1 x2 h R) : HC id #[.int .u64 x0, .int .u64 x1, .int .u64 x2] h R :=
  calls_of_den' envOk (c := C) (rs := [.tmp 6, .tmp 7]) Tryd.func36 (by kernel_rfl) (by kernel_rfl) (by kernel_rfl) (args := [.int .u64 x0, .int .u64 x1, .int .u64 x2]) (by kernel_rfl) (D1.ok R _ h (gInt_intro rfl (gInt_intro rfl (gInt_intro rfl (g)))))
end bits_Div64

namespace gnomonlaw01_doc
noncomputable def C : Code := bodyOf Tryd.f37
def D2.t (R : Rt) (a5 : Option Addr) (l5 : Nat) (c5 : Nat) (x6 : Int) (x7 : Int) (h : Hp) : Prop :=
  R (.tuple #[.slice a5 l5 c5, .int .u64 x6, .int .i64 x7]) h
def D2.g (R : Rt) (fr : Fr) (h : Hp) : Prop := gSlice (fr 5) fun a5 l5 c5 => gInt .u64 (fr 6) fun x6 => gInt .i64 (fr 7) fun x7 => D2.t R a5 l5 c5 x6 x7 h
theorem D2.ok (R : Rt) (fr : Fr) (h : Hp) (g : D2.g R fr h) : den prog E (cAt C [true, true, true, true, true]) (retQ E [.tmp 2, .tmp 3, .tmp 4] R) fr h := by
  obtain ⟨a5, l5, c5, e5, g⟩ := gSlice_elim g
  obtain ⟨x6, e6, g⟩ := gInt_elim g
  obtain ⟨x7, e7, g⟩ := gInt_elim g
  exact den_enter [(5, .slice a5 l5 c5), (6, .int .u64 x6), (7, .int .i64 x7)] ⟨e5, e6, e7, trivial⟩ (by kernel_rfl) g
def D1.t (R : Rt) (x0_0 : Int) (a0_1 : Option Addr) (l0_1 : Nat) (c0_1 : Nat) (a0_2 : Option Addr) (l0_2 : Nat) (c0_2 : Nat) (x0_3 : Int) (x0_4 : Int) (h : Hp) : Prop :=
  boxK h 43 [.int .i64 x0_0, .slice a0_1 l0_1 c0_1, .slice a0_2 l0_2 c0_2, .int .i64 x0_3, .int .u64 x0_4] fun q1 h2 =>
  ldK h2 (q1.add 0) fun v3 =>
  gInt .i64 v3 fun x_4 =>
  cond (x_4 == 2) (ldK h2 (q1.add 1) fun v5 =>
  gSlice v5 fun a_6 l_6 c_6 =>
  HC gnomonref01_DocNorm.id #[.slice a_6 l_6 c_6] h2 fun v7 h8 =>
  gTup v7 fun y9 =>
  uncons y9 fun v10 y10 =>
  gSlice v10 fun a_11 l_11 c_11 =>
  uncons y10 fun v12 y12 =>
  gInt .i64 v12 fun x_13 =>
  unnil y12 <| D2.t R a_11 l_11 c_11 0 x_13 h8) (cond (x_4 == 3) (ldK h2 (q1.add 4) fun v14 =>
  gInt .u64 v14 fun x_15 =>
  HC gnomonref01_DocWord.id #[.int .u64 x_15] h2 fun v16 h17 =>
  gSlice v16 fun a_18 l_18 c_18 =>
  D2.t R a_18 l_18 c_18 0 0 h17) (cond (x_4 == 8) (ldK h2 (q1.add 1) fun v19 =>
  gSlice v19 fun a_20 l_20 c_20 =>
  ldK h2 (q1.add 2) fun v21 =>
  gSlice v21 fun a_22 l_22 c_22 =>
  HC gnomonref01_DocAdd.id #[.slice a_20 l_20 c_20, .slice a_22 l_22 c_22] h2 fun v23 h24 =>
  gTup v23 fun y25 =>
  uncons y25 fun v26 y26 =>
  gSlice v26 fun a_27 l_27 c_27 =>
  uncons y26 fun v28 y28 =>
  gInt .i64 v28 fun x_29 =>
  unnil y28 <| D2.t R a_27 l_27 c_27 0 x_29 h24) (cond (x_4 == 9) (ldK h2 (q1.add 1) fun v30 =>
  gSlice v30 fun a_31 l_31 c_31 =>
  ldK h2 (q1.add 2) fun v32 =>
  gSlice v32 fun a_33 l_33 c_33 =>
  HC gnomonref01_DocSub.id #[.slice a_31 l_31 c_31, .slice a_33 l_33 c_33] h2 fun v34 h35 =>
  gTup v34 fun y36 =>
  uncons y36 fun v37 y37 =>
  gSlice v37 fun a_38 l_38 c_38 =>
  uncons y37 fun v39 y39 =>
  gInt .i64 v39 fun x_40 =>
  unnil y39 <| D2.t R a_38 l_38 c_38 0 x_40 h35) (cond (x_4 == 10) (ldK h2 (q1.add 1) fun v41 =>
  gSlice v41 fun a_42 l_42 c_42 =>
  ldK h2 (q1.add 3) fun v43 =>
  gInt .i64 v43 fun x_44 =>
  HC gnomonref01_DocShl.id #[.slice a_42 l_42 c_42, .int .i64 x_44] h2 fun v45 h46 =>
  gTup v45 fun y47 =>
  uncons y47 fun v48 y48 =>
  gSlice v48 fun a_49 l_49 c_49 =>
  uncons y48 fun v50 y50 =>
  gInt .i64 v50 fun x_51 =>
  unnil y50 <| D2.t R a_49 l_49 c_49 0 x_51 h46) (cond (x_4 == 11) (ldK h2 (q1.add 1) fun v52 =>
  gSlice v52 fun a_53 l_53 c_53 =>
  ldK h2 (q1.add 3) fun v54 =>
  gInt .i64 v54 fun x_55 =>
  HC gnomonref01_DocShr.id #[.slice a_53 l_53 c_53, .int .i64 x_55] h2 fun v56 h57 =>
  gTup v56 fun y58 =>
  uncons y58 fun v59 y59 =>
  gSlice v59 fun a_60 l_60 c_60 =>
  uncons y59 fun v61 y61 =>
  gInt .i64 v61 fun x_62 =>
  unnil y61 <| D2.t R a_60 l_60 c_60 0 x_62 h57) (cond (x_4 == 12) (ldK h2 (q1.add 1) fun v63 =>
  gSlice v63 fun a_64 l_64 c_64 =>
  ldK h2 (q1.add 3) fun v65 =>
  gInt .i64 v65 fun x_66 =>
  HC gnomonref01_DocLow.id #[.slice a_64 l_64 c_64, .int .i64 x_66] h2 fun v67 h68 =>
  gTup v67 fun y69 =>
  uncons y69 fun v70 y70 =>
  gSlice v70 fun a_71 l_71 c_71 =>
  uncons y70 fun v72 y72 =>
  gInt .i64 v72 fun x_73 =>
  unnil y72 <| D2.t R a_71 l_71 c_71 0 x_73 h68) (cond (x_4 == 13) (ldK h2 (q1.add 1) fun v74 =>
  gSlice v74 fun a_75 l_75 c_75 =>
  ldK h2 (q1.add 4) fun v76 =>
  gInt .u64 v76 fun x_77 =>
  HC gnomonref01_DocMulWord.id #[.slice a_75 l_75 c_75, .int .u64 x_77] h2 fun v78 h79 =>
  gTup v78 fun y80 =>
  uncons y80 fun v81 y81 =>
  gSlice v81 fun a_82 l_82 c_82 =>
  uncons y81 fun v83 y83 =>
  gInt .i64 v83 fun x_84 =>
  unnil y83 <| D2.t R a_82 l_82 c_82 0 x_84 h79) (cond (x_4 == 14) (ldK h2 (q1.add 1) fun v85 =>
  gSlice v85 fun a_86 l_86 c_86 =>
  ldK h2 (q1.add 4) fun v87 =>
  gInt .u64 v87 fun x_88 =>
  HC gnomonref01_DocDivWord.id #[.slice a_86 l_86 c_86, .int .u64 x_88] h2 fun v89 h90 =>
  gTup v89 fun y91 =>
  uncons y91 fun v92 y92 =>
  gSlice v92 fun a_93 l_93 c_93 =>
  uncons y92 fun v94 y94 =>
  gInt .u64 v94 fun x_95 =>
  uncons y94 fun v96 y96 =>
  gInt .i64 v96 fun x_97 =>
  unnil y96 <| D2.t R a_93 l_93 c_93 x_95 x_97 h90) (D2.t R none 0 0 0 0 h2)))))))))
def D1.g (R : Rt) (fr : Fr) (h : Hp) : Prop := gAgg (fr 0) fun z0 => uncons z0 fun w0_0 z0_0 => gInt .i64 w0_0 fun x0_0 => uncons z0_0 fun w0_1 z0_1 => gSlice w0_1 fun a0_1 l0_1 c0_1 => uncons z0_1 fun w0_2 z0_2 => gSlice w0_2 fun a0_2 l0_2 c0_2 => uncons z0_2 fun w0_3 z0_3 => gInt .i64 w0_3 fun x0_3 => uncons z0_3 fun w0_4 z0_4 => gInt .u64 w0_4 fun x0_4 => unnil z0_4 <| D1.t R x0_0 a0_1 l0_1 c0_1 a0_2 l0_2 c0_2 x0_3 x0_4 h
theorem D1.ok (R : Rt) (fr : Fr) (h : Hp) (g : D1.g R fr h) : den prog E C (retQ E [.tmp 2, .tmp 3, .tmp 4] R) fr h := by
  obtain ⟨z0, e0, g0_0⟩ := gAgg_elim' g
  obtain ⟨w0_0, z0_0, rfl, g0_0x⟩ := uncons_elim g0_0
  obtain ⟨x0_0, rfl, g0_1⟩ := gInt_elim g0_0x
  obtain ⟨w0_1, z0_1, rfl, g0_1x⟩ := uncons_elim g0_1
  obtain ⟨a0_1, l0_1, c0_1, rfl, g0_2⟩ := gSlice_elim g0_1x
  obtain ⟨w0_2, z0_2, rfl, g0_2x⟩ := uncons_elim g0_2
  obtain ⟨a0_2, l0_2, c0_2, rfl, g0_3⟩ := gSlice_elim g0_2x
  obtain ⟨w0_3, z0_3, rfl, g0_3x⟩ := uncons_elim g0_3
  obtain ⟨x0_3, rfl, g0_4⟩ := gInt_elim g0_3x
  obtain ⟨w0_4, z0_4, rfl, g0_4x⟩ := uncons_elim g0_4
  obtain ⟨x0_4, rfl, g0_5⟩ := gInt_elim g0_4x
  obtain ⟨rfl, g⟩ := unnil_elim g0_5
  exact den_cut 5 (r := (cAt C [true, true, true, true, true])) (by kernel_rfl) (D2.ok R) (den_enter [(0, .agg #[.int .i64 x0_0, .slice a0_1 l0_1 c0_1, .slice a0_2 l0_2 c0_2, .int .i64 x0_3, .int .u64 x0_4])] ⟨e0, trivial⟩ (by kernel_rfl) g)
def t (x0_0 : Int) (a0_1 : Option Addr) (l0_1 : Nat) (c0_1 : Nat) (a0_2 : Option Addr) (l0_2 : Nat) (c0_2 : Nat) (x0_3 : Int) (x0_4 : Int) (h : Hp) (R : Rt) : Prop := D1.t R x0_0 a0_1 l0_1 c0_1 a0_2 l0_2 c0_2 x0_3 x0_4 h
theorem ok {x0_0 : Int} {a0_1 : Option Addr} {l0_1 : Nat} {c0_1 : Nat} {a0_2 : Option Addr} {l0_2 : Nat} {c0_2 : Nat} {x0_3 : Int} {x0_4 : Int} {h : Hp} {R : Rt} (g : t x0_0 a0_1 l0_1 c0_1 a0_2 l0_2 c0_2 x0_3 x0_4 h R) : HC id #[.agg #[.int .i64 x0_0, .slice a0_1 l0_1 c0_1, .slice a0_2 l0_2 c0_2, .int .i64 x0_3, .int .u64 x0_4]] h R :=
  calls_of_den' envOk (c := C) (rs := [.tmp 2, .tmp 3, .tmp 4]) Tryd.func37 (by kernel_rfl) (by kernel_rfl) (by kernel_rfl) (args := [.agg #[.int .i64 x0_0, .slice a0_1 l0_1 c0_1, .slice a0_2 l0_2 c0_2, .int .i64 x0_3, .int .u64 x0_4]]) (by kernel_rfl) (D1.ok R _ h (gAgg_intro rfl (uncons_intro (gInt_intro rfl (uncons_intro (gSlice_intro rfl (uncons_intro (gSlice_intro rfl (uncons_intro (gInt_intro rfl (uncons_intro (gInt_intro rfl (unnil_intro (g))))))))))))))
end gnomonlaw01_doc

namespace gnomonref01_Spare
noncomputable def C : Code := bodyOf Tryd.f38
def D2.t (R : Rt) (a0 : Option Addr) (l0 : Nat) (c0 : Nat) (a4 : Option Addr) (l4 : Nat) (c4 : Nat) (h : Hp) : Prop :=
  slK 1 a4 l4 c4 none (some (.int .i64 (((l0 : Nat) : Int)))) none fun a_5 l_5 c_5 =>
  R (.tuple #[.slice a_5 l_5 c_5, .slice a4 l4 c4]) h
def D2.g (R : Rt) (fr : Fr) (h : Hp) : Prop := gSlice (fr 0) fun a0 l0 c0 => gSlice (fr 4) fun a4 l4 c4 => D2.t R a0 l0 c0 a4 l4 c4 h
theorem D2.ok (R : Rt) (fr : Fr) (h : Hp) (g : D2.g R fr h) : den prog E (cAt C [true, true, true, true]) (retQ E [.tmp 2, .tmp 3] R) fr h := by
  obtain ⟨a0, l0, c0, e0, g⟩ := gSlice_elim g
  obtain ⟨a4, l4, c4, e4, g⟩ := gSlice_elim g
  exact den_enter [(0, .slice a0 l0 c0), (4, .slice a4 l4 c4)] ⟨e0, e4, trivial⟩ (by kernel_rfl) g
def L4.g (N : Option Addr → Nat → Nat → Option Addr → Nat → Nat → Int → Hp → Prop) (fr : Fr) (h : Hp) : Prop := gSlice (fr 0) fun a0 l0 c0 => gSlice (fr 4) fun a4 l4 c4 => gInt .i64 (fr 5) fun x5 => N a0 l0 c0 a4 l4 c4 x5 h
def D5.t (R : Rt) (N4 : Option Addr → Nat → Nat → Option Addr → Nat → Nat → Int → Hp → Prop) (a0 : Option Addr) (l0 : Nat) (c0 : Nat) (a4 : Option Addr) (l4 : Nat) (c4 : Nat) (x5 : Int) (h : Hp) : Prop :=
  cond (decide (x5 < (((l4 : Nat) : Int)))) (HQC gnomonref01_mark.id #[.int .i64 (-1), .int .i64 x5] h fun v6 =>
  gInt .u64 v6 fun x_7 =>
  idxK a4 l4 x5 1 fun q8 =>
  stK h q8 (.int .u64 x_7) fun h9 =>
  letK (IntKind.i64.wrap (x5 + 1)) fun n10 =>
  N4 a0 l0 c0 a4 l4 c4 n10 h9) (D2.t R a0 l0 c0 a4 l4 c4 h)
def D5.g (R : Rt) (N4 : Option Addr → Nat → Nat → Option Addr → Nat → Nat → Int → Hp → Prop) (fr : Fr) (h : Hp) : Prop := gSlice (fr 0) fun a0 l0 c0 => gSlice (fr 4) fun a4 l4 c4 => gInt .i64 (fr 5) fun x5 => D5.t R N4 a0 l0 c0 a4 l4 c4 x5 h
theorem D5.ok (R : Rt) (N4 : Option Addr → Nat → Nat → Option Addr → Nat → Nat → Int → Hp → Prop) (fr : Fr) (h : Hp) (g : D5.g R N4 fr h) : den prog E (cAt C [true, true, true, false, true, false, false]) (Ex.then (L4.g N4) (Ex.inBlock 0 (Ex.then (D2.g R) (retQ E [.tmp 2, .tmp 3] R)))) fr h := by
  obtain ⟨a0, l0, c0, e0, g⟩ := gSlice_elim g
  obtain ⟨a4, l4, c4, e4, g⟩ := gSlice_elim g
  obtain ⟨x5, e5, g⟩ := gInt_elim g
  exact den_enter [(0, .slice a0 l0 c0), (4, .slice a4 l4 c4), (5, .int .i64 x5)] ⟨e0, e4, e5, trivial⟩ (by kernel_rfl) g
def L4.t (R : Rt) : Nat → Option Addr → Nat → Nat → Option Addr → Nat → Nat → Int → Hp → Prop
  | 0 => fun _ _ _ _ _ _ _ _ => False
  | n + 1 => fun a0 l0 c0 a4 l4 c4 x5 h => D5.t R (L4.t R n) a0 l0 c0 a4 l4 c4 x5 h
theorem L4.ok (R : Rt) (fr : Fr) (h : Hp) (g : L4.g (fun a0 l0 c0 a4 l4 c4 x5 h => ∃ n, L4.t R n a0 l0 c0 a4 l4 c4 x5 h) fr h) : den prog E (cAt C [true, true, true, false, true, false]) (Ex.inBlock 0 (Ex.then (D2.g R) (retQ E [.tmp 2, .tmp 3] R))) fr h := by
  obtain ⟨a0, l0, c0, e0, g⟩ := gSlice_elim g
  obtain ⟨a4, l4, c4, e4, g⟩ := gSlice_elim g
  obtain ⟨x5, e5, g⟩ := gInt_elim g
  obtain ⟨n, g⟩ := g
  refine loop_ok (fun n => L4.g (L4.t R n)) (b := (cAt C [true, true, true, false, true, false, false])) (by kernel_rfl) (fun fr h g => ?_) (fun n => D5.ok R (L4.t R n)) n fr h (gSlice_intro e0 (gSlice_intro e4 (gInt_intro e5 (g))))
  obtain ⟨a0, l0, c0, e0, g⟩ := gSlice_elim g
  obtain ⟨a4, l4, c4, e4, g⟩ := gSlice_elim g
  obtain ⟨x5, e5, g⟩ := gInt_elim g
  exact g
theorem B6.ok (R : Rt) (fr : Fr) (h : Hp) (g : L4.g (fun a0 l0 c0 a4 l4 c4 x5 h => ∃ n, L4.t R n a0 l0 c0 a4 l4 c4 x5 h) fr h) : den prog E (cAt C [true, true, true, false, true]) (Ex.then (D2.g R) (retQ E [.tmp 2, .tmp 3] R)) fr h :=
  den_block (by kernel_rfl) (L4.ok R fr h g)
def D3.t (R : Rt) (a0 : Option Addr) (l0 : Nat) (c0 : Nat) (a4 : Option Addr) (l4 : Nat) (c4 : Nat) (h : Hp) : Prop :=
  (∃ n, L4.t R n a0 l0 c0 a4 l4 c4 (((l0 : Nat) : Int)) h)
def D3.g (R : Rt) (fr : Fr) (h : Hp) : Prop := gSlice (fr 0) fun a0 l0 c0 => gSlice (fr 4) fun a4 l4 c4 => D3.t R a0 l0 c0 a4 l4 c4 h
theorem D3.ok (R : Rt) (fr : Fr) (h : Hp) (g : D3.g R fr h) : den prog E (cAt C [true, true, true, false]) (Ex.then (D2.g R) (retQ E [.tmp 2, .tmp 3] R)) fr h := by
  obtain ⟨a0, l0, c0, e0, g⟩ := gSlice_elim g
  obtain ⟨a4, l4, c4, e4, g⟩ := gSlice_elim g
  exact den_cut 1 (r := (cAt C [true, true, true, false, true])) (by kernel_rfl) (B6.ok R) (den_enter [(0, .slice a0 l0 c0), (4, .slice a4 l4 c4)] ⟨e0, e4, trivial⟩ (by kernel_rfl) g)
theorem W7.ok (R : Rt) (fr : Fr) (h : Hp) (g : D3.g R fr h) : den prog E (cAt C [true, true, true]) (retQ E [.tmp 2, .tmp 3] R) fr h :=
  den_then (by kernel_rfl) (D2.ok R) (D3.ok R fr h g)
def D1.t (R : Rt) (a0 : Option Addr) (l0 : Nat) (c0 : Nat) (h : Hp) : Prop :=
  letK (IntKind.i64.wrap ((((l0 : Nat) : Int)) + 80)) fun n1 =>
  mkK h 27 T27 n1 n1 fun q2 h3 =>
  cpK h3 1 (some q2) n1.toNat (.slice a0 l0 c0) fun n4 h4 =>
  D3.t R a0 l0 c0 (some q2) n1.toNat n1.toNat h4
def D1.g (R : Rt) (fr : Fr) (h : Hp) : Prop := gSlice (fr 0) fun a0 l0 c0 => D1.t R a0 l0 c0 h
theorem D1.ok (R : Rt) (fr : Fr) (h : Hp) (g : D1.g R fr h) : den prog E C (retQ E [.tmp 2, .tmp 3] R) fr h := by
  obtain ⟨a0, l0, c0, e0, g⟩ := gSlice_elim g
  exact den_cut 3 (r := (cAt C [true, true, true])) (by kernel_rfl) (W7.ok R) (den_enter [(0, .slice a0 l0 c0)] ⟨e0, trivial⟩ (by kernel_rfl) g)
def t (a0 : Option Addr) (l0 : Nat) (c0 : Nat) (h : Hp) (R : Rt) : Prop := D1.t R a0 l0 c0 h
theorem ok {a0 : Option Addr} {l0 : Nat} {c0 : Nat} {h : Hp} {R : Rt} (g : t a0 l0 c0 h R) : HC id #[.slice a0 l0 c0] h R :=
  calls_of_den' envOk (c := C) (rs := [.tmp 2, .tmp 3]) Tryd.func38 (by kernel_rfl) (by kernel_rfl) (by kernel_rfl) (args := [.slice a0 l0 c0]) (by kernel_rfl) (D1.ok R _ h (gSlice_intro rfl (g)))
end gnomonref01_Spare

namespace gnomonlaw01_list
noncomputable def C : Code := bodyOf Tryd.f39
def D2.t (R : Rt) (a5 : Option Addr) (l5 : Nat) (c5 : Nat) (x6 : Int) (x7 : Int) (h : Hp) : Prop :=
  R (.tuple #[.slice a5 l5 c5, .int .u64 x6, .int .i64 x7]) h
def D2.g (R : Rt) (fr : Fr) (h : Hp) : Prop := gSlice (fr 5) fun a5 l5 c5 => gInt .u64 (fr 6) fun x6 => gInt .i64 (fr 7) fun x7 => D2.t R a5 l5 c5 x6 x7 h
theorem D2.ok (R : Rt) (fr : Fr) (h : Hp) (g : D2.g R fr h) : den prog E (cAt C [true, true, true, true, true]) (retQ E [.tmp 2, .tmp 3, .tmp 4] R) fr h := by
  obtain ⟨a5, l5, c5, e5, g⟩ := gSlice_elim g
  obtain ⟨x6, e6, g⟩ := gInt_elim g
  obtain ⟨x7, e7, g⟩ := gInt_elim g
  exact den_enter [(5, .slice a5 l5 c5), (6, .int .u64 x6), (7, .int .i64 x7)] ⟨e5, e6, e7, trivial⟩ (by kernel_rfl) g
def D1.t (R : Rt) (x0_0 : Int) (a0_1 : Option Addr) (l0_1 : Nat) (c0_1 : Nat) (a0_2 : Option Addr) (l0_2 : Nat) (c0_2 : Nat) (x0_3 : Int) (x0_4 : Int) (h : Hp) : Prop :=
  boxK h 43 [.int .i64 x0_0, .slice a0_1 l0_1 c0_1, .slice a0_2 l0_2 c0_2, .int .i64 x0_3, .int .u64 x0_4] fun q1 h2 =>
  ldK h2 (q1.add 0) fun v3 =>
  gInt .i64 v3 fun x_4 =>
  cond (x_4 == 2) (ldK h2 (q1.add 1) fun v5 =>
  gSlice v5 fun a_6 l_6 c_6 =>
  HC nat_Norm.id #[.slice a_6 l_6 c_6] h2 fun v7 h8 =>
  gTup v7 fun y9 =>
  uncons y9 fun v10 y10 =>
  gSlice v10 fun a_11 l_11 c_11 =>
  uncons y10 fun v12 y12 =>
  gInt .i64 v12 fun x_13 =>
  unnil y12 <| D2.t R a_11 l_11 c_11 0 x_13 h8) (cond (x_4 == 3) (ldK h2 (q1.add 4) fun v14 =>
  gInt .u64 v14 fun x_15 =>
  HC nat_Word.id #[.int .u64 x_15] h2 fun v16 h17 =>
  gSlice v16 fun a_18 l_18 c_18 =>
  D2.t R a_18 l_18 c_18 0 0 h17) (cond (x_4 == 8) (ldK h2 (q1.add 1) fun v19 =>
  gSlice v19 fun a_20 l_20 c_20 =>
  ldK h2 (q1.add 2) fun v21 =>
  gSlice v21 fun a_22 l_22 c_22 =>
  HC nat_Add.id #[.slice a_20 l_20 c_20, .slice a_22 l_22 c_22] h2 fun v23 h24 =>
  gTup v23 fun y25 =>
  uncons y25 fun v26 y26 =>
  gSlice v26 fun a_27 l_27 c_27 =>
  uncons y26 fun v28 y28 =>
  gInt .i64 v28 fun x_29 =>
  unnil y28 <| D2.t R a_27 l_27 c_27 0 x_29 h24) (cond (x_4 == 9) (ldK h2 (q1.add 1) fun v30 =>
  gSlice v30 fun a_31 l_31 c_31 =>
  ldK h2 (q1.add 2) fun v32 =>
  gSlice v32 fun a_33 l_33 c_33 =>
  HC nat_Sub.id #[.slice a_31 l_31 c_31, .slice a_33 l_33 c_33] h2 fun v34 h35 =>
  gTup v34 fun y36 =>
  uncons y36 fun v37 y37 =>
  gSlice v37 fun a_38 l_38 c_38 =>
  uncons y37 fun v39 y39 =>
  gInt .i64 v39 fun x_40 =>
  unnil y39 <| D2.t R a_38 l_38 c_38 0 x_40 h35) (cond (x_4 == 10) (ldK h2 (q1.add 1) fun v41 =>
  gSlice v41 fun a_42 l_42 c_42 =>
  ldK h2 (q1.add 3) fun v43 =>
  gInt .i64 v43 fun x_44 =>
  HC nat_Shl.id #[.slice a_42 l_42 c_42, .int .i64 x_44] h2 fun v45 h46 =>
  gTup v45 fun y47 =>
  uncons y47 fun v48 y48 =>
  gSlice v48 fun a_49 l_49 c_49 =>
  uncons y48 fun v50 y50 =>
  gInt .i64 v50 fun x_51 =>
  unnil y50 <| D2.t R a_49 l_49 c_49 0 x_51 h46) (cond (x_4 == 11) (ldK h2 (q1.add 1) fun v52 =>
  gSlice v52 fun a_53 l_53 c_53 =>
  ldK h2 (q1.add 3) fun v54 =>
  gInt .i64 v54 fun x_55 =>
  HC nat_Shr.id #[.slice a_53 l_53 c_53, .int .i64 x_55] h2 fun v56 h57 =>
  gTup v56 fun y58 =>
  uncons y58 fun v59 y59 =>
  gSlice v59 fun a_60 l_60 c_60 =>
  uncons y59 fun v61 y61 =>
  gInt .i64 v61 fun x_62 =>
  unnil y61 <| D2.t R a_60 l_60 c_60 0 x_62 h57) (cond (x_4 == 12) (ldK h2 (q1.add 1) fun v63 =>
  gSlice v63 fun a_64 l_64 c_64 =>
  ldK h2 (q1.add 3) fun v65 =>
  gInt .i64 v65 fun x_66 =>
  HC nat_Low.id #[.slice a_64 l_64 c_64, .int .i64 x_66] h2 fun v67 h68 =>
  gTup v67 fun y69 =>
  uncons y69 fun v70 y70 =>
  gSlice v70 fun a_71 l_71 c_71 =>
  uncons y70 fun v72 y72 =>
  gInt .i64 v72 fun x_73 =>
  unnil y72 <| D2.t R a_71 l_71 c_71 0 x_73 h68) (cond (x_4 == 13) (ldK h2 (q1.add 1) fun v74 =>
  gSlice v74 fun a_75 l_75 c_75 =>
  ldK h2 (q1.add 4) fun v76 =>
  gInt .u64 v76 fun x_77 =>
  HC nat_MulWord.id #[.slice a_75 l_75 c_75, .int .u64 x_77] h2 fun v78 h79 =>
  gTup v78 fun y80 =>
  uncons y80 fun v81 y81 =>
  gSlice v81 fun a_82 l_82 c_82 =>
  uncons y81 fun v83 y83 =>
  gInt .i64 v83 fun x_84 =>
  unnil y83 <| D2.t R a_82 l_82 c_82 0 x_84 h79) (cond (x_4 == 14) (ldK h2 (q1.add 1) fun v85 =>
  gSlice v85 fun a_86 l_86 c_86 =>
  ldK h2 (q1.add 4) fun v87 =>
  gInt .u64 v87 fun x_88 =>
  HC nat_DivWord.id #[.slice a_86 l_86 c_86, .int .u64 x_88] h2 fun v89 h90 =>
  gTup v89 fun y91 =>
  uncons y91 fun v92 y92 =>
  gSlice v92 fun a_93 l_93 c_93 =>
  uncons y92 fun v94 y94 =>
  gInt .u64 v94 fun x_95 =>
  uncons y94 fun v96 y96 =>
  gInt .i64 v96 fun x_97 =>
  unnil y96 <| D2.t R a_93 l_93 c_93 x_95 x_97 h90) (D2.t R none 0 0 0 0 h2)))))))))
def D1.g (R : Rt) (fr : Fr) (h : Hp) : Prop := gAgg (fr 0) fun z0 => uncons z0 fun w0_0 z0_0 => gInt .i64 w0_0 fun x0_0 => uncons z0_0 fun w0_1 z0_1 => gSlice w0_1 fun a0_1 l0_1 c0_1 => uncons z0_1 fun w0_2 z0_2 => gSlice w0_2 fun a0_2 l0_2 c0_2 => uncons z0_2 fun w0_3 z0_3 => gInt .i64 w0_3 fun x0_3 => uncons z0_3 fun w0_4 z0_4 => gInt .u64 w0_4 fun x0_4 => unnil z0_4 <| D1.t R x0_0 a0_1 l0_1 c0_1 a0_2 l0_2 c0_2 x0_3 x0_4 h
theorem D1.ok (R : Rt) (fr : Fr) (h : Hp) (g : D1.g R fr h) : den prog E C (retQ E [.tmp 2, .tmp 3, .tmp 4] R) fr h := by
  obtain ⟨z0, e0, g0_0⟩ := gAgg_elim' g
  obtain ⟨w0_0, z0_0, rfl, g0_0x⟩ := uncons_elim g0_0
  obtain ⟨x0_0, rfl, g0_1⟩ := gInt_elim g0_0x
  obtain ⟨w0_1, z0_1, rfl, g0_1x⟩ := uncons_elim g0_1
  obtain ⟨a0_1, l0_1, c0_1, rfl, g0_2⟩ := gSlice_elim g0_1x
  obtain ⟨w0_2, z0_2, rfl, g0_2x⟩ := uncons_elim g0_2
  obtain ⟨a0_2, l0_2, c0_2, rfl, g0_3⟩ := gSlice_elim g0_2x
  obtain ⟨w0_3, z0_3, rfl, g0_3x⟩ := uncons_elim g0_3
  obtain ⟨x0_3, rfl, g0_4⟩ := gInt_elim g0_3x
  obtain ⟨w0_4, z0_4, rfl, g0_4x⟩ := uncons_elim g0_4
  obtain ⟨x0_4, rfl, g0_5⟩ := gInt_elim g0_4x
  obtain ⟨rfl, g⟩ := unnil_elim g0_5
  exact den_cut 5 (r := (cAt C [true, true, true, true, true])) (by kernel_rfl) (D2.ok R) (den_enter [(0, .agg #[.int .i64 x0_0, .slice a0_1 l0_1 c0_1, .slice a0_2 l0_2 c0_2, .int .i64 x0_3, .int .u64 x0_4])] ⟨e0, trivial⟩ (by kernel_rfl) g)
def t (x0_0 : Int) (a0_1 : Option Addr) (l0_1 : Nat) (c0_1 : Nat) (a0_2 : Option Addr) (l0_2 : Nat) (c0_2 : Nat) (x0_3 : Int) (x0_4 : Int) (h : Hp) (R : Rt) : Prop := D1.t R x0_0 a0_1 l0_1 c0_1 a0_2 l0_2 c0_2 x0_3 x0_4 h
theorem ok {x0_0 : Int} {a0_1 : Option Addr} {l0_1 : Nat} {c0_1 : Nat} {a0_2 : Option Addr} {l0_2 : Nat} {c0_2 : Nat} {x0_3 : Int} {x0_4 : Int} {h : Hp} {R : Rt} (g : t x0_0 a0_1 l0_1 c0_1 a0_2 l0_2 c0_2 x0_3 x0_4 h R) : HC id #[.agg #[.int .i64 x0_0, .slice a0_1 l0_1 c0_1, .slice a0_2 l0_2 c0_2, .int .i64 x0_3, .int .u64 x0_4]] h R :=
  calls_of_den' envOk (c := C) (rs := [.tmp 2, .tmp 3, .tmp 4]) Tryd.func39 (by kernel_rfl) (by kernel_rfl) (by kernel_rfl) (args := [.agg #[.int .i64 x0_0, .slice a0_1 l0_1 c0_1, .slice a0_2 l0_2 c0_2, .int .i64 x0_3, .int .u64 x0_4]]) (by kernel_rfl) (D1.ok R _ h (gAgg_intro rfl (uncons_intro (gInt_intro rfl (uncons_intro (gSlice_intro rfl (uncons_intro (gSlice_intro rfl (uncons_intro (gInt_intro rfl (uncons_intro (gInt_intro rfl (unnil_intro (g))))))))))))))
end gnomonlaw01_list

namespace gnomonref01_Kept
noncomputable def C : Code := bodyOf Tryd.f40
def D2.t (R : Rt)  (h : Hp) : Prop :=
  R (.bool true) h
def D2.g (R : Rt) (fr : Fr) (h : Hp) : Prop := D2.t R  h
theorem D2.ok (R : Rt) (fr : Fr) (h : Hp) (g : D2.g R fr h) : den prog E (cAt C [true, true, true]) (retQ E [.tmp 4] R) fr h := by
  exact den_enter [] trivial (by kernel_rfl) g
def L4.g (N : Option Addr → Nat → Nat → Option Addr → Nat → Nat → Int → Hp → Prop) (fr : Fr) (h : Hp) : Prop := gSlice (fr 0) fun a0 l0 c0 => gSlice (fr 1) fun a1 l1 c1 => gInt .i64 (fr 5) fun x5 => N a0 l0 c0 a1 l1 c1 x5 h
def D5.t (R : Rt) (N4 : Option Addr → Nat → Nat → Option Addr → Nat → Nat → Int → Hp → Prop) (a0 : Option Addr) (l0 : Nat) (c0 : Nat) (a1 : Option Addr) (l1 : Nat) (c1 : Nat) (x5 : Int) (h : Hp) : Prop :=
  cond (decide (x5 < (((l0 : Nat) : Int)))) (cond (decide (x5 < (((l1 : Nat) : Int)))) (idxK a0 l0 x5 1 fun q2 =>
  ldK h q2 fun v3 =>
  gInt .u64 v3 fun x_4 =>
  idxK a1 l1 x5 1 fun q5 =>
  ldK h q5 fun v6 =>
  gInt .u64 v6 fun x_7 =>
  cond (x_4 != x_7) (R (.bool false) h) (cond (decide (x5 ≥ (((l1 : Nat) : Int)))) (idxK a0 l0 x5 1 fun q8 =>
  ldK h q8 fun v9 =>
  gInt .u64 v9 fun x_10 =>
  HQC gnomonref01_mark.id #[.int .i64 (-1), .int .i64 x5] h fun v11 =>
  gInt .u64 v11 fun x_12 =>
  cond (x_10 != x_12) (R (.bool false) h) (letK (IntKind.i64.wrap (x5 + 1)) fun n13 =>
  N4 a0 l0 c0 a1 l1 c1 n13 h)) (letK (IntKind.i64.wrap (x5 + 1)) fun n14 =>
  N4 a0 l0 c0 a1 l1 c1 n14 h))) (cond (decide (x5 ≥ (((l1 : Nat) : Int)))) (idxK a0 l0 x5 1 fun q15 =>
  ldK h q15 fun v16 =>
  gInt .u64 v16 fun x_17 =>
  HQC gnomonref01_mark.id #[.int .i64 (-1), .int .i64 x5] h fun v18 =>
  gInt .u64 v18 fun x_19 =>
  cond (x_17 != x_19) (R (.bool false) h) (letK (IntKind.i64.wrap (x5 + 1)) fun n20 =>
  N4 a0 l0 c0 a1 l1 c1 n20 h)) (letK (IntKind.i64.wrap (x5 + 1)) fun n21 =>
  N4 a0 l0 c0 a1 l1 c1 n21 h))) (D2.t R h)
def D5.g (R : Rt) (N4 : Option Addr → Nat → Nat → Option Addr → Nat → Nat → Int → Hp → Prop) (fr : Fr) (h : Hp) : Prop := gSlice (fr 0) fun a0 l0 c0 => gSlice (fr 1) fun a1 l1 c1 => gInt .i64 (fr 5) fun x5 => D5.t R N4 a0 l0 c0 a1 l1 c1 x5 h
theorem D5.ok (R : Rt) (N4 : Option Addr → Nat → Nat → Option Addr → Nat → Nat → Int → Hp → Prop) (fr : Fr) (h : Hp) (g : D5.g R N4 fr h) : den prog E (cAt C [true, true, false, true, false, false]) (Ex.then (L4.g N4) (Ex.inBlock 0 (Ex.then (D2.g R) (retQ E [.tmp 4] R)))) fr h := by
  obtain ⟨a0, l0, c0, e0, g⟩ := gSlice_elim g
  obtain ⟨a1, l1, c1, e1, g⟩ := gSlice_elim g
  obtain ⟨x5, e5, g⟩ := gInt_elim g
  exact den_enter [(0, .slice a0 l0 c0), (1, .slice a1 l1 c1), (5, .int .i64 x5)] ⟨e0, e1, e5, trivial⟩ (by kernel_rfl) g
def L4.t (R : Rt) : Nat → Option Addr → Nat → Nat → Option Addr → Nat → Nat → Int → Hp → Prop
  | 0 => fun _ _ _ _ _ _ _ _ => False
  | n + 1 => fun a0 l0 c0 a1 l1 c1 x5 h => D5.t R (L4.t R n) a0 l0 c0 a1 l1 c1 x5 h
theorem L4.ok (R : Rt) (fr : Fr) (h : Hp) (g : L4.g (fun a0 l0 c0 a1 l1 c1 x5 h => ∃ n, L4.t R n a0 l0 c0 a1 l1 c1 x5 h) fr h) : den prog E (cAt C [true, true, false, true, false]) (Ex.inBlock 0 (Ex.then (D2.g R) (retQ E [.tmp 4] R))) fr h := by
  obtain ⟨a0, l0, c0, e0, g⟩ := gSlice_elim g
  obtain ⟨a1, l1, c1, e1, g⟩ := gSlice_elim g
  obtain ⟨x5, e5, g⟩ := gInt_elim g
  obtain ⟨n, g⟩ := g
  refine loop_ok (fun n => L4.g (L4.t R n)) (b := (cAt C [true, true, false, true, false, false])) (by kernel_rfl) (fun fr h g => ?_) (fun n => D5.ok R (L4.t R n)) n fr h (gSlice_intro e0 (gSlice_intro e1 (gInt_intro e5 (g))))
  obtain ⟨a0, l0, c0, e0, g⟩ := gSlice_elim g
  obtain ⟨a1, l1, c1, e1, g⟩ := gSlice_elim g
  obtain ⟨x5, e5, g⟩ := gInt_elim g
  exact g
theorem B6.ok (R : Rt) (fr : Fr) (h : Hp) (g : L4.g (fun a0 l0 c0 a1 l1 c1 x5 h => ∃ n, L4.t R n a0 l0 c0 a1 l1 c1 x5 h) fr h) : den prog E (cAt C [true, true, false, true]) (Ex.then (D2.g R) (retQ E [.tmp 4] R)) fr h :=
  den_block (by kernel_rfl) (L4.ok R fr h g)
def D3.t (R : Rt) (a0 : Option Addr) (l0 : Nat) (c0 : Nat) (a1 : Option Addr) (l1 : Nat) (c1 : Nat) (h : Hp) : Prop :=
  (∃ n, L4.t R n a0 l0 c0 a1 l1 c1 0 h)
def D3.g (R : Rt) (fr : Fr) (h : Hp) : Prop := gSlice (fr 0) fun a0 l0 c0 => gSlice (fr 1) fun a1 l1 c1 => D3.t R a0 l0 c0 a1 l1 c1 h
theorem D3.ok (R : Rt) (fr : Fr) (h : Hp) (g : D3.g R fr h) : den prog E (cAt C [true, true, false]) (Ex.then (D2.g R) (retQ E [.tmp 4] R)) fr h := by
  obtain ⟨a0, l0, c0, e0, g⟩ := gSlice_elim g
  obtain ⟨a1, l1, c1, e1, g⟩ := gSlice_elim g
  exact den_cut 1 (r := (cAt C [true, true, false, true])) (by kernel_rfl) (B6.ok R) (den_enter [(0, .slice a0 l0 c0), (1, .slice a1 l1 c1)] ⟨e0, e1, trivial⟩ (by kernel_rfl) g)
theorem W7.ok (R : Rt) (fr : Fr) (h : Hp) (g : D3.g R fr h) : den prog E (cAt C [true, true]) (retQ E [.tmp 4] R) fr h :=
  den_then (by kernel_rfl) (D2.ok R) (D3.ok R fr h g)
def D1.t (R : Rt) (a0 : Option Addr) (l0 : Nat) (c0 : Nat) (a1 : Option Addr) (l1 : Nat) (c1 : Nat) (h : Hp) : Prop :=
  letK (IntKind.i64.wrap ((((l1 : Nat) : Int)) + 80)) fun n1 =>
  cond ((((l0 : Nat) : Int)) != n1) (R (.bool false) h) (D3.t R a0 l0 c0 a1 l1 c1 h)
def D1.g (R : Rt) (fr : Fr) (h : Hp) : Prop := gSlice (fr 0) fun a0 l0 c0 => gSlice (fr 1) fun a1 l1 c1 => D1.t R a0 l0 c0 a1 l1 c1 h
theorem D1.ok (R : Rt) (fr : Fr) (h : Hp) (g : D1.g R fr h) : den prog E C (retQ E [.tmp 4] R) fr h := by
  obtain ⟨a0, l0, c0, e0, g⟩ := gSlice_elim g
  obtain ⟨a1, l1, c1, e1, g⟩ := gSlice_elim g
  exact den_cut 2 (r := (cAt C [true, true])) (by kernel_rfl) (W7.ok R) (den_enter [(0, .slice a0 l0 c0), (1, .slice a1 l1 c1)] ⟨e0, e1, trivial⟩ (by kernel_rfl) g)
def t (a0 : Option Addr) (l0 : Nat) (c0 : Nat) (a1 : Option Addr) (l1 : Nat) (c1 : Nat) (h : Hp) (R : Rt) : Prop := D1.t R a0 l0 c0 a1 l1 c1 h
theorem ok {a0 : Option Addr} {l0 : Nat} {c0 : Nat} {a1 : Option Addr} {l1 : Nat} {c1 : Nat} {h : Hp} {R : Rt} (g : t a0 l0 c0 a1 l1 c1 h R) : HC id #[.slice a0 l0 c0, .slice a1 l1 c1] h R :=
  calls_of_den' envOk (c := C) (rs := [.tmp 4]) Tryd.func40 (by kernel_rfl) (by kernel_rfl) (by kernel_rfl) (args := [.slice a0 l0 c0, .slice a1 l1 c1]) (by kernel_rfl) (D1.ok R _ h (gSlice_intro rfl (gSlice_intro rfl (g))))
end gnomonref01_Kept

end Go.Proofs.YtnbpbojcjihboaaDoor.G
